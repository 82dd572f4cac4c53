/- Texts of this claim in one file: libraries and walks. -/
import Derived.Laws.OwnMore
import Derived.Handed
import Derived.ChangeSlices
import Derived.Deep.Matrix
import Derived.OpenShut
import Derived.ChangeArms
import Derived.Lib.SmallJoins
import Derived.Test.YtlmkcojimhbmiaaL0
/- More for walks: append to the call's own as a step of a region that draws its order; slices of pairs of bytes. -/
namespace Go.Proofs.Ytlmkcojimhbmiaa
set_option linter.unusedVariables false
set_option linter.unusedSimpArgs false
open Go Go.RowKit

/-- 'append(s, x...)', s the call's own, x any slice: at a step of a region that draws its order. -/
theorem step_app_own {P : Program} {t e : TypeId} {z : Value} {bytes : Nat} (ei : EI P t e z bytes) {w : World} {ops : Array Oper} {o : Oper} {a : Act} {K : Act → World → Prop} {Q : Exit → Act → World → Prop} {E : Prop}
    (hg : o.guard = none) (s x : Operand) (hop : o.op = Op.call { callee := Callee.builtin Builtin.append, args := #[s, x], argTypes := #[t, t] })
    (B : Nat) (v : Value) (n : Nat) (xs : List Value) (hs : a.eval s = v) (hown : w.ownsRow B e 1 v n xs)
    (y : Value) (c : Nat) (ys : List Value) (hx : a.eval x = y) (hy : VS w y c ys) (h1 : ∀ u ∈ ys, u.oneCell' = true)
    (hbytes : (n + ys.length) * bytes ≤ 140737488355328) (hlen : n + ys.length ≤ 140737488355328) (hB : B ≤ w.heap.size)
    (hK : ∀ v' w', w'.ownsRow B e 1 v' (n + ys.length) (xs ++ ys) → Below B w w' → K (a.put o.dst v') w') :
    if Region.wanted o (yielded ops a.tmps) = true then Oper.wp P o a w K Q else E := by
  have hw : Region.wanted o (yielded ops a.tmps) = true := by simp [Region.wanted, hg]
  rw [if_pos hw]
  obtain ⟨i, hi, hz0, hz1, hz2⟩ := info_parts ei.info
  obtain ⟨ao, rfl, hl, hm, hno, hc⟩ := hy
  have hzs : z.cells.size = 1 := by rw [ei.cell]; rfl
  cases ao with
  | none =>
    have := hno rfl
    obtain rfl : ys = [] := List.eq_nil_of_length_eq_zero (by omega)
    subst this
    have hrun := run_append_owned_none (P := P) (w := w) B t o.type e i 1 ei.und hi _ n xs hown
    unfold Oper.wp
    simp [execOp, hop, resolve, invoke, builtin, hs, hx, hrun, Result.andThen]
    exact hK _ w (by simpa using hown) (Below.refl _ _)
  | some ad =>
    obtain ⟨v', w', hrun, r1, r2, _⟩ := run_append_own (P := P) w B t o.type e i z 1 bytes ei.und hi hz0 hz1 hz2 hzs (by decide) v n xs hown ad ys.length c ys (by simp) (VS.cells hl hc ad rfl) h1 (by unfold maxLen; omega) hbytes hB
    unfold Oper.wp
    simp [execOp, hop, resolve, invoke, builtin, hs, hx, hrun, Result.andThen]
    exact hK _ w' r1 (below_of_grown hown hB r2)

/-- .. with all that is known of the new world. -/
theorem step_app_grown {P : Program} {t e : TypeId} {z : Value} {bytes : Nat} (ei : EI P t e z bytes) {w : World} {ops : Array Oper} {o : Oper} {a : Act} {K : Act → World → Prop} {Q : Exit → Act → World → Prop} {E : Prop}
    (hg : o.guard = none) (s x : Operand) (hop : o.op = Op.call { callee := Callee.builtin Builtin.append, args := #[s, x], argTypes := #[t, t] })
    (B : Nat) (v : Value) (n : Nat) (xs : List Value) (hs : a.eval s = v) (hown : w.ownsRow B e 1 v n xs)
    (y : Value) (c : Nat) (ys : List Value) (hx : a.eval x = y) (hy : VS w y c ys) (h1 : ∀ u ∈ ys, u.oneCell' = true)
    (hbytes : (n + ys.length) * bytes ≤ 140737488355328) (hlen : n + ys.length ≤ 140737488355328) (hB : B ≤ w.heap.size)
    (hK : ∀ v' w', w'.ownsRow B e 1 v' (n + ys.length) (xs ++ ys) → w.grownBy w' v.ownBlock → K (a.put o.dst v') w') :
    if Region.wanted o (yielded ops a.tmps) = true then Oper.wp P o a w K Q else E := by
  have hw : Region.wanted o (yielded ops a.tmps) = true := by simp [Region.wanted, hg]
  rw [if_pos hw]
  obtain ⟨i, hi, hz0, hz1, hz2⟩ := info_parts ei.info
  obtain ⟨ao, rfl, hl, hm, hno, hc⟩ := hy
  have hzs : z.cells.size = 1 := by rw [ei.cell]; rfl
  cases ao with
  | none =>
    have := hno rfl
    obtain rfl : ys = [] := List.eq_nil_of_length_eq_zero (by omega)
    subst this
    have hrun := run_append_owned_none (P := P) (w := w) B t o.type e i 1 ei.und hi _ n xs hown
    unfold Oper.wp
    simp [execOp, hop, resolve, invoke, builtin, hs, hx, hrun, Result.andThen]
    exact hK _ w (by simpa using hown) (World.grownBy.refl _ _)
  | some ad =>
    obtain ⟨v', w', hrun, r1, r2, _⟩ := run_append_own (P := P) w B t o.type e i z 1 bytes ei.und hi hz0 hz1 hz2 hzs (by decide) v n xs hown ad ys.length c ys (by simp) (VS.cells hl hc ad rfl) h1 (by unfold maxLen; omega) hbytes hB
    unfold Oper.wp
    simp [execOp, hop, resolve, invoke, builtin, hs, hx, hrun, Result.andThen]
    exact hK _ w' r1 r2

/-- An empty slice of the call's own. -/
theorem own0 {w : World} {B g : Nat} {e : TypeId} (hb : w.heap[g]? = some (.cells #[] e (0, 0))) (hB : B ≤ g) : w.ownsRow B e 1 (.slice (some ⟨g, 0, none⟩) 0 0) 0 [] :=
  ⟨rfl, .inr ⟨g, 0, #[], rfl, hB, hb, Nat.le_refl _, by unfold maxLen; omega, rfl, rfl⟩⟩
theorem blk_at {w : World} {o : Obj} {g : Nat} (h : g = w.heap.size) : (w.alloc o).heap[g]? = some o := by rw [h]; exact Deep.blk_alloc_new _ _
theorem blk_old {w : World} {o o' : Obj} {g : Nat} (h : w.heap[g]? = some o) : (w.alloc o').heap[g]? = some o := ((Ext.refl w).alloc o').block h
theorem blk_drew {w : World} {o : Obj} {g : Nat} (h : w.heap[g]? = some o) : w.drew.heap[g]? = some o := h
theorem blk_drewN {w : World} {o : Obj} {g n : Nat} (h : w.heap[g]? = some o) : (w.drewN n).heap[g]? = some o := h
/-- A world with some blocks more. -/
theorem Ext.of_push {w W : World} (os : Array Obj) (h1 : W.os = w.os) (h2 : W.tape = w.tape) (h3 : W.output = w.output) (h4 : W.heap = w.heap ++ os) : Ext w W :=
  ⟨h1, h2, h3, by rw [h4]; simp, fun j hj => by rw [h4, Array.getElem?_append_left hj]⟩
/-- Two numbers in a block of the call's own. -/
theorem two_is {w : World} {g : Nat} {e : TypeId} {x y : Int} (hb : w.heap[g]? = some (.cells #[.int .i64 x, .int .i64 y] e (0, 0))) : IS .i64 w (.slice (some ⟨g, 0, none⟩) 2 2) 2 [x, y] :=
  IS.mk rfl (Nat.le_refl _) (by unfold maxLen; omega) fun i hi => by
    rw [Nat.zero_add]
    have : i = 0 ∨ i = 1 := by omega
    rcases this with rfl | rfl <;> simp [World.cell?, hb, gi]

theorem IS.upto {k : IntKind} {w : World} {a : Option Addr} {n c c' : Nat} {xs : List Int} (h : IS k w (.slice a n c) c' xs) {m : Nat} (hm : m ≤ n) : IS k w (.slice a m c) c' (xs.take m) := by
  obtain ⟨rfl, rfl, hc⟩ := h.len
  obtain ⟨ao, hv, h1, h2, h3, h4⟩ := h
  simp only [Value.slice.injEq] at hv
  obtain ⟨rfl, _, _⟩ := hv
  refine ⟨a, by simp [Nat.min_eq_left hm], by simp; omega, h2, h3, fun b hb => ⟨(h4 b hb).1, fun j u hj => (h4 b hb).2 j u ?_⟩⟩
  rw [List.map_take, List.getElem?_take] at hj
  split at hj
  · exact hj
  · cases hj

theorem IS.empty {k : IntKind} {w : World} (a : Option Addr) : IS k w (.slice a 0 0) 0 [] :=
  ⟨a, rfl, Nat.le_refl _, by unfold maxLen; omega, fun _ => rfl, fun b hb => ⟨fun h => absurd h (by omega), fun j u hj => by simp at hj⟩⟩
/-- The part of a slice from i on. -/
theorem IS.from {k : IntKind} {w : World} {a : Option Addr} {n c c' : Nat} {xs : List Int} (h : IS k w (.slice a n c) c' xs) (i : Nat) (hi : i ≤ n) :
    (∃ b o, a = some ⟨b, o, none⟩ ∧ IS k w (.slice (if c = i then some ⟨b, o, none⟩ else some ⟨b, o + i, none⟩) (n - i) (c - i)) (c - i) (xs.drop i)) ∨ (c = 0 ∧ n = 0 ∧ i = 0 ∧ xs = []) := by
  obtain ⟨h1, h2, ao, hv, hao⟩ := h.open
  simp only [Value.slice.injEq] at hv
  obtain ⟨rfl, rfl, rfl⟩ := hv
  rcases hao with ⟨_, h0, h9⟩ | ⟨b, o, rfl, hc⟩
  · exact .inr ⟨h9, h0, by omega, List.eq_nil_of_length_eq_zero h0⟩
  · refine .inl ⟨b, o, rfl, ?_⟩
    split
    · exact IS.mk (by simp) (by omega) (by omega) fun j hj => by omega
    · exact IS.mk (by simp) (by omega) (by omega) fun j hj => by rw [gi_drop, Nat.add_assoc]; exact hc (i + j) (by omega)

/-- 'append(s, x...)' within the capacity, with all that is known of the new world. -/
theorem app_fits_g {P : Program} {t e : TypeId} {z : Value} {bytes : Nat} (ei : EI P t e z bytes) {w : World} {ops : Array Oper} {rest : List Oper} {o : Oper} {a : Act} {Q : Exit → Act → World → Prop}
    (hg : o.guard = none) (s x : Operand) (hop : o.op = Op.call { callee := Callee.builtin Builtin.append, args := #[s, x], argTypes := #[t, t] })
    (B g n cap : Nat) (xs : List Value) (hs : a.eval s = .slice (some ⟨g, 0, none⟩) n cap) (hown : w.ownsRow B e 1 (.slice (some ⟨g, 0, none⟩) n cap) n xs)
    (y : Value) (c : Nat) (ys : List Value) (hx : a.eval x = y) (hy : VS w y c ys) (h1 : ∀ u ∈ ys, u.oneCell' = true) (hfit : n + ys.length ≤ cap)
    (hK : ∀ w', w'.ownsRow B e 1 (.slice (some ⟨g, 0, none⟩) (n + ys.length) cap) (n + ys.length) (xs ++ ys) → w.grownBy w' (some g) → wpList P ops Q rest (a.put o.dst (.slice (some ⟨g, 0, none⟩) (n + ys.length) cap)) w') :
    wpList P ops Q (o :: rest) a w := by
  obtain ⟨i, hi, hz0, hz1, hz2⟩ := info_parts ei.info
  obtain ⟨ao, rfl, hl, hm, hno, hc⟩ := hy
  refine wpList_append_fits_any w hg s x t hop B e i 1 ei.und hi hz1 g n cap xs hs hown ao ys.length c ys hx (by simp) (fun h => ?_) (VS.cells hl hc) h1 hfit ?_
  · have := hno h; omega
  · intro w' h2 h3
    exact hK w' h2 h3

theorem own_of_row {w : World} {g m n : Nat} {e : TypeId} {f : Nat → Value} (h : w.rowIs g e n f) (hm : m ≤ n) (hn : n ≤ maxLen) : w.ownsRow g e 1 (.slice (some ⟨g, 0, none⟩) m n) m ((List.range m).map f) := by
  obtain ⟨cur, h1, h2, h3⟩ := h
  refine ⟨by simp, .inr ⟨g, n, cur, rfl, Nat.le_refl _, h1, hm, hn, by omega, ?_⟩⟩
  apply List.ext_getElem?
  intro i
  simp only [Nat.mul_one]
  by_cases hi : i < m
  · rw [List.getElem?_take, if_pos hi, Array.getElem?_toList, h3 i (by omega)]; simp [hi]
  · rw [List.getElem?_eq_none (by simp; omega), List.getElem?_eq_none (by simp; omega)]

/-- A slice of pairs of bytes: nothing, or an address and the cells. -/
def PS (w : World) (v : Value) (c : Nat) (ms : List (Int × Int)) : Prop :=
  ∃ ao : Option Addr, v = .slice ao ms.length c ∧ ms.length ≤ c ∧ c ≤ maxLen ∧ (ms = [] ∨ ∃ b o, ao = some ⟨b, o, none⟩ ∧
    ∀ i, i < ms.length → w.cell? ⟨b, o + i * 2, none⟩ = some (.int .u8 (ms.getD i (0, 0)).1) ∧ w.cell? ⟨b, o + i * 2 + 1, none⟩ = some (.int .u8 (ms.getD i (0, 0)).2))
theorem PS.ext {w w' : World} {v : Value} {c : Nat} {ms : List (Int × Int)} (h : PS w v c ms) (e : Ext w w') : PS w' v c ms := by
  obtain ⟨ao, h1, h2, h3, h4⟩ := h
  refine ⟨ao, h1, h2, h3, ?_⟩
  rcases h4 with h4 | ⟨b, o, h5, h6⟩
  · exact .inl h4
  · exact .inr ⟨b, o, h5, fun i hi => ⟨e.cell (h6 i hi).1, e.cell (h6 i hi).2⟩⟩
def pi (ms : List (Int × Int)) (i : Nat) : Int × Int := ms.getD i (0, 0)
theorem pi_take {ms : List (Int × Int)} {k : Nat} (h : k < ms.length) : ms.take (k + 1) = ms.take k ++ [pi ms k] := by
  rw [List.take_succ_eq_append_getElem h]; unfold pi; simp [List.getD, h]
theorem PS.open {w : World} {v : Value} {c : Nat} {ms : List (Int × Int)} (h : PS w v c ms) : ∃ ao n, v = .slice ao n c ∧ n = ms.length ∧ n ≤ c ∧ c ≤ maxLen ∧ ∀ i, i < n → ∃ b o, ao = some ⟨b, o, none⟩ ∧ w.cell? ⟨b, o + i * 2, none⟩ = some (.int .u8 (pi ms i).1) ∧ w.cell? ⟨b, o + i * 2 + 1, none⟩ = some (.int .u8 (pi ms i).2) := by
  obtain ⟨ao, h1, h2, h3, h4⟩ := h
  refine ⟨ao, _, h1, rfl, h2, h3, fun i hi => ?_⟩
  rcases h4 with h4 | ⟨b, o, h5, h6⟩
  · rw [h4] at hi; simp at hi
  · exact ⟨b, o, h5, h6 i hi⟩
end Go.Proofs.Ytlmkcojimhbmiaa
/- What a row of numbers that came in reads as. -/
namespace Go.Proofs.Ytlmkcojimhbmiaa
set_option linter.unusedVariables false
set_option linter.unusedSimpArgs false
open Go Go.RowKit

/-- A slice of integers that came in: nothing, or a row of cells. -/
def IsRow (k : IntKind) (w : World) (a : Option Addr) (len cap : Nat) (zs : List Int) : Prop :=
  (a = none ∧ len = 0 ∧ cap = 0 ∧ zs = []) ∨
  ∃ x, a = some x ∧ len ≤ cap ∧ cap ≤ maxLen ∧ zs.length = cap ∧ (∀ i, i < zs.length → w.cell? (x.add i) = some (.int k (zs.getD i 0))) ∧ ∀ n ∈ zs, (Lit.int k n).wf = true

theorem cell_spot {w : World} {x : Addr} {v : Value} (h : w.cell? x = some v) : x.spot = none := by
  unfold World.cell? at h
  split at h
  · split at h
    · cases h
    · cases hs : x.spot with
      | none => rfl
      | some s => rename_i hn; rw [hs] at hn; exact absurd rfl hn
  · cases h

theorem IsRow.is {k : IntKind} {w : World} {a : Option Addr} {len cap : Nat} {zs : List Int} (h : IsRow k w a len cap zs) : IS k w (.slice a len cap) cap (zs.take len) := by
  rcases h with ⟨rfl, rfl, rfl, rfl⟩ | ⟨x, rfl, h1, h2, h3, hc, _⟩
  · exact IS.nil k w
  · have hl : (zs.take len).length = len := by rw [List.length_take]; omega
    by_cases h0 : cap = 0
    · obtain rfl : len = 0 := by omega
      refine ⟨some x, by simp, by simp, h2, fun h => (by cases h), fun a ha => ⟨fun h => (by omega), fun j u hj => by simp at hj⟩⟩
    · have hs : x.spot = none := by
        have := hc 0 (by omega)
        rw [show x.add 0 = x from rfl] at this
        exact cell_spot this
      obtain ⟨b, o, s⟩ := x
      have hs' : s = none := hs
      subst hs'
      refine IS.mk hl.symm h1 h2 fun i hi => ?_
      have := hc i (by omega)
      rw [Addr.add_lit] at this
      rw [this, gi_take hi]; rfl

theorem IsRow.all {k : IntKind} {w : World} {a : Option Addr} {len cap : Nat} {zs : List Int} (h : IsRow k w a len cap zs) {n : Int} (hn : n ∈ zs.take len) : (Lit.int k n).wf = true := by
  rcases h with ⟨rfl, rfl, rfl, rfl⟩ | ⟨x, rfl, h1, h2, h3, hc, hw⟩
  · simp at hn
  · exact hw n (List.mem_of_mem_take hn)
theorem wf8 {n : Int} (h : (Lit.int .u8 n).wf = true) : 0 ≤ n ∧ n ≤ 255 := by
  unfold Lit.wf at h
  simp only [Bool.and_eq_true, decide_eq_true_eq] at h
  exact h
theorem wf64 {n : Int} (h : (Lit.int .i64 n).wf = true) : -9223372036854775808 ≤ n ∧ n ≤ 9223372036854775807 := by
  unfold Lit.wf at h
  simp only [Bool.and_eq_true, decide_eq_true_eq] at h
  exact h
theorem IsRow.bd {w : World} {a : Option Addr} {len cap : Nat} {zs : List Int} (h : IsRow .u8 w a len cap zs) : ∀ i, i < (zs.take len).length → 0 ≤ gi (zs.take len) i ∧ gi (zs.take len) i ≤ 255 :=
  fun _ hi => wf8 (h.all (gi_mem hi))
theorem IsRow.bd64 {w : World} {a : Option Addr} {len cap : Nat} {zs : List Int} (h : IsRow .i64 w a len cap zs) : ∀ i, i < (zs.take len).length → -9223372036854775808 ≤ gi (zs.take len) i ∧ gi (zs.take len) i ≤ 9223372036854775807 :=
  fun _ hi => wf64 (h.all (gi_mem hi))

/-! ### What the sizes of the arguments give -/
theorem weights_at {H : Type} {P : Program} : ∀ {ts : List TypeId} {ds : List (DataW H)}, (DataW.weightsEach P ts ds).all (· ≤ reachBytes) = true → ∀ {i : Nat} {t : TypeId} {d : DataW H}, ts[i]? = some t → ds[i]? = some d → (DataW.weights P t d).all (· ≤ reachBytes) = true
  | [], _, _, i, t, d, ht, _ => by simp at ht
  | _ :: _, [], _, i, t, d, _, hd => by simp at hd
  | t0 :: ts, d0 :: ds, h, i, t, d, ht, hd => by
    rw [DataW.weightsEach, List.all_append, Bool.and_eq_true] at h
    cases i with
    | zero =>
      obtain rfl : t0 = t := by simpa using ht
      obtain rfl : d0 = d := by simpa using hd
      exact h.1
    | succ i => exact weights_at h.2 (i := i) (by simpa using ht) (by simpa using hd)
theorem weight_slice {H : Type} {P : Program} {t e : TypeId} (ht : P.underlying t = some (.slice e)) {l r : List (DataW H)} (h : (DataW.weights P t (.slice l r)).all (· ≤ reachBytes) = true) : (l.length + r.length) * P.bytesOf e ≤ 140737488351232 := by
  rw [DataW.weights, ht] at h
  simp only [List.all_cons, Bool.and_eq_true, decide_eq_true_eq] at h
  exact h.1
theorem weight_row {H : Type} {P : Program} {t e : TypeId} (ht : P.underlying t = some (.slice e)) {k : IntKind} {zs : List Int} {n : Nat} {d : DataW H} (hd : d = .slice (Go.ChangeShapes.lits k (zs.take n)) (Go.ChangeShapes.lits k (zs.drop n))) (h : (DataW.weights P t d).all (· ≤ reachBytes) = true) : zs.length * P.bytesOf e ≤ 140737488351232 := by
  subst hd
  have := weight_slice ht h
  have e : (Go.ChangeShapes.lits (H := H) k (zs.take n)).length + (Go.ChangeShapes.lits (H := H) k (zs.drop n)).length = zs.length := by
    simp [Go.ChangeShapes.lits]; omega
  rwa [e] at this

variable {H : Type} {enc : TypeId × Value → H}
theorem returnsInHanded_sized {a : Assume} {C : Checked} {os : Os} {f : FuncId} {fn : Func} {s : ChangeSpec} {conds : List PathCond} {apart fresh handsOn again : Bool}
    (own : ownKnob C.prog.godebug = none) (started : os.Started) (noInit : C.prog.inits.idxOf? f = none) (hfn : C.prog.funcs[f]? = some fn)
    (witness : ∃ (w : World) (tape : Tape) (i : Input), w.os = os ∧ (w.forCall tape i).Shaped C.prog ∧ i.vars = [] ∧ Input.okWide C.prog (w.forCall tape i) .any w.heap.size f i ∧
      s.pre6 enc C.prog fn conds apart (w.forCall tape i).memory i.args ∧ a.holds C.prog (lone (Frame.enter C.prog f i.args .normal) [] (w.forCall tape i)))
    (contract : ∀ (W : World) (base : Nat) (args : Array Value) (ds gs : List (DataW H)) (before : List MemPlace),
      (∀ (j : Nat) t v, fn.params[j]? = some t → args[j]? = some v → Value.okWide C.prog W .any base t v) →
      DataW.Whole enc C.prog fn.params.toList s.vars apart W args.toList ds gs before →
      conds.all (PathCond.test C.prog ⟨fn.params.toList, ds, s.plain.varTypes C.prog, gs⟩) = true →
      (DataW.weightsEach C.prog (fn.params.toList ++ s.plain.varTypes C.prog) (ds ++ gs)).all (· ≤ reachBytes) = true →
      a.holds C.prog (lone (Frame.enter C.prog f args .normal) [] W) →
      Calls C.prog f args W fun e W' => ∃ v, e = .returned v ∧ s.post enc C.prog fn apart fresh handsOn again W args v W') :
    ReturnsInHanded a C os f .any (s.pre6 enc C.prog fn conds apart) (s.post enc C.prog fn apart fresh handsOn again) := by
  refine returnsInHanded_of_calls own started noInit witness ?_
  intro w tape i _ _ _ hok hpre hholds
  obtain ⟨_, _, _, fn', hfn', _, _, _, _, hval⟩ := hok
  have e : fn' = fn := Option.some.inj (hfn'.symm.trans hfn)
  subst e
  obtain ⟨⟨ds, gs, before, hw, hc⟩, hz⟩ := hpre
  have hw' := DataW.Whole.of_heap (w' := w.forCall tape i) (by rfl) hw
  refine (contract (w.forCall tape i) w.heap.size i.args ds gs before hval hw' hc (hz.weights hw) hholds).mono fun e W' ⟨v, he, hp⟩ => ?_
  subst he
  exact ChangeSpec.post_blind hp
/-- .. where the walk wants the shape of the world, too. -/
theorem returnsInHanded_and_open {a : Assume} {C : Checked} {os : Os} {f : FuncId} {fn : Func} {s : ChangeSpec} {conds : List PathCond} {apart fresh handsOn again : Bool} {X : World → Array Value → Prop}
    (hX : ∀ (w w' : World) (args : Array Value), w.heap = w'.heap → X w args → X w' args)
    (own : ownKnob C.prog.godebug = none) (started : os.Started) (noInit : C.prog.inits.idxOf? f = none) (hfn : C.prog.funcs[f]? = some fn)
    (witness : ∃ (w : World) (tape : Tape) (i : Input), w.os = os ∧ (w.forCall tape i).Shaped C.prog ∧ i.vars = [] ∧ Input.okWide C.prog (w.forCall tape i) .any w.heap.size f i ∧
      ((s.pre enc C.prog fn conds apart (w.forCall tape i).memory i.args ∧ X (w.forCall tape i).memory i.args) ∧ sizedMet enc C.prog fn (OpenSpec.ofChange s) apart (w.forCall tape i).memory i.args) ∧ a.holds C.prog (lone (Frame.enter C.prog f i.args .normal) [] (w.forCall tape i)))
    (contract : ∀ (W : World) (base : Nat) (args : Array Value) (ds gs : List (DataW H)) (before : List MemPlace), W.ShapedOpen C.prog →
      (∀ (j : Nat) t v, fn.params[j]? = some t → args[j]? = some v → Value.okWide C.prog W .any base t v) →
      DataW.Whole enc C.prog fn.params.toList s.vars apart W args.toList ds gs before →
      conds.all (PathCond.test C.prog ⟨fn.params.toList, ds, s.plain.varTypes C.prog, gs⟩) = true →
      (DataW.weightsEach C.prog (fn.params.toList ++ s.plain.varTypes C.prog) (ds ++ gs)).all (· ≤ reachBytes) = true → X W args →
      a.holds C.prog (lone (Frame.enter C.prog f args .normal) [] W) →
      Calls C.prog f args W fun e W' => ∃ v, e = .returned v ∧ s.post enc C.prog fn apart fresh handsOn again W args v W') :
    ReturnsInHanded a C os f .any (fun w args => (s.pre enc C.prog fn conds apart w args ∧ X w args) ∧ sizedMet enc C.prog fn (OpenSpec.ofChange s) apart w args) (s.post enc C.prog fn apart fresh handsOn again) := by
  refine returnsInHanded_of_calls own started noInit witness ?_
  intro w tape i _ hso _ hok hpre hholds
  obtain ⟨_, _, _, fn', hfn', _, _, _, _, hval⟩ := hok
  have e : fn' = fn := Option.some.inj (hfn'.symm.trans hfn)
  subst e
  obtain ⟨⟨⟨ds, gs, before, hw, hc⟩, hx⟩, hz⟩ := hpre
  have hw' := DataW.Whole.of_heap (w' := w.forCall tape i) (by rfl) hw
  refine (contract (w.forCall tape i) w.heap.size i.args ds gs before hso hval hw' hc (hz.weights hw) (hX _ _ _ (by rfl) hx) hholds).mono fun e W' ⟨v, he, hp⟩ => ?_
  subst he
  exact ChangeSpec.post_blind hp
end Go.Proofs.Ytlmkcojimhbmiaa
/- What rows of stitches, charts and lists of lists that came in read as. -/
namespace Go.Proofs.Ytlmkcojimhbmiaa
set_option linter.unusedVariables false
set_option linter.unusedSimpArgs false
set_option maxRecDepth 8000
open Go Go.RowKit Go.ChangeShapes Go.WideShapes Go.ChangeAt

theorem spot_of {w : World} {a : Addr} {v : Value} (h : w.cell? a = some v) : ∃ b o, a = ⟨b, o, none⟩ := by
  obtain ⟨b, o, s⟩ := a
  have hs : s = none := cell_spot h
  subst hs
  exact ⟨b, o, rfl⟩
section
variable {H : Type} {enc : TypeId × Value → H} {w : World} {base : Nat} {held : Bool}
/-- Five cells that read as a stitch. -/
theorem st_in {sp : Nat → Bool} {fuel : Nat} {cs : List Value} {x : DataW H × List MemPlace} (h : DataW.trod enc Try.prog w base sp held fuel 67 cs = some x) : ∃ s : St, s.In ∧ cs = s.cs := by
  obtain ⟨xs, n, _, _, hl, hlen, hf⟩ := DataW.trod_struct Try.underlying67 h
  rw [show Try.prog.cellsOf 67 = 5 by kernel_rfl] at hl
  match cs, hl with
  | [c0, c1, c2, c3, c4], _ =>
    match xs, hlen with
    | [y0, y1, y2, y3, y4], _ =>
      have c8 : Try.prog.cellsOf 65 = 1 := by kernel_rfl
      have cu : Try.prog.cellsOf 5 = 1 := by kernel_rfl
      have ci : Try.prog.cellsOf 3 = 1 := by kernel_rfl
      have cb : Try.prog.cellsOf 4 = 1 := by kernel_rfl
      have h0 : DataW.trod enc Try.prog w base sp held n 65 (([c0, c1, c2, c3, c4].drop 0).take (Try.prog.cellsOf 65)) = some y0 := hf 0 _ rfl
      rw [c8] at h0
      have h1 : DataW.trod enc Try.prog w base sp held n 5 (([c0, c1, c2, c3, c4].drop 1).take (Try.prog.cellsOf 5)) = some y1 := hf 1 _ rfl
      rw [cu] at h1
      have h2 : DataW.trod enc Try.prog w base sp held n 3 (([c0, c1, c2, c3, c4].drop 2).take (Try.prog.cellsOf 3)) = some y2 := hf 2 _ rfl
      rw [ci] at h2
      have h3 : DataW.trod enc Try.prog w base sp held n 3 (([c0, c1, c2, c3, c4].drop 3).take (Try.prog.cellsOf 3)) = some y3 := hf 3 _ rfl
      rw [ci] at h3
      have h4 : DataW.trod enc Try.prog w base sp held n 4 (([c0, c1, c2, c3, c4].drop 4).take (Try.prog.cellsOf 4)) = some y4 := hf 4 _ rfl
      rw [cb] at h4
      obtain ⟨k, hk, _, wk⟩ := DataW.trod_int Try.underlying65 h0
      obtain ⟨y, hy, _, wy⟩ := DataW.trod_int Try.underlying5 h1
      obtain ⟨a, ha, _, wa⟩ := DataW.trod_int Try.underlying3 h2
      obtain ⟨b, hb, _, wb⟩ := DataW.trod_int Try.underlying3 h3
      obtain ⟨f, hff, _⟩ := DataW.trod_bool Try.underlying4 h4
      simp at hk hy ha hb hff
      refine ⟨⟨k, y, a, b, f⟩, ⟨wf8 wk, wf8 wy, wf64 wa, wf64 wb⟩, ?_⟩
      simp [St.cs, hk, hy, ha, hb, hff]
theorem row_in {fuel : Nat} {v : Value} {x : DataW H × List MemPlace} (h : DataW.trod enc Try.prog w base (fun _ => true) held fuel 59 [v] = some x) : ∃ c l, RS w v c l ∧ ∀ s ∈ l, St.In s := by
  rcases Deep.open_slice Try.underlying59 h with ⟨hcs, _⟩ | ⟨a, len, cap, m, n, D, Pl, hcs, hb, hl, hm, hmm, _, hx⟩
  · obtain rfl : v = .slice none 0 0 := by simpa using hcs
    exact ⟨0, [], RS.nil w, fun s hs => by cases hs⟩
  · obtain rfl : v = .slice (some a) len cap := by simpa using hcs
    simp only [if_true] at hmm
    subst hmm
    rw [show Try.prog.cellsOf 67 = 5 by kernel_rfl] at hx
    have key : ∀ i, i < len → ∃ s : St, s.In ∧ ∀ j, j < 5 → w.cell? ((a.add (i * 5)).add j) = s.cs[j]? := fun i hi => by
      obtain ⟨cs', h1, h2⟩ := hx i (by omega)
      obtain ⟨_, _, h4⟩ := World.cells?_some h1
      obtain ⟨s, h5, rfl⟩ := st_in h2
      exact ⟨s, h5, h4⟩
    obtain ⟨F, hF⟩ : ∃ F : Nat → St, ∀ i, i < len → (F i).In ∧ ∀ j, j < 5 → w.cell? ((a.add (i * 5)).add j) = (F i).cs[j]? :=
      ⟨fun i => if h : i < len then (key i h).choose else St.none, fun i hi => by simp only [hi, dif_pos]; exact (key i hi).choose_spec⟩
    have hsi : ∀ i, i < len → si ((List.range len).map F) i = F i := fun i hi => by unfold si; simp [List.getD, hi]
    refine ⟨m, (List.range len).map F, ⟨some a, by simp, by simpa using hl, hm, ?_⟩, fun s hs => ?_⟩
    · by_cases h0 : len = 0
      · subst h0; exact .inl rfl
      · obtain ⟨b, o, hao⟩ : ∃ b o, a = ⟨b, o, none⟩ := by
          have := (hF 0 (by omega)).2 0 (by omega)
          rw [Nat.zero_mul, show a.add 0 = a from by simp [Addr.add], show a.add 0 = a from by simp [Addr.add]] at this
          exact spot_of this
        subst hao
        refine .inr ⟨b, o, rfl, fun i hi => ?_⟩
        have hi' : i < len := by simpa using hi
        have hk := (hF i hi').2
        rw [hsi i hi']
        have k0 := hk 0 (by omega); have k1 := hk 1 (by omega); have k2 := hk 2 (by omega); have k3 := hk 3 (by omega); have k4 := hk 4 (by omega)
        rw [Addr.add_lit, Addr.add_lit] at k0 k1 k2 k3 k4
        exact ⟨k0, k1, k2, k3, k4⟩
    · obtain ⟨i, hi, rfl⟩ := List.mem_map.1 hs
      exact (hF i (List.mem_range.1 hi)).1
theorem rows_in {fuel : Nat} {v : Value} {x : DataW H × List MemPlace} (h : DataW.trod enc Try.prog w base (fun _ => true) held fuel 22 [v] = some x) : ∃ c rows, RR w v c rows ∧ ∀ l ∈ rows, ∀ s ∈ l, St.In s := by
  rcases Deep.open_slice1 Try.underlying22 (by kernel_rfl) h with ⟨hcs, _⟩ | ⟨a, len, cap, m, n, V, D, Pl, hcs, hb, hl, hm, hmm, _, hx⟩
  · obtain rfl : v = .slice none 0 0 := by simpa using hcs
    exact ⟨0, [], RR.nil w, fun s hs => by cases hs⟩
  · obtain rfl : v = .slice (some a) len cap := by simpa using hcs
    simp only [if_true] at hmm
    subst hmm
    have key : ∀ i, i < len → ∃ y : Nat × List St, RS w (V i) y.1 y.2 ∧ ∀ s ∈ y.2, St.In s := fun i hi => by
      obtain ⟨c, l, h1, h2⟩ := row_in (hx i (by omega)).2
      exact ⟨(c, l), h1, h2⟩
    obtain ⟨F, hF⟩ : ∃ F : Nat → Nat × List St, ∀ i, i < len → RS w (V i) (F i).1 (F i).2 ∧ ∀ s ∈ (F i).2, St.In s :=
      ⟨fun i => if h : i < len then (key i h).choose else (0, []), fun i hi => by simp only [hi, dif_pos]; exact (key i hi).choose_spec⟩
    have hsw : ∀ i, i < len → sw ((List.range len).map fun i => (F i).2) i = (F i).2 := fun i hi => by unfold sw; simp [List.getD, hi]
    refine ⟨m, (List.range len).map fun i => (F i).2, ⟨some a, V, fun i => (F i).1, by simp, by simpa using hl, hm, ?_, fun i hi => ?_⟩, fun l hl => ?_⟩
    · by_cases h0 : len = 0
      · subst h0; exact .inl rfl
      · obtain ⟨b, o, hao⟩ : ∃ b o, a = ⟨b, o, none⟩ := by
          have := (hx 0 (by omega)).1
          rw [show a.add 0 = a from by simp [Addr.add]] at this
          exact spot_of this
        subst hao
        refine .inr ⟨b, o, rfl, fun i hi => ?_⟩
        have hi' : i < len := by simpa using hi
        have := (hx i (by omega)).1
        rwa [Addr.add_lit] at this
    · have hi' : i < len := by simpa using hi
      rw [hsw i hi']; exact (hF i hi').1
    · obtain ⟨i, hi, rfl⟩ := List.mem_map.1 hl
      exact (hF i (List.mem_range.1 hi)).2
theorem iss_in {P : Program} {t e q : TypeId} {fuel : Nat} {v : Value} {x : DataW H × List MemPlace} (ht : P.underlying t = some (.slice e)) (he : P.underlying e = some (.slice q)) (hq : P.underlying q = some (.int .i64)) (ce : P.cellsOf e = 1) (cq : P.cellsOf q = 1)
    (h : DataW.trod enc P w base (fun _ => true) held fuel t [v] = some x) : ∃ c rows, ISS .i64 w v c rows := by
  rcases Deep.open_int_rows ht he hq ce cq h with ⟨hcs, _⟩ | ⟨a, len, cap, A, L, C, Z, hcs, _, hl, hm, _, hx⟩
  · obtain rfl : v = .slice none 0 0 := by simpa using hcs
    exact ⟨0, [], ISS.nil _ _⟩
  · obtain rfl : v = .slice (some a) len cap := by simpa using hcs
    have hri : ∀ i, i < len → ri ((List.range len).map fun r => (Z r).take (L r)) i = (Z i).take (L i) := fun i hi => ri_range_map _ hi
    by_cases h0 : cap = 0
    · have : len = 0 := by omega
      subst this; subst h0
      exact ⟨0, [], fun _ => undef, fun _ => 0, ⟨some a, rfl, Nat.le_refl _, by unfold maxLen; omega, fun h => (by cases h), fun b hb => ⟨fun h => absurd h (by omega), fun j u hj => by simp at hj⟩⟩, fun i hi => by simp at hi⟩
    · obtain ⟨b, o, hao⟩ : ∃ b o, a = ⟨b, o, none⟩ := by
        have := (hx 0 (by omega)).1
        rw [show a.add 0 = a from by simp [Addr.add]] at this
        exact spot_of this
      subst hao
      refine ⟨cap, (List.range len).map (fun r => (Z r).take (L r)), fun r => .slice (A r) (L r) (C r), C, ISV.mk' (by simp) hl hm (fun i hi => ?_) fun i hi => ?_⟩
      · have := (hx i (by omega)).1
        rwa [Addr.add_lit] at this
      · rw [hri i hi]
        obtain ⟨_, g1, g2, g3, g4, g5, g6⟩ := hx i (by omega)
        refine ⟨A i, by simp; omega, by simp; omega, g2, g5, fun a' ha' => ?_⟩
        obtain ⟨_, hcell⟩ := g6 a' ha'
        by_cases hc0 : C i = 0
        · exact ⟨fun h => absurd h (by omega), fun j u hj => by
            have : ((Z i).take (L i)).length = 0 := by simp; omega
            rw [List.eq_nil_of_length_eq_zero this] at hj; simp at hj⟩
        · obtain ⟨b', o', hao'⟩ : ∃ b o, a' = ⟨b, o, none⟩ := by
            have := hcell 0 (by omega)
            rw [show a'.add 0 = a' from by simp [Addr.add]] at this
            exact spot_of this
          subst hao'
          refine ⟨fun _ => rfl, fun j u hj => ?_⟩
          rw [List.getElem?_map, List.getElem?_take] at hj
          split at hj
          · have hjl : j < (Z i).length := by omega
            rw [List.getElem?_eq_getElem hjl] at hj
            have := hcell j (by omega)
            rw [Addr.add_lit] at this
            rw [this, ← Option.some.inj hj]
            simp [List.getD, hjl]
          · cases hj
end
/-- A chart, as it comes in. -/
def ChIn (w : World) (v : Value) : Prop := ∃ u c rows, v = .agg #[u] ∧ RR w u c rows ∧ ∀ l ∈ rows, ∀ s ∈ l, St.In s
theorem open_chart {H : Type} {enc : TypeId × Value → H} {w : World} {b0 : Nat} {v : Value} {d : DataW H} {p : List MemPlace}
    (hv : Value.okWide Try.prog w .any b0 24 v) (h : DataW.Trod enc Try.prog w 0 (fun _ => true) true 24 v d p) : ChIn w v := by
  obtain ⟨cs, rfl, hsz⟩ := okWide_struct Try.underlying24 hv
  obtain ⟨l⟩ := cs
  match l, hsz.trans (show Try.prog.cellsOf 24 = 1 by kernel_rfl) with
  | [u], _ =>
    obtain ⟨fuel, hf⟩ := h
    obtain ⟨y0, n, _, _, h0⟩ := trod_struct1 Try.underlying24 hf
    obtain ⟨c, rows, h1, h2⟩ := rows_in (by simpa [Value.cells, show Try.prog.cellsOf 22 = 1 by kernel_rfl] using h0)
    exact ⟨u, c, rows, rfl, h1, h2⟩
/-- Lists of numbers, as they come in. -/
def IssIn (w : World) (v : Value) : Prop := ∃ c rows, ISS .i64 w v c rows
theorem open_iss {H : Type} {enc : TypeId × Value → H} {w : World} {b0 : Nat} {v : Value} {d : DataW H} {p : List MemPlace}
    (hv : Value.okWide Try.prog w .any b0 71 v) (h : DataW.Trod enc Try.prog w 0 (fun _ => true) true 71 v d p) : IssIn w v := by
  obtain ⟨a, n, c, rfl⟩ := okWide_slice Try.underlying71 hv
  obtain ⟨fuel, hf⟩ := h
  exact iss_in Try.underlying71 Try.underlying55 Try.underlying3 (by kernel_rfl) (by kernel_rfl) (by simpa [Value.cells] using hf)
/-- A row of stitches, as it comes in. -/
def RowIn (w : World) (v : Value) : Prop := ∃ c l, RS w v c l ∧ ∀ s ∈ l, St.In s
theorem open_row {H : Type} {enc : TypeId × Value → H} {w : World} {b0 : Nat} {v : Value} {d : DataW H} {p : List MemPlace}
    (hv : Value.okWide Try.prog w .any b0 59 v) (h : DataW.Trod enc Try.prog w 0 (fun _ => true) true 59 v d p) : RowIn w v := by
  obtain ⟨a, n, c, rfl⟩ := okWide_slice Try.underlying59 hv
  obtain ⟨fuel, hf⟩ := h
  exact row_in (by simpa [Value.cells] using hf)
end Go.Proofs.Ytlmkcojimhbmiaa
/- What charts as plain data read as. -/
namespace Go.Proofs.Ytlmkcojimhbmiaa
set_option linter.unusedVariables false
set_option linter.unusedSimpArgs false
set_option maxRecDepth 100000
open Go Go.RowKit Go.ChangeShapes Go.WideShapes Go.ChangeAt

section
variable {H : Type} {enc : TypeId × Value → H} {w : World} {base : Nat} {held : Bool}
theorem rows8_in {P : Program} {t e q : TypeId} {fuel : Nat} {v : Value} {x : DataW H × List MemPlace} (ht : P.underlying t = some (.slice e)) (he : P.underlying e = some (.slice q)) (hq : P.underlying q = some (.int .u8)) (ce : P.cellsOf e = 1) (cq : P.cellsOf q = 1)
    (h : DataW.trod enc P w base (fun _ => true) held fuel t [v] = some x) : ∃ c rows, ISS .u8 w v c rows ∧ ∀ k, k < rows.length → ∀ i, i < (ri rows k).length → 0 ≤ gi (ri rows k) i ∧ gi (ri rows k) i ≤ 255 := by
  rcases Deep.open_int_rows ht he hq ce cq h with ⟨hcs, _⟩ | ⟨a, len, cap, A, L, C, Z, hcs, _, hl, hm, _, hx⟩
  · obtain rfl : v = .slice none 0 0 := by simpa using hcs
    exact ⟨0, [], ISS.nil _ _, fun k hk => by simp at hk⟩
  · obtain rfl : v = .slice (some a) len cap := by simpa using hcs
    have hri : ∀ i, i < len → ri ((List.range len).map fun r => (Z r).take (L r)) i = (Z i).take (L i) := fun i hi => ri_range_map _ hi
    by_cases h0 : cap = 0
    · have : len = 0 := by omega
      subst this; subst h0
      exact ⟨0, [], ⟨fun _ => undef, fun _ => 0, ⟨some a, rfl, Nat.le_refl _, by unfold maxLen; omega, fun h => (by cases h), fun b hb => ⟨fun h => absurd h (by omega), fun j u hj => by simp at hj⟩⟩, fun i hi => by simp at hi⟩, fun k hk => by simp at hk⟩
    · obtain ⟨b, o, hao⟩ : ∃ b o, a = ⟨b, o, none⟩ := by
        have := (hx 0 (by omega)).1
        rw [show a.add 0 = a from by simp [Addr.add]] at this
        exact spot_of this
      subst hao
      refine ⟨cap, (List.range len).map (fun r => (Z r).take (L r)), ⟨fun r => .slice (A r) (L r) (C r), C, ISV.mk' (by simp) hl hm (fun i hi => ?_) fun i hi => ?_⟩, fun k hk i hi => ?_⟩
      · have := (hx i (by omega)).1
        rwa [Addr.add_lit] at this
      · rw [hri i hi]
        obtain ⟨_, g1, g2, g3, g4, g5, g6⟩ := hx i (by omega)
        refine ⟨A i, by simp; omega, by simp; omega, g2, g5, fun a' ha' => ?_⟩
        obtain ⟨_, hcell⟩ := g6 a' ha'
        by_cases hc0 : C i = 0
        · exact ⟨fun h => absurd h (by omega), fun j u hj => by
            have : ((Z i).take (L i)).length = 0 := by simp; omega
            rw [List.eq_nil_of_length_eq_zero this] at hj; simp at hj⟩
        · obtain ⟨b', o', hao'⟩ : ∃ b o, a' = ⟨b, o, none⟩ := by
            have := hcell 0 (by omega)
            rw [show a'.add 0 = a' from by simp [Addr.add]] at this
            exact spot_of this
          subst hao'
          refine ⟨fun _ => rfl, fun j u hj => ?_⟩
          rw [List.getElem?_map, List.getElem?_take] at hj
          split at hj
          · have hjl : j < (Z i).length := by omega
            rw [List.getElem?_eq_getElem hjl] at hj
            have := hcell j (by omega)
            rw [Addr.add_lit] at this
            rw [this, ← Option.some.inj hj]
            simp [List.getD, hjl]
          · cases hj
      · have hk' : k < len := by simpa using hk
        rw [hri k hk'] at hi ⊢
        obtain ⟨_, _, _, _, g5, _⟩ := hx k (by omega)
        have hm := gi_mem hi
        exact wf8 (g5 _ (List.mem_of_mem_take hm))
end
/-- A chart as plain data, as it comes in. -/
def CIn (w : World) (v : Value) : Prop := ∃ f u c chs, v = .agg #[.int .u8 f, u] ∧ ISS .u8 w u c chs ∧ (0 ≤ f ∧ f ≤ 255) ∧ ∀ k, k < chs.length → ∀ i, i < (ri chs k).length → 0 ≤ gi (ri chs k) i ∧ gi (ri chs k) i ≤ 255
theorem open_C {H : Type} {enc : TypeId × Value → H} {w : World} {b0 : Nat} {v : Value} {d : DataW H} {p : List MemPlace}
    (hv : Value.okWide Try.prog w .any b0 46 v) (h : DataW.Trod enc Try.prog w 0 (fun _ => true) true 46 v d p) : CIn w v := by
  obtain ⟨v0, v1, y0, y1, n, rfl, _, _, g0, g1⟩ := Joins.open_agg2 Try.underlying46 (by kernel_rfl) (show Try.prog.cellsOf 46 = 2 by kernel_rfl) hv h
  obtain ⟨f, hf, _, wf⟩ := DataW.trod_int Try.underlying5 g0
  obtain rfl : v0 = .int .u8 f := by simpa using hf
  obtain ⟨c, st, h1, h2⟩ := rows8_in Try.underlying44 Try.underlying62 Try.underlying5 (by kernel_rfl) (by kernel_rfl) g1
  exact ⟨f, v1, c, st, rfl, h1, wf8 wf, h2⟩
end Go.Proofs.Ytlmkcojimhbmiaa
/- Contracts of stitches.Needs, Makes. -/
namespace Go.Proofs.Ytlmkcojimhbmiaa
set_option linter.unusedVariables false
set_option linter.unusedSimpArgs false
set_option maxRecDepth 8000
open Go Go.RowKit

set_option maxHeartbeats 1000000 in
theorem SNeeds_calls (s : St) (w : World) : Calls Try.prog 50 #[s.val] w fun e w' => e = .returned (.int .i64 s.need) ∧ Ext w w' := by
  have hB := fun (_ : Nat) => B5.new w s 67
  have HB := Lib.hid hB
  clear hB
  obtain ⟨k, y, a, b, f⟩ := s
  have hc := SCheck_calls ⟨k, y, a, b, f⟩
  have hcc := St.chk_cases ⟨k, y, a, b, f⟩
  have hok := St.chk_ok (s := ⟨k, y, a, b, f⟩)
  have hfin : ∀ r : Int, r = St.need ⟨k, y, a, b, f⟩ → ∀ w', Ext w w' → (Ending.returned (.int .i64 r) = .returned (.int .i64 (St.need ⟨k, y, a, b, f⟩)) ∧ Ext w w') := fun r h w' hx => ⟨by rw [h], hx⟩
  have Fin := Lib.hid hfin; have Hc := Lib.hid hc
  clear hc hfin
  unfold St.val at *
  generalize hq : St.chk ⟨k, y, a, b, f⟩ = q at *
  have Hq := Lib.hid hq
  dsimp only at hok
  clear hq
  rcases hcc with rfl | rfl
  · obtain ⟨h1, h2, h3⟩ := hok rfl
    go_enter Try.func50, Try.ntmps50
    go_wp2_with fail
    refine (Hc.out _).mono ?_
    rintro e w1 ⟨rfl, x1⟩
    have hb := (HB.out 0).ext x1
    have c0 := hb.at.1; have c2 := hb.at.2.2.1; have c3 := hb.at.2.2.2.1
    have X1 := Lib.hid (((Ext.refl w).alloc _).trans x1)
    clear hb x1 HB Hc
    dsimp only at c0 c2 c3
    simp only [Nat.zero_add] at c2 c3
    by_cases k8 : k = 8
    · subst k8
      have b1 : 1 ≤ a ∧ a ≤ 3 ∧ 1 ≤ b ∧ b ≤ 3 := by omega
      obtain ⟨b1, b2, b3, b4⟩ := b1
      clear h3
      go_wp2
      go_ret
      exact Fin.out _ (by unfold St.need; rw [Hq.out]; simp) _ X1.out
    · clear h3
      by_cases k3 : k = 3
      · subst k3
        go_wp2
        go_ret
        exact Fin.out _ (by unfold St.need; rw [Hq.out]; simp) _ X1.out
      · by_cases k4 : k = 4
        · subst k4
          go_wp2
          go_ret
          exact Fin.out _ (by unfold St.need; rw [Hq.out]; simp) _ X1.out
        · by_cases k5 : k = 5
          · subst k5
            go_wp2
            go_ret
            exact Fin.out _ (by unfold St.need; rw [Hq.out]; simp) _ X1.out
          · have e3 : (k == 3) = false := beq_eq_false_iff_ne.2 k3
            have e4 : (k == 4) = false := beq_eq_false_iff_ne.2 k4
            have e5 : (k == 5) = false := beq_eq_false_iff_ne.2 k5
            have e8 : (k == 8) = false := beq_eq_false_iff_ne.2 k8
            have hf : (1 : Int) = St.need ⟨k, y, a, b, f⟩ := by unfold St.need; rw [Hq.out]; simp [k3, k4, k5, k8]
            have Hf := Lib.hid hf
            clear hf k3 k4 k5 k8
            go_wp2
            go_ret
            exact Fin.out _ Hf.out _ X1.out
  · go_enter Try.func50, Try.ntmps50
    go_wp2_with fail
    refine (Hc.out _).mono ?_
    rintro e w1 ⟨rfl, x1⟩
    have X1 := Lib.hid (((Ext.refl w).alloc _).trans x1)
    clear x1
    go_wp2
    go_ret
    exact Fin.out _ (by unfold St.need; rw [Hq.out]; simp) _ X1.out

set_option maxHeartbeats 1000000 in
theorem SMakes_calls (s : St) (w : World) : Calls Try.prog 55 #[s.val] w fun e w' => e = .returned (.int .i64 s.make) ∧ Ext w w' := by
  have hB := fun (_ : Nat) => B5.new w s 67
  have HB := Lib.hid hB
  clear hB
  obtain ⟨k, y, a, b, f⟩ := s
  have hc := SCheck_calls ⟨k, y, a, b, f⟩
  have hcc := St.chk_cases ⟨k, y, a, b, f⟩
  have hok := St.chk_ok (s := ⟨k, y, a, b, f⟩)
  have hfin : ∀ r : Int, r = St.make ⟨k, y, a, b, f⟩ → ∀ w', Ext w w' → (Ending.returned (.int .i64 r) = .returned (.int .i64 (St.make ⟨k, y, a, b, f⟩)) ∧ Ext w w') := fun r h w' hx => ⟨by rw [h], hx⟩
  have Fin := Lib.hid hfin; have Hc := Lib.hid hc
  clear hc hfin
  unfold St.val at *
  generalize hq : St.chk ⟨k, y, a, b, f⟩ = q at *
  have Hq := Lib.hid hq
  dsimp only at hok
  clear hq
  rcases hcc with rfl | rfl
  · obtain ⟨h1, h2, h3⟩ := hok rfl
    go_enter Try.func55, Try.ntmps55
    go_wp2_with fail
    refine (Hc.out _).mono ?_
    rintro e w1 ⟨rfl, x1⟩
    have hb := (HB.out 0).ext x1
    have c0 := hb.at.1; have c2 := hb.at.2.2.1; have c3 := hb.at.2.2.2.1
    have X1 := Lib.hid (((Ext.refl w).alloc _).trans x1)
    clear hb x1 HB Hc
    dsimp only at c0 c2 c3
    simp only [Nat.zero_add] at c2 c3
    by_cases k8 : k = 8
    · subst k8
      have b1 : 1 ≤ a ∧ a ≤ 3 ∧ 1 ≤ b ∧ b ≤ 3 := by omega
      obtain ⟨b1, b2, b3, b4⟩ := b1
      clear h3
      go_wp2
      go_ret
      exact Fin.out _ (by unfold St.make; rw [Hq.out]; simp) _ X1.out
    · have e8 : (k == 8) = false := beq_eq_false_iff_ne.2 k8
      have hf : (1 : Int) = St.make ⟨k, y, a, b, f⟩ := by unfold St.make; rw [Hq.out]; simp [k8]
      have Hf := Lib.hid hf
      clear hf k8 h3
      go_wp2
      go_ret
      exact Fin.out _ Hf.out _ X1.out
  · go_enter Try.func55, Try.ntmps55
    go_wp2_with fail
    refine (Hc.out _).mono ?_
    rintro e w1 ⟨rfl, x1⟩
    have X1 := Lib.hid (((Ext.refl w).alloc _).trans x1)
    clear x1
    go_wp2
    go_ret
    exact Fin.out _ (by unfold St.make; rw [Hq.out]; simp) _ X1.out
end Go.Proofs.Ytlmkcojimhbmiaa
/- Contracts of charts.total, Needs, Makes. -/
namespace Go.Proofs.Ytlmkcojimhbmiaa
set_option linter.unusedVariables false
set_option linter.unusedSimpArgs false
set_option maxRecDepth 8000
open Go Go.RowKit

set_option maxHeartbeats 1000000 in
theorem total_Needs (v : Value) (c : Nat) (l : List St) (w : World) (h : RS w v c l) (hl : l.length ≤ 1000000) : Calls Try.prog 49 #[v, .func (Fn.func 50) #[] #[]] w fun e w' => e = .returned (.int .i64 (rneed l)) ∧ Ext w w' := by
  obtain ⟨ao, n, rfl, hn, hc, hcm, hat⟩ := h.open
  have hst : ∀ k, k < n → rneed (l.take (k + 1)) = rneed (l.take k) + St.need (si l k) := fun k hk => by rw [take_succ_si (by omega), rneed_snoc]
  have hbd : ∀ k, k ≤ n → 0 ≤ rneed (l.take k) ∧ rneed (l.take k) ≤ 4000000 := fun k hk => by
    have := rneed_bd (l.take k)
    rw [List.length_take] at this
    omega
  have hend : rneed (l.take n) = rneed l := by rw [hn, List.take_length]
  have hb1 := fun s => St.need_bd s
  rw [← hn] at hl
  have HA := Lib.hid hat; have HS := Lib.hid hst; have HB := Lib.hid hbd; have HE := Lib.hid hend; have HO := Lib.hid hb1
  clear hat hst hbd hend hb1 hn h
  unfold maxLen at hcm
  go_enter Try.func49, Try.ntmps49
  go_wp2
  go_loopw [5, 7, 10] (fun t _ i wr => ∃ k : Nat, k ≤ n ∧ i = .int .i64 k ∧ t = .int .i64 (rneed (l.take k)) ∧ Hid (Ext w wr)) (fun _ _ i _ => n - (intOf i).toNat)
  case atStart => exact ⟨0, Nat.zero_le _, rfl, rfl, Lib.hid (Ext.refl w)⟩
  case round =>
    obtain ⟨k, hk, rfl, rfl, Hx⟩ := hrel
    by_cases hlt : k < n
    · obtain ⟨b, o, rfl, h5⟩ := HA.out k hlt
      obtain ⟨c0, c1, c2, c3, c4⟩ := h5.ext Hx.out
      obtain ⟨g1, g2⟩ := HB.out k hk
      have hs := HS.out k hlt
      obtain ⟨g3, g4⟩ := HO.out (si l k)
      have hcall := fun w => SNeeds_calls (si l k) w
      obtain ⟨s, hse⟩ : ∃ s, s = si l k := ⟨_, rfl⟩
      rw [← hse] at c0 c1 c2 c3 c4 hs g3 g4 hcall
      obtain ⟨T, hT⟩ : ∃ T, T = rneed (l.take k) := ⟨_, rfl⟩
      rw [← hT] at g1 g2 hs ⊢
      obtain ⟨D, hD⟩ : ∃ D, D = St.need s := ⟨_, rfl⟩
      rw [← hD] at g3 g4 hs
      unfold St.val at hcall
      rw [← hD] at hcall
      have HCL := Lib.hid hcall; have HSS := Lib.hid hs
      clear hcall hs hse hT hD h5
      go_wp2_with fail
      refine (HCL.out _).mono ?_
      rintro e w1 ⟨rfl, x1⟩
      have HX := Lib.hid (Hx.out.trans (((Ext.refl wr).alloc _).trans x1))
      clear x1 c0 c1 c2 c3 c4 HCL
      go_wp2
      go_roundw
      case rel => exact ⟨k + 1, by omega, by go_num, by rw [HSS.out], HX⟩
      case measure => simp [intOf]; omega
    · obtain rfl : n = k := by omega
      rw [HE.out]
      go_wp2
      go_ret
      exact ⟨rfl, Hx.out⟩

theorem CNeeds_calls (v : Value) (c : Nat) (l : List St) (w : World) (h : RS w v c l) (hl : l.length ≤ 1000000) : Calls Try.prog 36 #[v] w fun e w' => e = .returned (.int .i64 (rneed l)) ∧ Ext w w' := by
  have hc := total_Needs v c l w h hl
  obtain ⟨ao, n, rfl, h0⟩ := h.open
  have HC := Lib.hid hc
  clear hc h hl h0
  go_enter Try.func36, Try.ntmps36
  go_wp2_with fail
  refine HC.out.mono ?_
  rintro e w1 ⟨rfl, x1⟩
  go_wp2
  go_ret
  exact ⟨rfl, x1⟩

set_option maxHeartbeats 1000000 in
theorem total_Makes (v : Value) (c : Nat) (l : List St) (w : World) (h : RS w v c l) (hl : l.length ≤ 1000000) : Calls Try.prog 49 #[v, .func (Fn.func 55) #[] #[]] w fun e w' => e = .returned (.int .i64 (rmake l)) ∧ Ext w w' := by
  obtain ⟨ao, n, rfl, hn, hc, hcm, hat⟩ := h.open
  have hst : ∀ k, k < n → rmake (l.take (k + 1)) = rmake (l.take k) + St.make (si l k) := fun k hk => by rw [take_succ_si (by omega), rmake_snoc]
  have hbd : ∀ k, k ≤ n → 0 ≤ rmake (l.take k) ∧ rmake (l.take k) ≤ 4000000 := fun k hk => by
    have := rmake_bd (l.take k)
    rw [List.length_take] at this
    omega
  have hend : rmake (l.take n) = rmake l := by rw [hn, List.take_length]
  have hb1 := fun s => St.make_bd s
  rw [← hn] at hl
  have HA := Lib.hid hat; have HS := Lib.hid hst; have HB := Lib.hid hbd; have HE := Lib.hid hend; have HO := Lib.hid hb1
  clear hat hst hbd hend hb1 hn h
  unfold maxLen at hcm
  go_enter Try.func49, Try.ntmps49
  go_wp2
  go_loopw [5, 7, 10] (fun t _ i wr => ∃ k : Nat, k ≤ n ∧ i = .int .i64 k ∧ t = .int .i64 (rmake (l.take k)) ∧ Hid (Ext w wr)) (fun _ _ i _ => n - (intOf i).toNat)
  case atStart => exact ⟨0, Nat.zero_le _, rfl, rfl, Lib.hid (Ext.refl w)⟩
  case round =>
    obtain ⟨k, hk, rfl, rfl, Hx⟩ := hrel
    by_cases hlt : k < n
    · obtain ⟨b, o, rfl, h5⟩ := HA.out k hlt
      obtain ⟨c0, c1, c2, c3, c4⟩ := h5.ext Hx.out
      obtain ⟨g1, g2⟩ := HB.out k hk
      have hs := HS.out k hlt
      obtain ⟨g3, g4⟩ := HO.out (si l k)
      have hcall := fun w => SMakes_calls (si l k) w
      obtain ⟨s, hse⟩ : ∃ s, s = si l k := ⟨_, rfl⟩
      rw [← hse] at c0 c1 c2 c3 c4 hs g3 g4 hcall
      obtain ⟨T, hT⟩ : ∃ T, T = rmake (l.take k) := ⟨_, rfl⟩
      rw [← hT] at g1 g2 hs ⊢
      obtain ⟨D, hD⟩ : ∃ D, D = St.make s := ⟨_, rfl⟩
      rw [← hD] at g3 g4 hs
      unfold St.val at hcall
      rw [← hD] at hcall
      have HCL := Lib.hid hcall; have HSS := Lib.hid hs
      clear hcall hs hse hT hD h5
      go_wp2_with fail
      refine (HCL.out _).mono ?_
      rintro e w1 ⟨rfl, x1⟩
      have HX := Lib.hid (Hx.out.trans (((Ext.refl wr).alloc _).trans x1))
      clear x1 c0 c1 c2 c3 c4 HCL
      go_wp2
      go_roundw
      case rel => exact ⟨k + 1, by omega, by go_num, by rw [HSS.out], HX⟩
      case measure => simp [intOf]; omega
    · obtain rfl : n = k := by omega
      rw [HE.out]
      go_wp2
      go_ret
      exact ⟨rfl, Hx.out⟩

theorem CMakes_calls (v : Value) (c : Nat) (l : List St) (w : World) (h : RS w v c l) (hl : l.length ≤ 1000000) : Calls Try.prog 42 #[v] w fun e w' => e = .returned (.int .i64 (rmake l)) ∧ Ext w w' := by
  have hc := total_Makes v c l w h hl
  obtain ⟨ao, n, rfl, h0⟩ := h.open
  have HC := Lib.hid hc
  clear hc h hl h0
  go_enter Try.func42, Try.ntmps42
  go_wp2_with fail
  refine HC.out.mono ?_
  rintro e w1 ⟨rfl, x1⟩
  go_wp2
  go_ret
  exact ⟨rfl, x1⟩
end Go.Proofs.Ytlmkcojimhbmiaa
/- Contract of charts.CheckRow. -/
namespace Go.Proofs.Ytlmkcojimhbmiaa
set_option linter.unusedVariables false
set_option linter.unusedSimpArgs false
set_option maxRecDepth 8000
open Go Go.RowKit

theorem rchk_long {l : List St} (h : 16 < l.length) : rchk l = 3 := by unfold rchk; rw [if_pos h]
theorem rchk_empty {l : List St} (h : l.length = 0) : rchk l = 1 := by unfold rchk; rw [if_neg (by omega), if_pos h]
theorem rchk_bad {l : List St} {i : Nat} (h : l.length ≤ 16) (hi : i < l.length) (hb : (si l i).chk ≠ 0) : rchk l = 1 := by
  unfold rchk
  rw [if_neg (by omega), if_neg (by omega), if_pos]
  rw [List.any_eq_true]
  exact ⟨_, si_mem hi, by simpa using hb⟩
theorem rchk_sum {l : List St} (h : l.length ≤ 16) (h0 : l.length ≠ 0) (hg : ∀ i, i < l.length → (si l i).chk = 0) : rchk l = if rneed l < 1 ∨ 16 < rneed l ∨ rmake l < 1 ∨ 16 < rmake l then 5 else 0 := by
  unfold rchk
  rw [if_neg (by omega), if_neg h0, if_neg]
  rw [List.any_eq_true]
  rintro ⟨s, hs, hb⟩
  obtain ⟨i, hi, rfl⟩ := List.mem_iff_getElem.1 hs
  have := hg i hi
  rw [si_of_lt hi] at this
  simp [this] at hb

set_option maxHeartbeats 2000000 in
theorem CheckRow_calls (v : Value) (c : Nat) (l : List St) (w : World) (h : RS w v c l) : Calls Try.prog 62 #[v] w fun e w' => e = .returned (.int .i64 (rchk l)) ∧ Ext w w' := by
  obtain ⟨ao, n, rfl, hn, hc, hcm, hat⟩ := h.open
  unfold maxLen at hcm
  have HH := Lib.hid h
  by_cases h16 : 16 < n
  · have hr := Lib.hid (rchk_long (l := l) (by omega))
    have h16' : (16 : Int) < (n : Int) := by omega
    clear hn hat h HH h16
    go_enter Try.func62, Try.ntmps62
    go_wp2
    go_ret
    exact ⟨ret_int hr.out.symm, Ext.refl _⟩
  have h16' : ¬ (16 : Int) < (n : Int) := by omega
  by_cases h0 : n = 0
  · have hr := Lib.hid (rchk_empty (l := l) (by omega))
    have h0' : ((n : Int) == 0) = true := by rw [beq_iff_eq]; omega
    clear hn hat h HH h16 h0
    go_enter Try.func62, Try.ntmps62
    go_wp2
    go_ret
    exact ⟨ret_int hr.out.symm, Ext.refl _⟩
  have h0' : ((n : Int) == 0) = false := by rw [beq_eq_false_iff_ne]; omega
  have hbad : ∀ i, i < n → (si l i).chk ≠ 0 → rchk l = 1 := fun i hi hb => rchk_bad (by omega) (by omega) hb
  have hsum : (∀ i, i < n → (si l i).chk = 0) → rchk l = if rneed l < 1 ∨ 16 < rneed l ∨ rmake l < 1 ∨ 16 < rmake l then 5 else 0 := fun hg => rchk_sum (by omega) (by omega) (fun i hi => hg i (by omega))
  have hnb := rneed_bd l
  have hmb := rmake_bd l
  have hCN := fun w' (x : Ext w w') => CNeeds_calls _ c l w' (h.ext x) (by omega)
  have hCM := fun w' (x : Ext w w') => CMakes_calls _ c l w' (h.ext x) (by omega)
  rw [← hn] at hnb hmb
  obtain ⟨A, hA⟩ : ∃ A, A = rneed l := ⟨_, rfl⟩
  obtain ⟨M, hM⟩ : ∃ M, M = rmake l := ⟨_, rfl⟩
  rw [← hA] at hnb hsum hCN
  rw [← hM] at hmb hsum hCM
  obtain ⟨R, hR⟩ : ∃ R, R = rchk l := ⟨_, rfl⟩
  rw [← hR] at hbad hsum ⊢
  have HA := Lib.hid hat; have HBd := Lib.hid hbad; have HSm := Lib.hid hsum; have HN := Lib.hid hCN; have HM := Lib.hid hCM
  clear hat hbad hsum hCN hCM hn h HH hA hM hR h16 h0
  go_enter Try.func62, Try.ntmps62
  go_wp2
  go_loopw [4, 15] (fun _ i wr => ∃ k : Nat, k ≤ n ∧ i = .int .i64 k ∧ Hid (Ext w wr) ∧ Hid (∀ i, i < k → (si l i).chk = 0)) (fun _ i _ => n - (intOf i).toNat)
  case atStart => exact ⟨0, Nat.zero_le _, rfl, Lib.hid (Ext.refl w), Lib.hid (fun i hi => by omega)⟩
  case round =>
    obtain ⟨k, hk, rfl, Hx, HG⟩ := hrel
    by_cases hlt : k < n
    · obtain ⟨b, o, rfl, h5⟩ := HA.out k hlt
      obtain ⟨c0, c1, c2, c3, c4⟩ := h5.ext Hx.out
      have hcall := fun w => SCheck_calls (si l k) w
      have hbk := HBd.out k hlt
      have hnx : (si l k).chk = 0 → ∀ i, i < k + 1 → (si l i).chk = 0 := fun h0 i hi => by
        by_cases e : i = k
        · rw [e]; exact h0
        · exact HG.out i (by omega)
      obtain ⟨s, hse⟩ : ∃ s, s = si l k := ⟨_, rfl⟩
      rw [← hse] at c0 c1 c2 c3 c4 hcall hbk hnx
      have hcc := St.chk_cases s
      unfold St.val at hcall
      generalize St.chk s = q at hcall hbk hcc hnx
      have HCL := Lib.hid hcall; have HBk := Lib.hid hbk; have HNx := Lib.hid hnx
      clear hcall hbk hse h5 hnx
      go_wp2_with fail
      refine (HCL.out _).mono ?_
      rintro e w1 ⟨rfl, x1⟩
      have HX := Lib.hid (Hx.out.trans (((Ext.refl wr).alloc _).trans x1))
      clear x1 c0 c1 c2 c3 c4 HCL
      rcases hcc with rfl | rfl
      · go_wp2
        go_roundw
        case rel => exact ⟨k + 1, by omega, by go_num, HX, Lib.hid (HNx.out (by first | trivial | rfl))⟩
        case measure => simp [intOf]; omega
      · go_wp2
        go_ret
        exact ⟨ret_int (HBk.out (by decide)).symm, HX.out⟩
    · obtain rfl : n = k := by omega
      have hr := HSm.out HG.out
      have Hr := Lib.hid hr
      clear hr hlt
      go_wp2_with fail
      refine (HN.out _ Hx.out).mono ?_
      rintro e w1 ⟨rfl, x1⟩
      have X1 := Lib.hid (Hx.out.trans x1)
      clear x1
      go_wp2_with fail
      refine (HM.out _ X1.out).mono ?_
      rintro e w2 ⟨rfl, x2⟩
      have X2 := Lib.hid (X1.out.trans x2)
      clear x2
      by_cases a1 : A < 1
      · have hf := Lib.hid (show R = 5 by rw [Hr.out, if_pos (.inl a1)])
        go_wp2
        go_ret
        exact ⟨ret_int hf.out.symm, X2.out⟩
      · by_cases a2 : 16 < A
        · have hf := Lib.hid (show R = 5 by rw [Hr.out, if_pos (.inr (.inl a2))])
          go_wp2
          go_ret
          exact ⟨ret_int hf.out.symm, X2.out⟩
        · by_cases a3 : M < 1
          · have hf := Lib.hid (show R = 5 by rw [Hr.out, if_pos (.inr (.inr (.inl a3)))])
            go_wp2
            go_ret
            exact ⟨ret_int hf.out.symm, X2.out⟩
          · by_cases a4 : 16 < M
            · have hf := Lib.hid (show R = 5 by rw [Hr.out, if_pos (.inr (.inr (.inr a4)))])
              go_wp2
              go_ret
              exact ⟨ret_int hf.out.symm, X2.out⟩
            · have hf := Lib.hid (show R = 0 by rw [Hr.out, if_neg (by omega)])
              go_wp2
              go_ret
              exact ⟨ret_int hf.out.symm, X2.out⟩
end Go.Proofs.Ytlmkcojimhbmiaa
