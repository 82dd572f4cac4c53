/- Texts of this claim in one file: libraries and walks. -/
import Derived.WalkKit
import Derived.ProofKit
import Derived.OpenShut
import Derived.Deep.OwnRows
import Derived.Deep.QuietTactic
import Derived.Deep.RegionWith
import Derived.Deep.Cut
import Derived.Deep.DeepCutAuto
import Derived.BigQuiet
import Derived.WalkSpells
import Derived.WalkLawsBesides
import Derived.Lib.Hide
import Derived.Laws.AppendOwnNone
import Derived.Laws.CopyOwn
import Derived.StillTailTactics
import Derived.Laws.OwnMore
/- Predicates on slices and worlds that the walks of this seat share: what a slice of numbers reads as, and that a world only grew. No program in sight. -/
namespace Go.Proofs.YtlhkehfplcclgaaDoor
set_option linter.unusedVariables false
set_option linter.unusedSimpArgs false
open Go Go.RowKit

/-- Number i of a list; 0 behind its end. -/
def gi (xs : List Int) (i : Nat) : Int := xs.getD i 0

theorem gi_of_lt {xs : List Int} {i : Nat} (h : i < xs.length) : gi xs i = xs[i] := by
  unfold gi; simp [List.getD, List.getElem?_eq_getElem h]
theorem gi_some {xs : List Int} {i : Nat} (h : i < xs.length) : xs[i]? = some (gi xs i) := by
  rw [gi_of_lt h, List.getElem?_eq_getElem h]
theorem gi_mem {xs : List Int} {i : Nat} (h : i < xs.length) : gi xs i ∈ xs := by
  rw [gi_of_lt h]; exact List.getElem_mem h
theorem gi_map (f : Int → Int) {xs : List Int} {i : Nat} (h : i < xs.length) : gi (xs.map f) i = f (gi xs i) := by
  rw [gi_of_lt (by simpa using h), gi_of_lt h, List.getElem_map]
theorem gi_end {xs : List Int} {i : Nat} (h : xs.length ≤ i) : gi xs i = 0 := by
  unfold gi; simp [List.getD, List.getElem?_eq_none h]
theorem gi_ext {xs ys : List Int} (hl : xs.length = ys.length) (h : ∀ i, i < xs.length → gi xs i = gi ys i) : xs = ys := by
  apply List.ext_getElem hl
  intro i h1 h2
  have := h i h1
  rwa [gi_of_lt h1, gi_of_lt h2] at this
theorem take_succ_gi {xs : List Int} {k : Nat} (h : k < xs.length) : xs.take (k + 1) = xs.take k ++ [gi xs k] := by
  rw [gi_of_lt h]; exact List.take_succ_eq_append_getElem h
theorem gi_append_left {xs ys : List Int} {i : Nat} (h : i < xs.length) : gi (xs ++ ys) i = gi xs i := by
  unfold gi; simp [List.getD, List.getElem?_append_left h]
theorem gi_append_right {xs ys : List Int} {i : Nat} (h : xs.length ≤ i) : gi (xs ++ ys) i = gi ys (i - xs.length) := by
  unfold gi; simp [List.getD, List.getElem?_append_right h]
theorem gi_reverse {xs : List Int} {i : Nat} (h : i < xs.length) : gi xs.reverse i = gi xs (xs.length - 1 - i) := by
  rw [gi_of_lt (by simpa using h), gi_of_lt (by omega), List.getElem_reverse]
theorem gi_range_map (f : Nat → Int) {n i : Nat} (h : i < n) : gi ((List.range n).map f) i = f i := by
  rw [gi_of_lt (by simpa using h)]; simp
theorem gi_take {xs : List Int} {n i : Nat} (h : i < n) : gi (xs.take n) i = gi xs i := by
  unfold gi; simp [List.getD, h]
theorem gi_drop {xs : List Int} {n i : Nat} : gi (xs.drop n) i = gi xs (n + i) := by
  unfold gi; simp [List.getD, List.getElem?_drop]
theorem gi_cons_zero (x : Int) (xs : List Int) : gi (x :: xs) 0 = x := rfl
theorem gi_cons_succ (x : Int) (xs : List Int) (i : Nat) : gi (x :: xs) (i + 1) = gi xs i := by
  unfold gi; simp [List.getD]
theorem gi_all {xs : List Int} {P : Int → Prop} (h : ∀ i, i < xs.length → P (gi xs i)) : ∀ x ∈ xs, P x := by
  intro x hx
  obtain ⟨i, hi, rfl⟩ := List.mem_iff_getElem.1 hx
  rw [← gi_of_lt hi]; exact h i hi

theorem ret_int {k : IntKind} {a b : Int} (h : a = b) : Ending.returned (.int k a) = Ending.returned (.int k b) := by rw [h]
theorem ret_bool {a b : Bool} (h : a = b) : Ending.returned (.bool a) = Ending.returned (.bool b) := by rw [h]

/-! ### Worlds that only grew -/

/-- All that was there is as it was. -/
def Ext (w w' : World) : Prop := Below w.heap.size w w'

theorem Ext.refl (w : World) : Ext w w := Below.refl _ _
theorem Ext.trans {a b c : World} (h : Ext a b) (k : Ext b c) : Ext a c := Below.trans h (Below.mono k h.size)
theorem Ext.alloc {w w' : World} (h : Ext w w') (o : Obj) : Ext w (w'.alloc o) := Below.alloc h h.size o
theorem Ext.drew {w w' : World} (h : Ext w w') : Ext w w'.drew := Below.drew h
theorem Ext.drewN {w w' : World} (h : Ext w w') (n : Nat) : Ext w (w'.drewN n) := ⟨h.os, h.tape, h.output, h.size, h.block⟩
theorem Ext.setCell {w w' : World} (h : Ext w w') {p : Addr} (hp : w.heap.size ≤ p.block) (u : Value) : Ext w (w'.setCell p u) := Below.setCell h hp u
theorem Ext.below {B : Nat} {w0 w w' : World} (hb : Below B w0 w) (hB : B ≤ w.heap.size) (h : Ext w w') : Below B w0 w' := hb.trans (Below.mono h hB)
theorem Ext.grown {w w' w'' : World} {row : Option Nat} (h : Ext w w') (hg : w'.grownBy w'' row) (hr : ∀ k, row = some k → w.heap.size ≤ k) : Ext w w'' := Below.grown h hg h.size hr
theorem Ext.size {w w' : World} (h : Ext w w') : w.heap.size ≤ w'.heap.size := Below.size h
theorem Ext.cell {w w' : World} (h : Ext w w') {a : Addr} {v : Value} (hc : w.cell? a = some v) : w'.cell? a = some v :=
  (Below.cell h (World.block_lt_of_cell? w a hc)).trans hc
theorem Ext.block {w w' : World} (h : Ext w w') {b : Nat} {o : Obj} (hc : w.heap[b]? = some o) : w'.heap[b]? = some o := by
  rw [Below.block h b (Array.getElem?_eq_some_iff.1 hc).1]; exact hc
theorem Ext.frozen {w w' : World} (h : Ext w w') {a : Addr} (ha : a.block < w.heap.size) : w'.frozen? a = w.frozen? a := Below.frozen h ha
theorem Ext.row {w w' : World} (h : Ext w w') {b : Nat} {t : TypeId} {n : Nat} {f : Nat → Value} (hr : w.rowIs b t n f) : w'.rowIs b t n f :=
  hr.of_block (Below.block h b hr.lt)

theorem cell_alloc {w : World} {a : Addr} {v : Value} (h : w.cell? a = some v) (o : Obj) : (w.alloc o).cell? a = some v := ((Ext.refl w).alloc o).cell h

/-- A quiet call behind earlier draws. -/
theorem quiet_add {P : Program} {f : FuncId} {args : Array Value} {w : World} {m x : Nat} {v : Value}
    (h : Calls P f args (w.drewN (m + x)) fun e w' => e = .returned v ∧ ∃ p, w' = (w.drewN (m + x)).drewN p) : Calls P f args (w.drewN (m + x)) fun e w'' => e = .returned v ∧ ∃ n, w'' = w.drewN (m + n) :=
  h.mono fun _ _ ⟨he, p, hp⟩ => ⟨he, x + p, by rw [hp, World.drewN_drewN, Nat.add_assoc]⟩

/-! ### What a slice reads as -/

/-- The slice value v, of capacity c, holds the cells xs. -/
def VS (w : World) (v : Value) (c : Nat) (xs : List Value) : Prop :=
  ∃ ao : Option Addr, v = .slice ao xs.length c ∧ xs.length ≤ c ∧ c ≤ maxLen ∧ (ao = none → c = 0) ∧
    ∀ a, ao = some a → (0 < c → a.spot = none) ∧ ∀ j u, xs[j]? = some u → w.cell? ⟨a.block, a.off + j, none⟩ = some u

/-- .. the numbers xs. -/
def IS (k : IntKind) (w : World) (v : Value) (c : Nat) (xs : List Int) : Prop := VS w v c (xs.map (Value.int k))

theorem VS.ext {w w' : World} {v : Value} {c : Nat} {xs : List Value} (h : VS w v c xs) (e : Ext w w') : VS w' v c xs := by
  obtain ⟨ao, hv, h1, h2, h3, h4⟩ := h
  exact ⟨ao, hv, h1, h2, h3, fun a ha => ⟨(h4 a ha).1, fun j u hj => e.cell ((h4 a ha).2 j u hj)⟩⟩
theorem IS.ext {k : IntKind} {w w' : World} {v : Value} {c : Nat} {xs : List Int} (h : IS k w v c xs) (e : Ext w w') : IS k w' v c xs := VS.ext h e

theorem VS.nil (w : World) : VS w (.slice none 0 0) 0 [] := ⟨none, rfl, Nat.le_refl _, by unfold maxLen; omega, fun _ => rfl, fun _ h => by cases h⟩
theorem IS.nil (k : IntKind) (w : World) : IS k w (.slice none 0 0) 0 [] := VS.nil w

theorem VS.cells {w : World} {ao : Option Addr} {c : Nat} {xs : List Value} (h1 : xs.length ≤ c) (h4 : ∀ a, ao = some a → (0 < c → a.spot = none) ∧ ∀ j u, xs[j]? = some u → w.cell? ⟨a.block, a.off + j, none⟩ = some u) :
    ∀ ad, ao = some ad → ∀ j u, xs[j]? = some u → w.cell? (ad.add j) = some u := by
  intro ad had j u hj
  obtain ⟨b, o, s⟩ := ad
  obtain ⟨hs, hc⟩ := h4 _ had
  have hlt := (List.getElem?_eq_some_iff.1 hj).1
  have hs' : s = none := hs (by omega)
  subst hs'
  rw [Addr.add_lit]; exact hc j u hj

/-- For a walk: nothing, or an address and the cells. -/
theorem IS.open {k : IntKind} {w : World} {v : Value} {c : Nat} {xs : List Int} (h : IS k w v c xs) :
    xs.length ≤ c ∧ c ≤ maxLen ∧ ∃ ao : Option Addr, v = .slice ao xs.length c ∧ ((True ∧ xs.length = 0 ∧ c = 0) ∨
      ∃ b o, ao = some ⟨b, o, none⟩ ∧ ∀ i, i < xs.length → w.cell? ⟨b, o + i, none⟩ = some (.int k (gi xs i))) := by
  obtain ⟨ao, hv, h1, h2, h3, h4⟩ := h
  simp only [List.length_map] at hv h1
  refine ⟨h1, h2, ao, hv, ?_⟩
  by_cases hc0 : c = 0
  · exact .inl ⟨trivial, by omega, hc0⟩
  cases ao with
  | none => have := h3 rfl; exact absurd this hc0
  | some a =>
    obtain ⟨b, o, s⟩ := a
    obtain ⟨hs, hc⟩ := h4 _ rfl
    have hs' : s = none := hs (by omega)
    subst hs'
    refine .inr ⟨b, o, rfl, fun i hi => hc i _ ?_⟩
    rw [List.getElem?_map, gi_some hi]; rfl

theorem IS.mk {k : IntKind} {w : World} {b o n c : Nat} {xs : List Int} (hn : n = xs.length) (h1 : n ≤ c) (h2 : c ≤ maxLen)
    (hc : ∀ i, i < n → w.cell? ⟨b, o + i, none⟩ = some (.int k (gi xs i))) : IS k w (.slice (some ⟨b, o, none⟩) n c) c xs := by
  subst hn
  refine ⟨some ⟨b, o, none⟩, by simp, by simpa using h1, h2, fun h => (by cases h), fun a ha => ?_⟩
  obtain rfl := Option.some.inj ha
  refine ⟨fun _ => rfl, fun j u hj => ?_⟩
  rw [List.getElem?_map] at hj
  by_cases hlt : j < xs.length
  · rw [gi_some hlt] at hj
    obtain rfl := Option.some.inj hj
    exact hc j hlt
  · rw [List.getElem?_eq_none (by omega)] at hj; cases hj

/-- The length of the value. -/
theorem IS.len {k : IntKind} {w : World} {a : Option Addr} {n c c' : Nat} {xs : List Int} (h : IS k w (.slice a n c) c' xs) : n = xs.length ∧ c = c' ∧ xs.length ≤ c := by
  obtain ⟨ao, hv, h1, h2, h3, h4⟩ := h
  simp at hv
  obtain ⟨_, rfl, rfl⟩ := hv
  exact ⟨rfl, rfl, by simpa using h1⟩

/-- A row of the call's own, all of it. -/
theorem IS.of_row {k : IntKind} {w : World} {b : Nat} {t : TypeId} {n : Nat} {f : Nat → Value} {xs : List Int} (h : w.rowIs b t n f) (hn : n = xs.length) (h2 : n ≤ maxLen)
    (hf : ∀ i, i < n → f i = .int k (gi xs i)) : IS k w (.slice (some ⟨b, 0, none⟩) n n) n xs :=
  IS.mk hn (Nat.le_refl _) h2 fun i hi => by rw [Nat.zero_add, h.cell hi, hf i hi]

/-- What was appended. -/
theorem VS.of_own {w : World} {B : Nat} {e : TypeId} {v : Value} {n : Nat} {xs : List Value} (h : w.ownsRow B e 1 v n xs) : ∃ c, VS w v c xs := by
  obtain ⟨hl, h⟩ := h
  rcases h with ⟨rfl, rfl⟩ | ⟨g, cap, cur, rfl, _, hg, hnc, hcm, hcs, ht⟩
  · obtain rfl : xs = [] := List.eq_nil_of_length_eq_zero (by simpa using hl)
    exact ⟨0, VS.nil w⟩
  · simp only [Nat.mul_one] at hl hcs ht
    subst hl
    refine ⟨cap, some ⟨g, 0, none⟩, rfl, hnc, hcm, fun h => (by cases h), fun a ha => ?_⟩
    obtain rfl := Option.some.inj ha
    refine ⟨fun _ => rfl, fun j u hj => ?_⟩
    have hh : xs.length ≤ cur.size := by omega
    have hjl : j < xs.length := (List.getElem?_eq_some_iff.1 hj).1
    rw [← ht, List.getElem?_take, if_pos hjl] at hj
    simp only [World.cell?, hg, Nat.zero_add]
    simpa using hj
theorem IS.of_own {k : IntKind} {w : World} {B : Nat} {e : TypeId} {v : Value} {n : Nat} {xs : List Int} (h : w.ownsRow B e 1 v n (xs.map (Value.int k))) : ∃ c, IS k w v c xs := VS.of_own h


/-- A slice with an address. -/
def NN (v : Value) : Prop := ∃ b o n c, v = .slice (some ⟨b, o, none⟩) n c
theorem NN.mk {b o n c : Nat} : NN (.slice (some ⟨b, o, none⟩) n c) := ⟨b, o, n, c, rfl⟩
theorem IS.nn {k : IntKind} {w : World} {v : Value} {c : Nat} {xs : List Int} (h : IS k w v c xs) (hn : NN v) :
    xs.length ≤ c ∧ c ≤ maxLen ∧ ∃ b o, v = .slice (some ⟨b, o, none⟩) xs.length c ∧ ∀ i, i < xs.length → w.cell? ⟨b, o + i, none⟩ = some (.int k (gi xs i)) := by
  obtain ⟨h1, h2, ao, rfl, hao⟩ := h.open
  refine ⟨h1, h2, ?_⟩
  obtain ⟨b, o, n, c', hv⟩ := hn
  simp only [Value.slice.injEq] at hv
  obtain ⟨rfl, _, _⟩ := hv
  rcases hao with ⟨_, h0, _⟩ | ⟨b', o', he, hc⟩
  · exact ⟨b, o, rfl, fun i hi => by omega⟩
  · simp only [Option.some.injEq, Addr.mk.injEq, and_true] at he
    obtain ⟨rfl, rfl⟩ := he
    exact ⟨b, o, rfl, hc⟩
theorem VS.nn {w : World} {v : Value} {c : Nat} {xs : List Value} (h : VS w v c xs) (hn : 0 < xs.length) : NN v := by
  obtain ⟨ao, rfl, h1, _, h3, h4⟩ := h
  cases ao with
  | none => have := h3 rfl; omega
  | some a =>
    obtain ⟨b, o, s⟩ := a
    have hs : s = none := (h4 _ rfl).1 (by omega)
    subst hs
    exact NN.mk

/-! ### Slices of slices -/

def ri (xs : List (List Int)) (i : Nat) : List Int := xs.getD i []
theorem ri_of_lt {xs : List (List Int)} {i : Nat} (h : i < xs.length) : ri xs i = xs[i] := by
  unfold ri; simp [List.getD, List.getElem?_eq_getElem h]
theorem ri_ext {xs ys : List (List Int)} (hl : xs.length = ys.length) (h : ∀ i, i < xs.length → ri xs i = ri ys i) : xs = ys := by
  apply List.ext_getElem hl
  intro i h1 h2
  have := h i h1
  rwa [ri_of_lt h1, ri_of_lt h2] at this
theorem ri_range_map (f : Nat → List Int) {n i : Nat} (h : i < n) : ri ((List.range n).map f) i = f i := by
  rw [ri_of_lt (by simpa using h)]; simp
theorem ri_set (a : List (List Int)) (i : Nat) (x : List Int) (j : Nat) (hi : i < a.length) : ri (a.set i x) j = if j = i then x else ri a j := by
  unfold ri
  by_cases h : j = i
  · subst h; simp [List.getD, hi]
  · rw [if_neg h]; simp [List.getD, List.getElem?_set, Ne.symm h]

/-- The slice value v, of capacity c, holds slices (vs) of capacities caps that hold the rows. -/
def ISV (k : IntKind) (w : World) (v : Value) (c : Nat) (vs : Nat → Value) (caps : Nat → Nat) (rows : List (List Int)) : Prop :=
  VS w v c ((List.range rows.length).map vs) ∧ ∀ i, i < rows.length → IS k w (vs i) (caps i) (ri rows i)
/-- .. of any capacities. -/
def ISS (k : IntKind) (w : World) (v : Value) (c : Nat) (rows : List (List Int)) : Prop := ∃ vs caps, ISV k w v c vs caps rows
/-- .. none with spare capacity. -/
def ISX (k : IntKind) (w : World) (v : Value) (c : Nat) (rows : List (List Int)) : Prop := ∃ vs, ISV k w v c vs (fun i => (ri rows i).length) rows

theorem ISV.ext {k : IntKind} {w w' : World} {v : Value} {c : Nat} {vs : Nat → Value} {caps : Nat → Nat} {rows : List (List Int)} (h : ISV k w v c vs caps rows) (e : Ext w w') : ISV k w' v c vs caps rows :=
  ⟨h.1.ext e, fun i hi => (h.2 i hi).ext e⟩
theorem ISS.ext {k : IntKind} {w w' : World} {v : Value} {c : Nat} {rows : List (List Int)} (h : ISS k w v c rows) (e : Ext w w') : ISS k w' v c rows := by
  obtain ⟨vs, caps, h⟩ := h; exact ⟨vs, caps, h.ext e⟩
theorem ISX.ext {k : IntKind} {w w' : World} {v : Value} {c : Nat} {rows : List (List Int)} (h : ISX k w v c rows) (e : Ext w w') : ISX k w' v c rows := by
  obtain ⟨vs, h⟩ := h; exact ⟨vs, h.ext e⟩
theorem ISX.iss {k : IntKind} {w : World} {v : Value} {c : Nat} {rows : List (List Int)} (h : ISX k w v c rows) : ISS k w v c rows := by
  obtain ⟨vs, h⟩ := h; exact ⟨vs, _, h⟩
theorem ISX.nil (k : IntKind) (w : World) : ISX k w (.slice none 0 0) 0 [] := ⟨fun _ => undef, VS.nil w, fun i hi => by simp at hi⟩
theorem ISS.nil (k : IntKind) (w : World) : ISS k w (.slice none 0 0) 0 [] := (ISX.nil k w).iss

/-- For a walk: nil, or an address and the cells. -/
theorem ISV.open {k : IntKind} {w : World} {v : Value} {c : Nat} {vs : Nat → Value} {caps : Nat → Nat} {rows : List (List Int)} (h : ISV k w v c vs caps rows) :
    rows.length ≤ c ∧ c ≤ maxLen ∧ ∃ ao : Option Addr, v = .slice ao rows.length c ∧ ((True ∧ rows.length = 0 ∧ c = 0) ∨
      ∃ b o, ao = some ⟨b, o, none⟩ ∧ ∀ i, i < rows.length → w.cell? ⟨b, o + i, none⟩ = some (vs i)) := by
  obtain ⟨⟨ao, hv, h1, h2, h3, h4⟩, _⟩ := h
  simp only [List.length_map, List.length_range] at hv h1
  refine ⟨h1, h2, ao, hv, ?_⟩
  by_cases hc0 : c = 0
  · exact .inl ⟨trivial, by omega, hc0⟩
  cases ao with
  | none => have := h3 rfl; exact absurd this hc0
  | some a =>
    obtain ⟨b, o, s⟩ := a
    obtain ⟨hs, hc⟩ := h4 _ rfl
    have hs' : s = none := hs (by omega)
    subst hs'
    exact .inr ⟨b, o, rfl, fun i hi => hc i _ (by simp [hi])⟩

theorem ISV.mk' {k : IntKind} {w : World} {b o n c : Nat} {vs : Nat → Value} {caps : Nat → Nat} {rows : List (List Int)} (hn : n = rows.length) (h1 : n ≤ c) (h2 : c ≤ maxLen)
    (hc : ∀ i, i < n → w.cell? ⟨b, o + i, none⟩ = some (vs i)) (hr : ∀ i, i < n → IS k w (vs i) (caps i) (ri rows i)) : ISV k w (.slice (some ⟨b, o, none⟩) n c) c vs caps rows := by
  subst hn
  refine ⟨⟨some ⟨b, o, none⟩, by simp, by simpa using h1, h2, fun h => (by cases h), fun a ha => ?_⟩, hr⟩
  obtain rfl := Option.some.inj ha
  refine ⟨fun _ => rfl, fun j u hj => ?_⟩
  have hlt : j < rows.length := by have := (List.getElem?_eq_some_iff.1 hj).1; simpa using this
  simp [hlt] at hj
  subst hj
  exact hc j hlt

theorem ISX.of_row {k : IntKind} {w : World} {b : Nat} {t : TypeId} {n : Nat} {vs : Nat → Value} {rows : List (List Int)} (h : w.rowIs b t n vs) (hn : n = rows.length) (h2 : n ≤ maxLen)
    (hr : ∀ i, i < n → IS k w (vs i) (ri rows i).length (ri rows i)) : ISX k w (.slice (some ⟨b, 0, none⟩) n n) n rows :=
  ⟨vs, ISV.mk' hn (Nat.le_refl _) h2 (fun i hi => by rw [Nat.zero_add, h.cell hi]) hr⟩

/-! ### What a call hands back -/

/-- A slice of numbers that is not nil, written out. -/
def RetN (k : IntKind) (w0 : World) (xs : List Int) (e : Ending) (w' : World) : Prop := ∃ b o n c, e = .returned (.slice (some ⟨b, o, none⟩) n c) ∧ n = xs.length ∧ IS k w' (.slice (some ⟨b, o, none⟩) n c) c xs ∧ Ext w0 w'
theorem RetN.mk {k : IntKind} {w0 w' : World} {xs : List Int} {v : Value} {c : Nat} (h : IS k w' v c xs) (hn : NN v) (hx : Ext w0 w') : RetN k w0 xs (.returned v) w' := by
  obtain ⟨_, _, b, o, rfl, _⟩ := h.nn hn
  exact ⟨b, o, _, c, rfl, rfl, h, hx⟩
/-- A slice of slices and an error code. -/
def RetXE (k : IntKind) (w0 : World) (c : Nat) (rows : List (List Int)) (err : Int) (e : Ending) (w' : World) : Prop := ∃ v, e = .returned (.tuple #[v, .int .i64 err]) ∧ ISX k w' v c rows ∧ Ext w0 w'
/-- A number and an error code. -/
def RetNE (w0 : World) (x err : Int) (e : Ending) (w' : World) : Prop := e = .returned (.tuple #[.int .i64 x, .int .i64 err]) ∧ Ext w0 w'


/-- A slice of numbers, not nil, of capacity c. -/
def RetI (k : IntKind) (w0 : World) (c : Nat) (xs : List Int) (e : Ending) (w' : World) : Prop := ∃ v, e = .returned v ∧ IS k w' v c xs ∧ Ext w0 w' ∧ NN v
/-- .. of some capacity. -/
def RetX (k : IntKind) (w0 : World) (xs : List Int) (e : Ending) (w' : World) : Prop := ∃ v c, e = .returned v ∧ IS k w' v c xs ∧ Ext w0 w'
/-- .. and an error code. -/
def RetIE (k : IntKind) (w0 : World) (c : Nat) (xs : List Int) (err : Int) (e : Ending) (w' : World) : Prop := ∃ v, e = .returned (.tuple #[v, .int .i64 err]) ∧ IS k w' v c xs ∧ Ext w0 w'

theorem IS.out {k : IntKind} {w : World} {v : Value} {c : Nat} {xs : List Int} (h : IS k w v c xs) : ∃ a n c', v = .slice a n c' ∧ n = xs.length ∧ c' = c ∧ IS k w (.slice a n c') c' xs := by
  obtain ⟨_, _, ao, rfl, _⟩ := h.open
  exact ⟨ao, _, c, rfl, rfl, rfl, h⟩
theorem RetIE.open {k : IntKind} {w0 w' : World} {c : Nat} {xs : List Int} {err : Int} {e : Ending} (h : RetIE k w0 c xs err e w') :
    ∃ a n c', e = .returned (.tuple #[.slice a n c', .int .i64 err]) ∧ n = xs.length ∧ c' = c ∧ IS k w' (.slice a n c') c' xs ∧ Ext w0 w' := by
  obtain ⟨v, rfl, h1, h2⟩ := h
  obtain ⟨a, n, c', rfl, h3, h4, h5⟩ := h1.out
  exact ⟨a, n, c', rfl, h3, h4, h5, h2⟩
theorem RetX.open {k : IntKind} {w0 w' : World} {xs : List Int} {e : Ending} (h : RetX k w0 xs e w') :
    ∃ a n c', e = .returned (.slice a n c') ∧ n = xs.length ∧ IS k w' (.slice a n c') c' xs ∧ Ext w0 w' := by
  obtain ⟨v, c, rfl, h1, h2⟩ := h
  obtain ⟨a, n, c', rfl, h3, _, h5⟩ := h1.out
  exact ⟨a, n, c', rfl, h3, h5, h2⟩
/-- The cells of a slice that is known by its parts. -/
theorem IS.at {k : IntKind} {w : World} {a : Option Addr} {n c c' : Nat} {xs : List Int} (h : IS k w (.slice a n c) c' xs) {i : Nat} (hi : i < n) :
    ∃ b o, a = some ⟨b, o, none⟩ ∧ ∀ j, j < n → w.cell? ⟨b, o + j, none⟩ = some (.int k (gi xs j)) := by
  obtain ⟨_, _, ao, hv, hao⟩ := h.open
  simp only [Value.slice.injEq] at hv
  obtain ⟨rfl, rfl, _⟩ := hv
  rcases hao with ⟨_, h0, _⟩ | h
  · omega
  · exact h

/-! ### append -/

/-- Type t is a slice of one-cell elements of type e. -/
structure EI (P : Program) (t e : TypeId) (z : Value) (bytes : Nat) : Prop where
  und : P.underlying t = some (.slice e)
  info : (P.info? e).map (fun i => (i.zero, i.size, i.bytes)) = some (some z, 1, bytes)
  cell : z.cells = #[z]

theorem VS.one (w : World) (u : Value) (e : TypeId) : VS (w.alloc (.cells #[u] e)) (.slice (some ⟨w.heap.size, 0, none⟩) 1 1) 1 [u] := by
  refine ⟨_, rfl, Nat.le_refl _, by unfold maxLen; simp, fun h => (by cases h), fun a ha => ?_⟩
  obtain rfl := Option.some.inj ha
  refine ⟨fun _ => rfl, fun j x hj => ?_⟩
  have : j = 0 := by have := (List.getElem?_eq_some_iff.1 hj).1; simpa using this
  subst this
  simp at hj; subst hj
  show (w.alloc (.cells #[u] e)).cell? ⟨w.heap.size, 0, none⟩ = some u
  rw [World.cell?_alloc_at (hn := rfl)]; rfl

theorem VS.drew {w : World} {v : Value} {c : Nat} {xs : List Value} (h : VS w v c xs) : VS w.drew v c xs := h.ext (Ext.refl w).drew

theorem below_of_grown {B : Nat} {w w' : World} {e : TypeId} {v : Value} {n : Nat} {xs : List Value} (hown : w.ownsRow B e 1 v n xs) (hB : B ≤ w.heap.size) (hg : w.grownBy w' v.ownBlock) : Below B w w' :=
  (Below.refl B w).grown hg hB fun k hk => (hown.lt k hk).1

/-- 'append(s, x...)', s the call's own, x any slice. -/
theorem app_own {P : Program} {t e : TypeId} {z : Value} {bytes : Nat} (ei : EI P t e z bytes) {w : World} {ops : Array Oper} {rest : List Oper} {o : Oper} {a : Act} {Q : Exit → Act → World → Prop}
    (hg : o.guard = none) (s x : Operand) (hop : o.op = Op.call { callee := Callee.builtin Builtin.append, args := #[s, x], argTypes := #[t, t] })
    (B : Nat) (v : Value) (n : Nat) (xs : List Value) (hs : a.eval s = v) (hown : w.ownsRow B e 1 v n xs)
    (y : Value) (c : Nat) (ys : List Value) (hx : a.eval x = y) (hy : VS w y c ys) (h1 : ∀ u ∈ ys, u.oneCell' = true)
    (hbytes : (n + ys.length) * bytes ≤ 140737488355328) (hlen : n + ys.length ≤ 140737488355328) (hB : B ≤ w.heap.size)
    (hK : ∀ v' w', w'.ownsRow B e 1 v' (n + ys.length) (xs ++ ys) → Below B w w' → wpList P ops Q rest (a.put o.dst v') w') :
    wpList P ops Q (o :: rest) a w := by
  obtain ⟨i, hi, hz0, hz1, hz2⟩ := info_parts ei.info
  obtain ⟨ao, rfl, hl, hm, hno, hc⟩ := hy
  have hzs : z.cells.size = 1 := by rw [ei.cell]; rfl
  cases ao with
  | none =>
    have hc0 := hno rfl
    have hys : ys = [] := List.eq_nil_of_length_eq_zero (by omega)
    subst hys
    subst hc0
    exact wpList_append_own_none hg s x t hop B e i 1 ei.und hi v n xs hs hown hx (hK v w (by simpa using hown) (Below.refl _ _))
  | some ad =>
    refine wpList_append_own w hg s x t hop B e i z 1 bytes ei.und hi hz0 hz1 hz2 hzs (by decide) v n xs hs hown ad ys.length c ys hx (by simp) (VS.cells hl hc ad rfl) h1 (by unfold maxLen; omega) hbytes hB ?_
    intro v' w' h2 h3 _
    exact hK v' w' h2 (below_of_grown hown hB h3)

/-- 'append(s, x...)' within the capacity. -/
theorem app_fits {P : Program} {t e : TypeId} {z : Value} {bytes : Nat} (ei : EI P t e z bytes) {w : World} {ops : Array Oper} {rest : List Oper} {o : Oper} {a : Act} {Q : Exit → Act → World → Prop}
    (hg : o.guard = none) (s x : Operand) (hop : o.op = Op.call { callee := Callee.builtin Builtin.append, args := #[s, x], argTypes := #[t, t] })
    (B g n cap : Nat) (xs : List Value) (hs : a.eval s = .slice (some ⟨g, 0, none⟩) n cap) (hown : w.ownsRow B e 1 (.slice (some ⟨g, 0, none⟩) n cap) n xs)
    (y : Value) (c : Nat) (ys : List Value) (hx : a.eval x = y) (hy : VS w y c ys) (h1 : ∀ u ∈ ys, u.oneCell' = true) (hfit : n + ys.length ≤ cap) (hB : B ≤ w.heap.size)
    (hK : ∀ w', w'.ownsRow B e 1 (.slice (some ⟨g, 0, none⟩) (n + ys.length) cap) (n + ys.length) (xs ++ ys) → Below B w w' → wpList P ops Q rest (a.put o.dst (.slice (some ⟨g, 0, none⟩) (n + ys.length) cap)) w') :
    wpList P ops Q (o :: rest) a w := by
  obtain ⟨i, hi, hz0, hz1, hz2⟩ := info_parts ei.info
  obtain ⟨ao, rfl, hl, hm, hno, hc⟩ := hy
  refine wpList_append_fits_any w hg s x t hop B e i 1 ei.und hi hz1 g n cap xs hs hown ao ys.length c ys hx (by simp) (fun h => ?_) (VS.cells hl hc) h1 hfit ?_
  · have := hno h; omega
  · intro w' h2 h3
    exact hK w' h2 (below_of_grown hown hB h3)

/-- .. as one step of a region that draws its order. -/
theorem step_app_fits {P : Program} {t e : TypeId} {z : Value} {bytes : Nat} (ei : EI P t e z bytes) {w : World} {ops : Array Oper} {o : Oper} {a : Act} {K : Act → World → Prop} {Q : Exit → Act → World → Prop} {E : Prop}
    (hg : o.guard = none) (s x : Operand) (hop : o.op = Op.call { callee := Callee.builtin Builtin.append, args := #[s, x], argTypes := #[t, t] })
    (B g n cap : Nat) (xs : List Value) (hs : a.eval s = .slice (some ⟨g, 0, none⟩) n cap) (hown : w.ownsRow B e 1 (.slice (some ⟨g, 0, none⟩) n cap) n xs)
    (y : Value) (c : Nat) (ys : List Value) (hx : a.eval x = y) (hy : VS w y c ys) (h1 : ∀ u ∈ ys, u.oneCell' = true) (hfit : n + ys.length ≤ cap) (hB : B ≤ w.heap.size)
    (hK : ∀ w', w'.ownsRow B e 1 (.slice (some ⟨g, 0, none⟩) (n + ys.length) cap) (n + ys.length) (xs ++ ys) → Below B w w' → K (a.put o.dst (.slice (some ⟨g, 0, none⟩) (n + ys.length) cap)) w') :
    if Region.wanted o (yielded ops a.tmps) = true then Oper.wp P o a w K Q else E := by
  have hw : Region.wanted o (yielded ops a.tmps) = true := by simp [Region.wanted, hg]
  rw [if_pos hw]
  obtain ⟨i, hi, hz0, hz1, hz2⟩ := info_parts ei.info
  obtain ⟨ao, rfl, hl, hm, hno, hc⟩ := hy
  cases ao with
  | none =>
    have := hno rfl
    obtain rfl : ys = [] := List.eq_nil_of_length_eq_zero (by omega)
    subst this
    have hrun := run_append_owned_none (P := P) (w := w) B t o.type e i 1 ei.und hi _ n xs hown
    unfold Oper.wp
    simp [execOp, hop, resolve, invoke, builtin, hs, hx, hrun, Result.andThen]
    exact hK w (by simpa using hown) (Below.refl _ _)
  | some ad =>
    obtain ⟨w', hrun, r1, r2⟩ := run_append_fits (P := P) w B t o.type e i 1 ei.und hi hz1 g n cap xs hown ad ys.length c ys (by simp) (VS.cells hl hc ad rfl) h1 hfit
    unfold Oper.wp
    simp [execOp, hop, resolve, invoke, builtin, hs, hx, hrun, Result.andThen]
    exact hK w' r1 (below_of_grown hown hB r2)

theorem run_make_cap {P : Program} {t e : TypeId} {z : Value} {bytes : Nat} (ei : EI P t e z bytes) (kl kc : IntKind) (n : Nat) (hbytes : bytes * n ≤ 281474976710656) (h63 : n ≤ 9223372036854775807) (w : World) :
    (Instr.makeSlice t (.int kl 0) (.int kc (n : Int))).run P w = .ok (.slice (some ⟨w.heap.size, 0, none⟩) 0 n) (w.alloc (.cells (madeCells #[z] n) e)) := by
  obtain ⟨i, hi, hz0, hz1, hz2⟩ := info_parts ei.info
  have hb' : (i.bytes : Int) * (n : Int) ≤ 281474976710656 := by
    have h : ((i.bytes * n : Nat) : Int) ≤ 281474976710656 := by rw [hz2]; omega
    rwa [Int.natCast_mul] at h
  have hr := run_make (P := P) w t e i z ei.und hi hz0 kl kc 0 n (by omega) (by omega) hb' (by omega)
  simp only [Int.toNat_natCast, hz1, Nat.mul_one, ei.cell] at hr
  exact hr

theorem grown_ext {w w' : World} (h : w.grownBy w' none) : Ext w w' := (Ext.refl w).grown h fun k hk => by cases hk

/-- 'append(s, x...)' where s has no spare capacity: nothing is written. -/
theorem app_full {P : Program} {t e : TypeId} {z : Value} {bytes : Nat} (ei : EI P t e z bytes) {w : World} {ops : Array Oper} {rest : List Oper} {o : Oper} {a : Act} {Q : Exit → Act → World → Prop}
    (hg : o.guard = none) (s x : Operand) (hop : o.op = Op.call { callee := Callee.builtin Builtin.append, args := #[s, x], argTypes := #[t, t] })
    (sv : Value) (xs : List Value) (n : Nat) (hs : a.eval s = sv) (hsv : VS w sv n xs) (hn : xs.length = n)
    (y : Value) (c : Nat) (ys : List Value) (hx : a.eval x = y) (hy : VS w y c ys) (h1 : ∀ u ∈ ys, u.oneCell' = true)
    (hbytes : (xs.length + ys.length) * bytes ≤ 140737488355328) (hlen : xs.length + ys.length ≤ 140737488355328)
    (hK : ∀ v' c' w', VS w' v' c' (xs ++ ys) → (NN sv → NN v') → Ext w w' → wpList P ops Q rest (a.put o.dst v') w') :
    wpList P ops Q (o :: rest) a w := by
  obtain ⟨i, hi, hz0, hz1, hz2⟩ := info_parts ei.info
  subst hn
  have hy' := hy
  obtain ⟨bo, rfl, hbl, hbm, hbno, hbc⟩ := hy
  have hsv' := hsv
  obtain ⟨ao, rfl, hl, hm, hno, hc⟩ := hsv
  have hzs : z.cells.size = 1 := by rw [ei.cell]; rfl
  by_cases h0 : ys.length = 0
  · obtain rfl : ys = [] := List.eq_nil_of_length_eq_zero h0
    refine wpList_plain hg fun K hK' => ?_
    have hrun : (Builtin.append_ #[t, t] o.type #[.slice ao xs.length xs.length, .slice bo 0 c]).run P w = .ok (.slice ao xs.length xs.length) w := by
      cases bo with
      | none => cases ao <;> simp [Builtin.append_, run_underlying ei.und, sizeOf, typeInfo, hi, Builtin.lenOf, Builtin.firstCells, storeCells]
      | some b => cases ao <;> simp [Builtin.append_, run_underlying ei.und, sizeOf, typeInfo, hi, Builtin.lenOf, Builtin.firstCells, loadCells, loadCellsFrom, storeCells]
    unfold Oper.wp
    simp [execOp, hop, resolve, invoke, builtin, hs, hx, hrun, Result.andThen]
    exact hK' _ _ (hK _ _ _ (by simpa using hsv') (fun h => h) (Ext.refl _))
  · obtain ⟨ad, rfl⟩ : ∃ ad, bo = some ad := by
      cases bo with
      | none => have := hbno rfl; omega
      | some ad => exact ⟨ad, rfl⟩
    refine wpList_append_grows w hg s x t hop e i z 1 bytes ei.und hi hz0 hz1 hz2 hzs (by decide) ao xs.length xs.length xs hs (fun h => ⟨hno h, hno h⟩) (by simp) (VS.cells hl hc) ad ys.length c ys hx (by simp) (VS.cells hbl hbc ad rfl) h1 (by omega) (by unfold maxLen; omega) hbytes ?_
    intro v' w' h2 h3
    obtain ⟨c', hc'⟩ := VS.of_own h2
    exact hK v' c' w' hc' (fun _ => hc'.nn (by simp; omega)) (grown_ext h3)

/-- The last element is cut off. -/
theorem own_pop {w : World} {B : Nat} {e : TypeId} {g n cap : Nat} {xs : List Value} (h : w.ownsRow B e 1 (.slice (some ⟨g, 0, none⟩) n cap) n xs) :
    w.ownsRow B e 1 (.slice (some ⟨g, 0, none⟩) (n - 1) cap) (n - 1) xs.dropLast := by
  obtain ⟨hl, h⟩ := h
  rcases h with ⟨h, _⟩ | ⟨g', cap', cur, hv, hb, hg, hnc, hcm, hcs, ht⟩
  · cases h
  · simp only [Value.slice.injEq, Option.some.injEq, Addr.mk.injEq, true_and, and_true] at hv
    obtain ⟨rfl, rfl⟩ := hv
    refine ⟨by simp at hl ⊢; omega, .inr ⟨g, cap, cur, rfl, hb, hg, by omega, hcm, hcs, ?_⟩⟩
    simp only [Nat.mul_one] at hl ht ⊢
    rw [List.dropLast_eq_take, hl, ← ht, List.take_take]
    congr 1; omega

theorem one1 {k : IntKind} (x : Int) : ∀ u ∈ [Value.int k x], u.oneCell' = true := by
  intro u hu; simp at hu; subst hu; rfl
theorem onesI {k : IntKind} (xs : List Int) : ∀ u ∈ xs.map (Value.int k), u.oneCell' = true := ints_oneCell k xs


/-! ### literals, strings of bytes -/

theorem IS.lit {k : IntKind} {w : World} {e : TypeId} {g n : Nat} {xs : List Int} {arr : Array Value} (ha : arr = (xs.map (Value.int k)).toArray) (hg : g = w.heap.size) (hn : n = xs.length) (hl : n ≤ 1000000) :
    IS k (w.alloc (.cells arr e)) (.slice (some ⟨g, 0, none⟩) n n) n xs := by
  subst hg
  refine IS.mk hn (Nat.le_refl _) (by unfold maxLen; omega) fun i hi => ?_
  rw [Nat.zero_add, World.cell?_alloc_at (hn := rfl), ha]
  simp only [List.getElem?_toArray, List.getElem?_map]
  rw [gi_some (by omega)]; rfl

theorem VS.lit {w : World} {e : TypeId} {g n : Nat} {xs : List Value} {arr : Array Value} (ha : arr = xs.toArray) (hg : g = w.heap.size) (hn : n = xs.length) (hl : n ≤ 1000000) :
    VS (w.alloc (.cells arr e)) (.slice (some ⟨g, 0, none⟩) n n) n xs := by
  subst hg
  subst hn
  refine ⟨some ⟨w.heap.size, 0, none⟩, rfl, Nat.le_refl _, by unfold maxLen; omega, fun h => (by cases h), fun a ha' => ?_⟩
  obtain rfl := Option.some.inj ha'
  refine ⟨fun _ => rfl, fun j u hj => ?_⟩
  show (w.alloc (.cells arr e)).cell? ⟨w.heap.size, 0 + j, none⟩ = some u
  rw [Nat.zero_add, World.cell?_alloc_at (hn := rfl), ha]
  simpa using hj

theorem ISS.lit1 {k : IntKind} {w : World} {e : TypeId} {g : Nat} {u0 : Value} {r0 : List Int} {c0 : Nat} (hg : g = w.heap.size) (p0 : IS k w u0 c0 r0) :
    ISS k (w.alloc (.cells #[u0] e)) (.slice (some ⟨g, 0, none⟩) 1 1) 1 [r0] := by
  refine ⟨fun _ => u0, fun _ => c0, (VS.lit (xs := [u0]) rfl hg rfl (by decide)), fun i hi => ?_⟩
  have : i = 0 := by simpa using hi
  subst this; exact p0.ext ((Ext.refl w).alloc _)
theorem ISS.lit2 {k : IntKind} {w : World} {e : TypeId} {g : Nat} {u0 u1 : Value} {r0 r1 : List Int} {c0 c1 : Nat} (hg : g = w.heap.size) (p0 : IS k w u0 c0 r0) (p1 : IS k w u1 c1 r1) :
    ISS k (w.alloc (.cells #[u0, u1] e)) (.slice (some ⟨g, 0, none⟩) 2 2) 2 [r0, r1] := by
  refine ⟨fun i => if i = 0 then u0 else u1, fun i => if i = 0 then c0 else c1, (VS.lit (xs := [u0, u1]) rfl hg rfl (by decide)), fun i hi => ?_⟩
  have hi' : i < 2 := by simpa using hi
  by_cases h0 : i = 0
  · subst h0; exact p0.ext ((Ext.refl w).alloc _)
  · obtain rfl : i = 1 := by omega
    exact p1.ext ((Ext.refl w).alloc _)
theorem ISS.lit3 {k : IntKind} {w : World} {e : TypeId} {g : Nat} {u0 u1 u2 : Value} {r0 r1 r2 : List Int} {c0 c1 c2 : Nat} (hg : g = w.heap.size) (p0 : IS k w u0 c0 r0) (p1 : IS k w u1 c1 r1) (p2 : IS k w u2 c2 r2) :
    ISS k (w.alloc (.cells #[u0, u1, u2] e)) (.slice (some ⟨g, 0, none⟩) 3 3) 3 [r0, r1, r2] := by
  refine ⟨fun i => if i = 0 then u0 else if i = 1 then u1 else u2, fun i => if i = 0 then c0 else if i = 1 then c1 else c2, (VS.lit (xs := [u0, u1, u2]) rfl hg rfl (by decide)), fun i hi => ?_⟩
  have hi' : i < 3 := by simpa using hi
  by_cases h0 : i = 0
  · subst h0; exact p0.ext ((Ext.refl w).alloc _)
  · by_cases h1 : i = 1
    · subst h1; exact p1.ext ((Ext.refl w).alloc _)
    · obtain rfl : i = 2 := by omega
      exact p2.ext ((Ext.refl w).alloc _)

/-- The bounds of a list, by its members. -/
theorem bdL {xs : List Int} {P : Int → Prop} (h : ∀ x ∈ xs, P x) : ∀ i, i < xs.length → P (gi xs i) := fun i hi => h _ (gi_mem hi)

/-- The bytes as a string. -/
def bstr (xs : List Int) : ByteArray := xs.foldl (fun r n => r.push (UInt8.ofNat n.toNat)) ByteArray.empty

theorem run_bstr {P : Program} {w : World} {v : Value} {c : Nat} {xs : List Int} (h : IS .u8 w v c xs) {S D e : TypeId}
    (hs : P.underlying S = some (.slice e)) (he : P.underlying e = some (.int .u8)) (hd : P.underlying D = some .string) :
    (convert S D v).run P w = .ok (.string (bstr xs)) w := by
  obtain ⟨h1, h2, ao, rfl, hao⟩ := h.open
  rw [run_convert_bytes_string w S D e _ _ _ hs he hd]
  rcases hao with ⟨_, h0, rfl⟩ | ⟨b, o, rfl, hc⟩
  · obtain rfl : xs = [] := List.eq_nil_of_length_eq_zero h0
    cases ao with
    | none => rfl
    | some a => exact run_bytesToString w _ _ _ [] (by simp [loadCells, loadCellsFrom, Sem.run_pure])
  · refine run_bytesToString w _ _ _ xs ?_
    have := run_firstCells_some (P := P) w 1 xs.length ⟨b, o, none⟩ xs.length c (xs.map (Value.int .u8)) (by simp) (fun j u hj => by
      rw [Addr.add_lit]
      rw [List.getElem?_map] at hj
      by_cases hlt : j < xs.length
      · rw [gi_some hlt] at hj
        obtain rfl := Option.some.inj hj
        exact hc j hlt
      · rw [List.getElem?_eq_none (by omega)] at hj; cases hj)
    simpa [Builtin.firstCells] using this

end Go.Proofs.YtlhkehfplcclgaaDoor
/- More for walks: rows of the call's own, kept and opened. -/
namespace Go.Proofs.YtlhkehfplcclgaaDoor
set_option linter.unusedVariables false
set_option linter.unusedSimpArgs false
open Go Go.RowKit

theorem own_ext {w w' : World} {B : Nat} {e : TypeId} {v : Value} {n : Nat} {xs : List Value} (h : w.ownsRow B e 1 v n xs) (x : Ext w w') : w'.ownsRow B e 1 v n xs := by
  obtain ⟨hl, h⟩ := h
  refine ⟨hl, ?_⟩
  rcases h with h | ⟨g, cap, cur, hv, hb, hg, hr⟩
  · exact .inl h
  · exact .inr ⟨g, cap, cur, hv, hb, x.block hg, hr⟩

/-- A row of the call's own that is not empty, opened. -/
theorem own_open {w : World} {B : Nat} {e : TypeId} {v : Value} {n : Nat} {xs : List Value} (h : w.ownsRow B e 1 v n xs) (hn : 0 < n) :
    ∃ g cap f, v = .slice (some ⟨g, 0, none⟩) n cap ∧ B ≤ g ∧ g < w.heap.size ∧ n ≤ cap ∧ cap ≤ maxLen ∧ w.rowIs g e cap f ∧ ∀ i u, xs[i]? = some u → f i = u := by
  obtain ⟨hl, h⟩ := h
  rcases h with ⟨_, h0⟩ | ⟨g, cap, cur, rfl, hb, hg, hnc, hcm, hcs, ht⟩
  · omega
  · simp only [Nat.mul_one] at hl hcs ht
    have hr : w.rowIs g e cap (fun i => cur.getD i undef) := ⟨cur, hg, hcs, fun i hi => by simp [Array.getD, hcs, hi]⟩
    refine ⟨g, cap, _, rfl, hb, hr.lt, hnc, hcm, hr, fun i u hi => ?_⟩
    have hlt := (List.getElem?_eq_some_iff.1 hi).1
    have hh : i < cur.size := by omega
    rw [← ht, List.getElem?_take, if_pos (by omega), Array.getElem?_toList, Array.getElem?_eq_getElem hh] at hi
    simp only [Option.some.injEq] at hi
    simp [Array.getD, hh, hi]

/-- A row of the call's own. -/
def RetO (e : TypeId) (w0 : World) (xs : List Int) (en : Ending) (w' : World) : Prop := ∃ v, en = .returned v ∧ w'.ownsRow w0.heap.size e 1 v xs.length (xs.map (Value.int .i64)) ∧ Ext w0 w'
/-- Slices of numbers. -/
def RetSS (w0 : World) (rows : List (List Int)) (en : Ending) (w' : World) : Prop := ∃ v c, en = .returned v ∧ ISS .i64 w' v c rows ∧ Ext w0 w'

/-- A store where a slice lay leaves what the numbers read as. -/
theorem IS.setAt {k : IntKind} {w : World} {v : Value} {c : Nat} {xs : List Int} (h : IS k w v c xs) {q : Addr} {a : Option Addr} {m d : Nat} (hq : w.cell? q = some (.slice a m d)) (u : Value) : IS k (w.setCell q u) v c xs := by
  obtain ⟨ao, hv, h1, h2, h3, h4⟩ := h
  refine ⟨ao, hv, h1, h2, h3, fun b hb => ⟨(h4 b hb).1, fun j x hj => ?_⟩⟩
  have hc := (h4 b hb).2 j x hj
  by_cases e : q = ⟨b.block, b.off + j, none⟩
  · exfalso
    rw [← e, hq] at hc
    rw [List.getElem?_map] at hj
    obtain ⟨y, _, rfl⟩ := Option.map_eq_some_iff.1 hj
    simp at hc
  · rw [World.cell?_setCell_other (h := e)]; exact hc
end Go.Proofs.YtlhkehfplcclgaaDoor
/- More for walks: append to the call's own as a step of a region that draws its order; slices of pairs of bytes. -/
namespace Go.Proofs.YtlhkehfplcclgaaDoor
set_option linter.unusedVariables false
set_option linter.unusedSimpArgs false
open Go Go.RowKit

/-- 'append(s, x...)', s the call's own, x any slice: at a step of a region that draws its order. -/
theorem step_app_own {P : Program} {t e : TypeId} {z : Value} {bytes : Nat} (ei : EI P t e z bytes) {w : World} {ops : Array Oper} {o : Oper} {a : Act} {K : Act → World → Prop} {Q : Exit → Act → World → Prop} {E : Prop}
    (hg : o.guard = none) (s x : Operand) (hop : o.op = Op.call { callee := Callee.builtin Builtin.append, args := #[s, x], argTypes := #[t, t] })
    (B : Nat) (v : Value) (n : Nat) (xs : List Value) (hs : a.eval s = v) (hown : w.ownsRow B e 1 v n xs)
    (y : Value) (c : Nat) (ys : List Value) (hx : a.eval x = y) (hy : VS w y c ys) (h1 : ∀ u ∈ ys, u.oneCell' = true)
    (hbytes : (n + ys.length) * bytes ≤ 140737488355328) (hlen : n + ys.length ≤ 140737488355328) (hB : B ≤ w.heap.size)
    (hK : ∀ v' w', w'.ownsRow B e 1 v' (n + ys.length) (xs ++ ys) → Below B w w' → K (a.put o.dst v') w') :
    if Region.wanted o (yielded ops a.tmps) = true then Oper.wp P o a w K Q else E := by
  have hw : Region.wanted o (yielded ops a.tmps) = true := by simp [Region.wanted, hg]
  rw [if_pos hw]
  obtain ⟨i, hi, hz0, hz1, hz2⟩ := info_parts ei.info
  obtain ⟨ao, rfl, hl, hm, hno, hc⟩ := hy
  have hzs : z.cells.size = 1 := by rw [ei.cell]; rfl
  cases ao with
  | none =>
    have := hno rfl
    obtain rfl : ys = [] := List.eq_nil_of_length_eq_zero (by omega)
    subst this
    have hrun := run_append_owned_none (P := P) (w := w) B t o.type e i 1 ei.und hi _ n xs hown
    unfold Oper.wp
    simp [execOp, hop, resolve, invoke, builtin, hs, hx, hrun, Result.andThen]
    exact hK _ w (by simpa using hown) (Below.refl _ _)
  | some ad =>
    obtain ⟨v', w', hrun, r1, r2, _⟩ := run_append_own (P := P) w B t o.type e i z 1 bytes ei.und hi hz0 hz1 hz2 hzs (by decide) v n xs hown ad ys.length c ys (by simp) (VS.cells hl hc ad rfl) h1 (by unfold maxLen; omega) hbytes hB
    unfold Oper.wp
    simp [execOp, hop, resolve, invoke, builtin, hs, hx, hrun, Result.andThen]
    exact hK _ w' r1 (below_of_grown hown hB r2)

/-- .. with all that is known of the new world. -/
theorem step_app_grown {P : Program} {t e : TypeId} {z : Value} {bytes : Nat} (ei : EI P t e z bytes) {w : World} {ops : Array Oper} {o : Oper} {a : Act} {K : Act → World → Prop} {Q : Exit → Act → World → Prop} {E : Prop}
    (hg : o.guard = none) (s x : Operand) (hop : o.op = Op.call { callee := Callee.builtin Builtin.append, args := #[s, x], argTypes := #[t, t] })
    (B : Nat) (v : Value) (n : Nat) (xs : List Value) (hs : a.eval s = v) (hown : w.ownsRow B e 1 v n xs)
    (y : Value) (c : Nat) (ys : List Value) (hx : a.eval x = y) (hy : VS w y c ys) (h1 : ∀ u ∈ ys, u.oneCell' = true)
    (hbytes : (n + ys.length) * bytes ≤ 140737488355328) (hlen : n + ys.length ≤ 140737488355328) (hB : B ≤ w.heap.size)
    (hK : ∀ v' w', w'.ownsRow B e 1 v' (n + ys.length) (xs ++ ys) → w.grownBy w' v.ownBlock → K (a.put o.dst v') w') :
    if Region.wanted o (yielded ops a.tmps) = true then Oper.wp P o a w K Q else E := by
  have hw : Region.wanted o (yielded ops a.tmps) = true := by simp [Region.wanted, hg]
  rw [if_pos hw]
  obtain ⟨i, hi, hz0, hz1, hz2⟩ := info_parts ei.info
  obtain ⟨ao, rfl, hl, hm, hno, hc⟩ := hy
  have hzs : z.cells.size = 1 := by rw [ei.cell]; rfl
  cases ao with
  | none =>
    have := hno rfl
    obtain rfl : ys = [] := List.eq_nil_of_length_eq_zero (by omega)
    subst this
    have hrun := run_append_owned_none (P := P) (w := w) B t o.type e i 1 ei.und hi _ n xs hown
    unfold Oper.wp
    simp [execOp, hop, resolve, invoke, builtin, hs, hx, hrun, Result.andThen]
    exact hK _ w (by simpa using hown) (World.grownBy.refl _ _)
  | some ad =>
    obtain ⟨v', w', hrun, r1, r2, _⟩ := run_append_own (P := P) w B t o.type e i z 1 bytes ei.und hi hz0 hz1 hz2 hzs (by decide) v n xs hown ad ys.length c ys (by simp) (VS.cells hl hc ad rfl) h1 (by unfold maxLen; omega) hbytes hB
    unfold Oper.wp
    simp [execOp, hop, resolve, invoke, builtin, hs, hx, hrun, Result.andThen]
    exact hK _ w' r1 r2

/-- An empty slice of the call's own. -/
theorem own0 {w : World} {B g : Nat} {e : TypeId} (hb : w.heap[g]? = some (.cells #[] e (0, 0))) (hB : B ≤ g) : w.ownsRow B e 1 (.slice (some ⟨g, 0, none⟩) 0 0) 0 [] :=
  ⟨rfl, .inr ⟨g, 0, #[], rfl, hB, hb, Nat.le_refl _, by unfold maxLen; omega, rfl, rfl⟩⟩
theorem blk_at {w : World} {o : Obj} {g : Nat} (h : g = w.heap.size) : (w.alloc o).heap[g]? = some o := by rw [h]; exact Deep.blk_alloc_new _ _
theorem blk_old {w : World} {o o' : Obj} {g : Nat} (h : w.heap[g]? = some o) : (w.alloc o').heap[g]? = some o := ((Ext.refl w).alloc o').block h
theorem blk_drew {w : World} {o : Obj} {g : Nat} (h : w.heap[g]? = some o) : w.drew.heap[g]? = some o := h
theorem blk_drewN {w : World} {o : Obj} {g n : Nat} (h : w.heap[g]? = some o) : (w.drewN n).heap[g]? = some o := h
/-- A world with some blocks more. -/
theorem Ext.of_push {w W : World} (os : Array Obj) (h1 : W.os = w.os) (h2 : W.tape = w.tape) (h3 : W.output = w.output) (h4 : W.heap = w.heap ++ os) : Ext w W :=
  ⟨h1, h2, h3, by rw [h4]; simp, fun j hj => by rw [h4, Array.getElem?_append_left hj]⟩
/-- Two numbers in a block of the call's own. -/
theorem two_is {w : World} {g : Nat} {e : TypeId} {x y : Int} (hb : w.heap[g]? = some (.cells #[.int .i64 x, .int .i64 y] e (0, 0))) : IS .i64 w (.slice (some ⟨g, 0, none⟩) 2 2) 2 [x, y] :=
  IS.mk rfl (Nat.le_refl _) (by unfold maxLen; omega) fun i hi => by
    rw [Nat.zero_add]
    have : i = 0 ∨ i = 1 := by omega
    rcases this with rfl | rfl <;> simp [World.cell?, hb, gi]

theorem IS.upto {k : IntKind} {w : World} {a : Option Addr} {n c c' : Nat} {xs : List Int} (h : IS k w (.slice a n c) c' xs) {m : Nat} (hm : m ≤ n) : IS k w (.slice a m c) c' (xs.take m) := by
  obtain ⟨rfl, rfl, hc⟩ := h.len
  obtain ⟨ao, hv, h1, h2, h3, h4⟩ := h
  simp only [Value.slice.injEq] at hv
  obtain ⟨rfl, _, _⟩ := hv
  refine ⟨a, by simp [Nat.min_eq_left hm], by simp; omega, h2, h3, fun b hb => ⟨(h4 b hb).1, fun j u hj => (h4 b hb).2 j u ?_⟩⟩
  rw [List.map_take, List.getElem?_take] at hj
  split at hj
  · exact hj
  · cases hj

theorem IS.empty {k : IntKind} {w : World} (a : Option Addr) : IS k w (.slice a 0 0) 0 [] :=
  ⟨a, rfl, Nat.le_refl _, by unfold maxLen; omega, fun _ => rfl, fun b hb => ⟨fun h => absurd h (by omega), fun j u hj => by simp at hj⟩⟩
/-- The part of a slice from i on. -/
theorem IS.from {k : IntKind} {w : World} {a : Option Addr} {n c c' : Nat} {xs : List Int} (h : IS k w (.slice a n c) c' xs) (i : Nat) (hi : i ≤ n) :
    (∃ b o, a = some ⟨b, o, none⟩ ∧ IS k w (.slice (if c = i then some ⟨b, o, none⟩ else some ⟨b, o + i, none⟩) (n - i) (c - i)) (c - i) (xs.drop i)) ∨ (c = 0 ∧ n = 0 ∧ i = 0 ∧ xs = []) := by
  obtain ⟨h1, h2, ao, hv, hao⟩ := h.open
  simp only [Value.slice.injEq] at hv
  obtain ⟨rfl, rfl, rfl⟩ := hv
  rcases hao with ⟨_, h0, h9⟩ | ⟨b, o, rfl, hc⟩
  · exact .inr ⟨h9, h0, by omega, List.eq_nil_of_length_eq_zero h0⟩
  · refine .inl ⟨b, o, rfl, ?_⟩
    split
    · exact IS.mk (by simp) (by omega) (by omega) fun j hj => by omega
    · exact IS.mk (by simp) (by omega) (by omega) fun j hj => by rw [gi_drop, Nat.add_assoc]; exact hc (i + j) (by omega)

/-- 'append(s, x...)' within the capacity, with all that is known of the new world. -/
theorem app_fits_g {P : Program} {t e : TypeId} {z : Value} {bytes : Nat} (ei : EI P t e z bytes) {w : World} {ops : Array Oper} {rest : List Oper} {o : Oper} {a : Act} {Q : Exit → Act → World → Prop}
    (hg : o.guard = none) (s x : Operand) (hop : o.op = Op.call { callee := Callee.builtin Builtin.append, args := #[s, x], argTypes := #[t, t] })
    (B g n cap : Nat) (xs : List Value) (hs : a.eval s = .slice (some ⟨g, 0, none⟩) n cap) (hown : w.ownsRow B e 1 (.slice (some ⟨g, 0, none⟩) n cap) n xs)
    (y : Value) (c : Nat) (ys : List Value) (hx : a.eval x = y) (hy : VS w y c ys) (h1 : ∀ u ∈ ys, u.oneCell' = true) (hfit : n + ys.length ≤ cap)
    (hK : ∀ w', w'.ownsRow B e 1 (.slice (some ⟨g, 0, none⟩) (n + ys.length) cap) (n + ys.length) (xs ++ ys) → w.grownBy w' (some g) → wpList P ops Q rest (a.put o.dst (.slice (some ⟨g, 0, none⟩) (n + ys.length) cap)) w') :
    wpList P ops Q (o :: rest) a w := by
  obtain ⟨i, hi, hz0, hz1, hz2⟩ := info_parts ei.info
  obtain ⟨ao, rfl, hl, hm, hno, hc⟩ := hy
  refine wpList_append_fits_any w hg s x t hop B e i 1 ei.und hi hz1 g n cap xs hs hown ao ys.length c ys hx (by simp) (fun h => ?_) (VS.cells hl hc) h1 hfit ?_
  · have := hno h; omega
  · intro w' h2 h3
    exact hK w' h2 h3

theorem own_of_row {w : World} {g m n : Nat} {e : TypeId} {f : Nat → Value} (h : w.rowIs g e n f) (hm : m ≤ n) (hn : n ≤ maxLen) : w.ownsRow g e 1 (.slice (some ⟨g, 0, none⟩) m n) m ((List.range m).map f) := by
  obtain ⟨cur, h1, h2, h3⟩ := h
  refine ⟨by simp, .inr ⟨g, n, cur, rfl, Nat.le_refl _, h1, hm, hn, by omega, ?_⟩⟩
  apply List.ext_getElem?
  intro i
  simp only [Nat.mul_one]
  by_cases hi : i < m
  · rw [List.getElem?_take, if_pos hi, Array.getElem?_toList, h3 i (by omega)]; simp [hi]
  · rw [List.getElem?_eq_none (by simp; omega), List.getElem?_eq_none (by simp; omega)]

/-- A slice of pairs of bytes: nothing, or an address and the cells. -/
def PS (w : World) (v : Value) (c : Nat) (ms : List (Int × Int)) : Prop :=
  ∃ ao : Option Addr, v = .slice ao ms.length c ∧ ms.length ≤ c ∧ c ≤ maxLen ∧ (ms = [] ∨ ∃ b o, ao = some ⟨b, o, none⟩ ∧
    ∀ i, i < ms.length → w.cell? ⟨b, o + i * 2, none⟩ = some (.int .u8 (ms.getD i (0, 0)).1) ∧ w.cell? ⟨b, o + i * 2 + 1, none⟩ = some (.int .u8 (ms.getD i (0, 0)).2))
theorem PS.ext {w w' : World} {v : Value} {c : Nat} {ms : List (Int × Int)} (h : PS w v c ms) (e : Ext w w') : PS w' v c ms := by
  obtain ⟨ao, h1, h2, h3, h4⟩ := h
  refine ⟨ao, h1, h2, h3, ?_⟩
  rcases h4 with h4 | ⟨b, o, h5, h6⟩
  · exact .inl h4
  · exact .inr ⟨b, o, h5, fun i hi => ⟨e.cell (h6 i hi).1, e.cell (h6 i hi).2⟩⟩
def pi (ms : List (Int × Int)) (i : Nat) : Int × Int := ms.getD i (0, 0)
theorem pi_take {ms : List (Int × Int)} {k : Nat} (h : k < ms.length) : ms.take (k + 1) = ms.take k ++ [pi ms k] := by
  rw [List.take_succ_eq_append_getElem h]; unfold pi; simp [List.getD, h]
theorem PS.open {w : World} {v : Value} {c : Nat} {ms : List (Int × Int)} (h : PS w v c ms) : ∃ ao n, v = .slice ao n c ∧ n = ms.length ∧ n ≤ c ∧ c ≤ maxLen ∧ ∀ i, i < n → ∃ b o, ao = some ⟨b, o, none⟩ ∧ w.cell? ⟨b, o + i * 2, none⟩ = some (.int .u8 (pi ms i).1) ∧ w.cell? ⟨b, o + i * 2 + 1, none⟩ = some (.int .u8 (pi ms i).2) := by
  obtain ⟨ao, h1, h2, h3, h4⟩ := h
  refine ⟨ao, _, h1, rfl, h2, h3, fun i hi => ?_⟩
  rcases h4 with h4 | ⟨b, o, h5, h6⟩
  · rw [h4] at hi; simp at hi
  · exact ⟨b, o, h5, h6 i hi⟩
end Go.Proofs.YtlhkehfplcclgaaDoor
