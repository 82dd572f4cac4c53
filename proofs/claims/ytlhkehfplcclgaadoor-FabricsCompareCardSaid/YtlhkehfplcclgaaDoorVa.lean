/- Names, passes, loops, tables, crossings, fabrics: as plain data, and in memory. -/
import Derived.Test.YtlhkehfplcclgaaDoorChecked
import Derived.Test.YtlhkehfplcclgaaDoorLibb
import Derived.Test.YtlhkehfplcclgaaDoorLibe
namespace Go.Proofs.YtlhkehfplcclgaaDoor
set_option linter.unusedVariables false
set_option linter.unusedSimpArgs false
open Go Go.RowKit

/-- A name of a loop: its yarn, its number. -/
structure Nm where
  y : Int
  n : Int
deriving DecidableEq
structure Ps where
  id : Nm
  f : Bool
  d : Int
deriving DecidableEq
structure Lp where
  bed : Int
  new : Bool
  thr : List Nm
  past : List Ps
deriving DecidableEq
abbrev Tab := List (List Lp)
structure Xg where
  a : Nm
  b : Nm
  n : Int
deriving DecidableEq
structure Fab where
  ys : Tab
  cr : List Xg
  held : List Nm
  fallen : List Nm
deriving DecidableEq

namespace Nm
def zero : Nm := ⟨0, 0⟩
def cs (a : Nm) : List Value := [.int .u8 a.y, .int .i64 a.n]
def val (a : Nm) : Value := .agg #[.int .u8 a.y, .int .i64 a.n]
/-- The bounds of a name's numbers. -/
def In (a : Nm) : Prop := (0 ≤ a.y ∧ a.y ≤ 255) ∧ -9223372036854775808 ≤ a.n ∧ a.n ≤ 9223372036854775807
end Nm
namespace Ps
def zero : Ps := ⟨Nm.zero, false, 0⟩
def cs (p : Ps) : List Value := [.int .u8 p.id.y, .int .i64 p.id.n, .bool p.f, .int .u8 p.d]
def val (p : Ps) : Value := .agg #[.int .u8 p.id.y, .int .i64 p.id.n, .bool p.f, .int .u8 p.d]
def In (p : Ps) : Prop := p.id.In ∧ 0 ≤ p.d ∧ p.d ≤ 255
end Ps
namespace Xg
def zero : Xg := ⟨Nm.zero, Nm.zero, 0⟩
def cs (c : Xg) : List Value := [.int .u8 c.a.y, .int .i64 c.a.n, .int .u8 c.b.y, .int .i64 c.b.n, .int .i64 c.n]
def val (c : Xg) : Value := .agg #[.int .u8 c.a.y, .int .i64 c.a.n, .int .u8 c.b.y, .int .i64 c.b.n, .int .i64 c.n]
def In (c : Xg) : Prop := c.a.In ∧ c.b.In ∧ -9223372036854775808 ≤ c.n ∧ c.n ≤ 9223372036854775807
end Xg
def Lp.zero : Lp := ⟨0, false, [], []⟩
def Lp.In (l : Lp) : Prop := (0 ≤ l.bed ∧ l.bed ≤ 255) ∧ (∀ a ∈ l.thr, a.In) ∧ ∀ p ∈ l.past, p.In

def ni (l : List Nm) (i : Nat) : Nm := l.getD i Nm.zero
def qi (l : List Ps) (i : Nat) : Ps := l.getD i Ps.zero
def xi (l : List Xg) (i : Nat) : Xg := l.getD i Xg.zero
def li (l : List Lp) (i : Nat) : Lp := l.getD i Lp.zero
def yi (t : Tab) (i : Nat) : List Lp := t.getD i []
theorem ni_of {l : List Nm} {i : Nat} (h : i < l.length) : ni l i = l[i] := by unfold ni; simp [List.getD, h]
theorem qi_of {l : List Ps} {i : Nat} (h : i < l.length) : qi l i = l[i] := by unfold qi; simp [List.getD, h]
theorem xi_of {l : List Xg} {i : Nat} (h : i < l.length) : xi l i = l[i] := by unfold xi; simp [List.getD, h]
theorem li_of {l : List Lp} {i : Nat} (h : i < l.length) : li l i = l[i] := by unfold li; simp [List.getD, h]
theorem yi_of {l : Tab} {i : Nat} (h : i < l.length) : yi l i = l[i] := by unfold yi; simp [List.getD, h]
theorem ni_mem {l : List Nm} {i : Nat} (h : i < l.length) : ni l i ∈ l := by rw [ni_of h]; exact List.getElem_mem h
theorem qi_mem {l : List Ps} {i : Nat} (h : i < l.length) : qi l i ∈ l := by rw [qi_of h]; exact List.getElem_mem h
theorem xi_mem {l : List Xg} {i : Nat} (h : i < l.length) : xi l i ∈ l := by rw [xi_of h]; exact List.getElem_mem h
theorem li_mem {l : List Lp} {i : Nat} (h : i < l.length) : li l i ∈ l := by rw [li_of h]; exact List.getElem_mem h
theorem yi_mem {l : Tab} {i : Nat} (h : i < l.length) : yi l i ∈ l := by rw [yi_of h]; exact List.getElem_mem h
theorem yi_end {l : Tab} {i : Nat} (h : l.length ≤ i) : yi l i = [] := by unfold yi; simp [List.getD, List.getElem?_eq_none h]

/-! ### In memory -/
/-- The cells l stand in block b from o on. -/
def AtC (w : World) (b o : Nat) (l : List Value) : Prop := ∀ j, j < l.length → w.cell? ⟨b, o + j, none⟩ = some (l.getD j undef)
theorem AtC.ext {w w' : World} {b o : Nat} {l : List Value} (h : AtC w b o l) (x : Ext w w') : AtC w' b o l := fun j hj => x.cell (h j hj)
/-- The slice v, of capacity c, of structs of k cells: the cells of each. -/
def CK (k : Nat) (w : World) (v : Value) (c : Nat) (xs : List (List Value)) : Prop :=
  ∃ ao : Option Addr, v = .slice ao xs.length c ∧ xs.length ≤ c ∧ c ≤ 9223372036854775807 ∧ (c = 0 ∨ ∃ b o, ao = some ⟨b, o, none⟩ ∧ ∀ i, i < xs.length → AtC w b (o + i * k) (xs.getD i []))
theorem CK.ext {k : Nat} {w w' : World} {v : Value} {c : Nat} {xs : List (List Value)} (h : CK k w v c xs) (x : Ext w w') : CK k w' v c xs := by
  obtain ⟨ao, h1, h2, h3, h4⟩ := h
  refine ⟨ao, h1, h2, h3, ?_⟩
  rcases h4 with h4 | ⟨b, o, h5, h6⟩
  · exact .inl h4
  · exact .inr ⟨b, o, h5, fun i hi => (h6 i hi).ext x⟩
theorem CK.nil (k : Nat) (w : World) : CK k w (.slice none 0 0) 0 [] := ⟨none, rfl, Nat.le_refl _, by omega, .inl rfl⟩
/-- Names, passes, crossings. -/
def NL (w : World) (v : Value) (c : Nat) (l : List Nm) : Prop := CK 2 w v c (l.map Nm.cs)
def PL (w : World) (v : Value) (c : Nat) (l : List Ps) : Prop := CK 4 w v c (l.map Ps.cs)
def XL (w : World) (v : Value) (c : Nat) (l : List Xg) : Prop := CK 5 w v c (l.map Xg.cs)
theorem NL.ext {w w' : World} {v : Value} {c : Nat} {l : List Nm} (h : NL w v c l) (x : Ext w w') : NL w' v c l := CK.ext h x
theorem PL.ext {w w' : World} {v : Value} {c : Nat} {l : List Ps} (h : PL w v c l) (x : Ext w w') : PL w' v c l := CK.ext h x
theorem XL.ext {w w' : World} {v : Value} {c : Nat} {l : List Xg} (h : XL w v c l) (x : Ext w w') : XL w' v c l := CK.ext h x
theorem NL.nil (w : World) : NL w (.slice none 0 0) 0 [] := CK.nil _ _
theorem PL.nil (w : World) : PL w (.slice none 0 0) 0 [] := CK.nil _ _
theorem XL.nil (w : World) : XL w (.slice none 0 0) 0 [] := CK.nil _ _
theorem CK.op {k : Nat} {w : World} {v : Value} {c : Nat} {xs : List (List Value)} (h : CK k w v c xs) :
    ∃ ao, v = .slice ao xs.length c ∧ xs.length ≤ c ∧ c ≤ 9223372036854775807 ∧ ∀ i, i < xs.length → ∃ b o, ao = some ⟨b, o, none⟩ ∧ AtC w b (o + i * k) (xs.getD i []) := by
  obtain ⟨ao, h1, h2, h3, h4⟩ := h
  refine ⟨ao, h1, h2, h3, fun i hi => ?_⟩
  rcases h4 with h4 | ⟨b, o, h5, h6⟩
  · omega
  · exact ⟨b, o, h5, h6 i hi⟩
theorem getD_map {α : Type} (f : α → List Value) {l : List α} {i : Nat} (z : α) (h : i < l.length) : (l.map f).getD i [] = f (l.getD i z) := by simp [List.getD, h]
/-- The two cells of a name. -/
def At2 (w : World) (b o : Nat) (a : Nm) : Prop := w.cell? ⟨b, o, none⟩ = some (.int .u8 a.y) ∧ w.cell? ⟨b, o + 1, none⟩ = some (.int .i64 a.n)
def At4 (w : World) (b o : Nat) (p : Ps) : Prop := w.cell? ⟨b, o, none⟩ = some (.int .u8 p.id.y) ∧ w.cell? ⟨b, o + 1, none⟩ = some (.int .i64 p.id.n) ∧ w.cell? ⟨b, o + 2, none⟩ = some (.bool p.f) ∧ w.cell? ⟨b, o + 3, none⟩ = some (.int .u8 p.d)
def At5 (w : World) (b o : Nat) (c : Xg) : Prop := w.cell? ⟨b, o, none⟩ = some (.int .u8 c.a.y) ∧ w.cell? ⟨b, o + 1, none⟩ = some (.int .i64 c.a.n) ∧ w.cell? ⟨b, o + 2, none⟩ = some (.int .u8 c.b.y) ∧ w.cell? ⟨b, o + 3, none⟩ = some (.int .i64 c.b.n) ∧ w.cell? ⟨b, o + 4, none⟩ = some (.int .i64 c.n)
theorem At2.ext {w w' : World} {b o : Nat} {a : Nm} (h : At2 w b o a) (x : Ext w w') : At2 w' b o a := ⟨x.cell h.1, x.cell h.2⟩
theorem At4.ext {w w' : World} {b o : Nat} {a : Ps} (h : At4 w b o a) (x : Ext w w') : At4 w' b o a := ⟨x.cell h.1, x.cell h.2.1, x.cell h.2.2.1, x.cell h.2.2.2⟩
theorem At5.ext {w w' : World} {b o : Nat} {a : Xg} (h : At5 w b o a) (x : Ext w w') : At5 w' b o a := ⟨x.cell h.1, x.cell h.2.1, x.cell h.2.2.1, x.cell h.2.2.2.1, x.cell h.2.2.2.2⟩
theorem NL.open {w : World} {v : Value} {c : Nat} {l : List Nm} (h : NL w v c l) : ∃ ao n, v = .slice ao n c ∧ n = l.length ∧ n ≤ c ∧ c ≤ 9223372036854775807 ∧ ∀ i, i < n → ∃ b o, ao = some ⟨b, o, none⟩ ∧ At2 w b (o + i * 2) (ni l i) := by
  obtain ⟨ao, h1, h2, h3, h4⟩ := CK.op h
  rw [List.length_map] at h1 h2 h4
  refine ⟨ao, _, h1, rfl, h2, h3, fun i hi => ?_⟩
  obtain ⟨b, o, h5, h6⟩ := h4 i hi
  rw [getD_map Nm.cs Nm.zero hi] at h6
  exact ⟨b, o, h5, h6 0 (by simp [Nm.cs]), h6 1 (by simp [Nm.cs])⟩
theorem PL.open {w : World} {v : Value} {c : Nat} {l : List Ps} (h : PL w v c l) : ∃ ao n, v = .slice ao n c ∧ n = l.length ∧ n ≤ c ∧ c ≤ 9223372036854775807 ∧ ∀ i, i < n → ∃ b o, ao = some ⟨b, o, none⟩ ∧ At4 w b (o + i * 4) (qi l i) := by
  obtain ⟨ao, h1, h2, h3, h4⟩ := CK.op h
  rw [List.length_map] at h1 h2 h4
  refine ⟨ao, _, h1, rfl, h2, h3, fun i hi => ?_⟩
  obtain ⟨b, o, h5, h6⟩ := h4 i hi
  rw [getD_map Ps.cs Ps.zero hi] at h6
  exact ⟨b, o, h5, h6 0 (by simp [Ps.cs]), h6 1 (by simp [Ps.cs]), h6 2 (by simp [Ps.cs]), h6 3 (by simp [Ps.cs])⟩
theorem XL.open {w : World} {v : Value} {c : Nat} {l : List Xg} (h : XL w v c l) : ∃ ao n, v = .slice ao n c ∧ n = l.length ∧ n ≤ c ∧ c ≤ 9223372036854775807 ∧ ∀ i, i < n → ∃ b o, ao = some ⟨b, o, none⟩ ∧ At5 w b (o + i * 5) (xi l i) := by
  obtain ⟨ao, h1, h2, h3, h4⟩ := CK.op h
  rw [List.length_map] at h1 h2 h4
  refine ⟨ao, _, h1, rfl, h2, h3, fun i hi => ?_⟩
  obtain ⟨b, o, h5, h6⟩ := h4 i hi
  rw [getD_map Xg.cs Xg.zero hi] at h6
  exact ⟨b, o, h5, h6 0 (by simp [Xg.cs]), h6 1 (by simp [Xg.cs]), h6 2 (by simp [Xg.cs]), h6 3 (by simp [Xg.cs]), h6 4 (by simp [Xg.cs])⟩
/-- A row of loops: us, vs are the slices of names and of passes. -/
def LR (w : World) (v : Value) (c : Nat) (ls : List Lp) : Prop :=
  ∃ us vs : Nat → Value, CK 4 w v c ((List.range ls.length).map fun i => [.int .u8 (li ls i).bed, .bool (li ls i).new, us i, vs i]) ∧
    ∀ i, i < ls.length → (∃ d, NL w (us i) d (li ls i).thr) ∧ ∃ d, PL w (vs i) d (li ls i).past
theorem LR.ext {w w' : World} {v : Value} {c : Nat} {l : List Lp} (h : LR w v c l) (x : Ext w w') : LR w' v c l := by
  obtain ⟨us, vs, h1, h2⟩ := h
  refine ⟨us, vs, h1.ext x, fun i hi => ?_⟩
  obtain ⟨⟨d, h3⟩, e, h4⟩ := h2 i hi
  exact ⟨⟨d, h3.ext x⟩, e, h4.ext x⟩
theorem LR.nil (w : World) : LR w (.slice none 0 0) 0 [] := ⟨fun _ => undef, fun _ => undef, CK.nil _ _, fun i hi => by simp at hi⟩
/-- The four cells of a loop. -/
def AtL (w : World) (b o : Nat) (l : Lp) (u v : Value) : Prop := w.cell? ⟨b, o, none⟩ = some (.int .u8 l.bed) ∧ w.cell? ⟨b, o + 1, none⟩ = some (.bool l.new) ∧ w.cell? ⟨b, o + 2, none⟩ = some u ∧ w.cell? ⟨b, o + 3, none⟩ = some v
theorem AtL.ext {w w' : World} {b o : Nat} {l : Lp} {u v : Value} (h : AtL w b o l u v) (x : Ext w w') : AtL w' b o l u v := ⟨x.cell h.1, x.cell h.2.1, x.cell h.2.2.1, x.cell h.2.2.2⟩
theorem LR.open {w : World} {v : Value} {c : Nat} {l : List Lp} (h : LR w v c l) : ∃ ao n, v = .slice ao n c ∧ n = l.length ∧ n ≤ c ∧ c ≤ 9223372036854775807 ∧
    ∀ i, i < n → ∃ b o a1 n1 d1 a2 n2 d2, ao = some ⟨b, o, none⟩ ∧ AtL w b (o + i * 4) (li l i) (.slice a1 n1 d1) (.slice a2 n2 d2) ∧ n1 = (li l i).thr.length ∧ n2 = (li l i).past.length ∧ NL w (.slice a1 n1 d1) d1 (li l i).thr ∧ PL w (.slice a2 n2 d2) d2 (li l i).past := by
  obtain ⟨us, vs, h1, h2⟩ := h
  obtain ⟨ao, h3, h4, h5, h6⟩ := h1.op
  rw [List.length_map, List.length_range] at h3 h4 h6
  refine ⟨ao, _, h3, rfl, h4, h5, fun i hi => ?_⟩
  obtain ⟨b, o, h7, h8⟩ := h6 i hi
  obtain ⟨⟨d, h9⟩, e, h10⟩ := h2 i hi
  have hg : ((List.range l.length).map fun i => [Value.int .u8 (li l i).bed, Value.bool (li l i).new, us i, vs i]).getD i [] = [.int .u8 (li l i).bed, .bool (li l i).new, us i, vs i] := by
    simp [List.getD, hi]
  rw [hg] at h8
  obtain ⟨a1, n1, e1, e2, _⟩ := h9.open
  obtain ⟨a2, n2, e3, e4, _⟩ := h10.open
  have k9 := h9; have k10 := h10
  rw [e1] at k9; rw [e3] at k10
  refine ⟨b, o, a1, n1, d, a2, n2, e, h7, ⟨h8 0 (by simp), h8 1 (by simp), ?_, ?_⟩, e2, e4, k9, k10⟩
  · have := h8 2 (by simp); rw [← e1]; exact this
  · have := h8 3 (by simp); rw [← e3]; exact this
/-- A table. -/
def TB (w : World) (v : Value) (c : Nat) (t : Tab) : Prop :=
  ∃ vs : Nat → Value, CK 1 w v c ((List.range t.length).map fun i => [vs i]) ∧ ∀ i, i < t.length → ∃ d, LR w (vs i) d (yi t i)
theorem TB.ext {w w' : World} {v : Value} {c : Nat} {t : Tab} (h : TB w v c t) (x : Ext w w') : TB w' v c t := by
  obtain ⟨vs, h1, h2⟩ := h
  refine ⟨vs, h1.ext x, fun i hi => ?_⟩
  obtain ⟨d, h3⟩ := h2 i hi
  exact ⟨d, h3.ext x⟩
theorem TB.open {w : World} {v : Value} {c : Nat} {t : Tab} (h : TB w v c t) : ∃ ao n, v = .slice ao n c ∧ n = t.length ∧ n ≤ c ∧ c ≤ 9223372036854775807 ∧
    ∀ i, i < n → ∃ b o a m d, ao = some ⟨b, o, none⟩ ∧ w.cell? ⟨b, o + i, none⟩ = some (.slice a m d) ∧ m = (yi t i).length ∧ LR w (.slice a m d) d (yi t i) := by
  obtain ⟨vs, h1, h2⟩ := h
  obtain ⟨ao, h3, h4, h5, h6⟩ := h1.op
  rw [List.length_map, List.length_range] at h3 h4 h6
  refine ⟨ao, _, h3, rfl, h4, h5, fun i hi => ?_⟩
  obtain ⟨b, o, h7, h8⟩ := h6 i hi
  obtain ⟨d, h9⟩ := h2 i hi
  have hg : ((List.range t.length).map fun i => [vs i]).getD i [] = [vs i] := by simp [List.getD, hi]
  rw [hg, Nat.mul_one] at h8
  obtain ⟨a, m, e1, e2, _⟩ := h9.open
  have k9 := h9
  rw [e1] at k9
  refine ⟨b, o, a, m, d, h7, ?_, e2, k9⟩
  have := h8 0 (by simp); rw [← e1]; exact this
/-- A fabric's four slices. -/
structure FB (w : World) (tv cv hv fv : Value) (f : Fab) : Prop where
  t : ∃ c, TB w tv c f.ys
  c : ∃ c, XL w cv c f.cr
  h : ∃ c, NL w hv c f.held
  f : ∃ c, NL w fv c f.fallen
theorem FB.ext {w w' : World} {tv cv hv fv : Value} {f : Fab} (h : FB w tv cv hv fv f) (x : Ext w w') : FB w' tv cv hv fv f := by
  obtain ⟨⟨c1, h1⟩, ⟨c2, h2⟩, ⟨c3, h3⟩, c4, h4⟩ := h
  exact ⟨⟨c1, h1.ext x⟩, ⟨c2, h2.ext x⟩, ⟨c3, h3.ext x⟩, c4, h4.ext x⟩
/-- A block of four cells. -/
def B4 (w : World) (b : Nat) (x y z u : Value) (t : TypeId) : Prop := w.heap[b]? = some (.cells #[x, y, z, u] t (0, 0))
theorem B4.c0 {w : World} {b : Nat} {x y z u : Value} {t : TypeId} (h : B4 w b x y z u t) : w.cell? ⟨b, 0, none⟩ = some x := by unfold B4 at h; simp [World.cell?, h]
theorem B4.c1 {w : World} {b : Nat} {x y z u : Value} {t : TypeId} (h : B4 w b x y z u t) : w.cell? ⟨b, 1, none⟩ = some y := by unfold B4 at h; simp [World.cell?, h]
theorem B4.c2 {w : World} {b : Nat} {x y z u : Value} {t : TypeId} (h : B4 w b x y z u t) : w.cell? ⟨b, 2, none⟩ = some z := by unfold B4 at h; simp [World.cell?, h]
theorem B4.c3 {w : World} {b : Nat} {x y z u : Value} {t : TypeId} (h : B4 w b x y z u t) : w.cell? ⟨b, 3, none⟩ = some u := by unfold B4 at h; simp [World.cell?, h]
theorem B4.ext {w w' : World} {b : Nat} {x y z u : Value} {t : TypeId} (h : B4 w b x y z u t) (e : Ext w w') : B4 w' b x y z u t := Ext.block e h
theorem B4.new (w : World) (x y z u : Value) (t : TypeId) : B4 (w.alloc (.cells #[x, y, z, u] t)) w.heap.size x y z u t := Deep.blk_alloc_new _ _
/-- .. of five. -/
def B5 (w : World) (b : Nat) (c : Xg) (t : TypeId) : Prop := w.heap[b]? = some (.cells #[.int .u8 c.a.y, .int .i64 c.a.n, .int .u8 c.b.y, .int .i64 c.b.n, .int .i64 c.n] t (0, 0))
theorem B5.at {w : World} {b : Nat} {c : Xg} {t : TypeId} (h : B5 w b c t) : At5 w b 0 c := by
  unfold B5 at h; refine ⟨?_, ?_, ?_, ?_, ?_⟩ <;> simp [World.cell?, h]
theorem B5.ext {w w' : World} {b : Nat} {c : Xg} {t : TypeId} (h : B5 w b c t) (e : Ext w w') : B5 w' b c t := Ext.block e h
theorem B5.new (w : World) (c : Xg) (t : TypeId) : B5 (w.alloc (.cells #[.int .u8 c.a.y, .int .i64 c.a.n, .int .u8 c.b.y, .int .i64 c.b.n, .int .i64 c.n] t)) w.heap.size c t := Deep.blk_alloc_new _ _
/-- .. of a name. -/
def BN (w : World) (b : Nat) (a : Nm) : Prop := w.heap[b]? = some (.cells #[.int .u8 a.y, .int .i64 a.n] 41 (0, 0))
theorem BN.at {w : World} {b : Nat} {a : Nm} (h : BN w b a) : At2 w b 0 a := by
  unfold BN at h; refine ⟨?_, ?_⟩ <;> simp [World.cell?, h]
theorem BN.ext {w w' : World} {b : Nat} {a : Nm} (h : BN w b a) (e : Ext w w') : BN w' b a := Ext.block e h
theorem BN.new (w : World) (a : Nm) : BN (w.alloc (.cells #[.int .u8 a.y, .int .i64 a.n] 41)) w.heap.size a := Deep.blk_alloc_new _ _
end Go.Proofs.YtlhkehfplcclgaaDoor
