/- Texts of this claim in one file: libraries and walks. -/
import Derived.Test.YtlhkehfplcclgaaDoorChecked
import Derived.Deep.RegionHeld3
import Derived.Deep.CutRange
import Derived.Laws.CopyRow
import Derived.Test.YtlhkehfplcclgaaDoorL0
/- Names, passes, loops, tables, crossings, fabrics: as plain data, and in memory. -/
namespace Go.Proofs.YtlhkehfplcclgaaDoor
set_option linter.unusedVariables false
set_option linter.unusedSimpArgs false
open Go Go.RowKit

/-- A name of a loop: its yarn, its number. -/
structure Nm where
  y : Int
  n : Int
deriving DecidableEq
structure Ps where
  id : Nm
  f : Bool
  d : Int
deriving DecidableEq
structure Lp where
  bed : Int
  new : Bool
  thr : List Nm
  past : List Ps
deriving DecidableEq
abbrev Tab := List (List Lp)
structure Xg where
  a : Nm
  b : Nm
  n : Int
deriving DecidableEq
structure Fab where
  ys : Tab
  cr : List Xg
  held : List Nm
  fallen : List Nm
deriving DecidableEq

namespace Nm
def zero : Nm := ⟨0, 0⟩
def cs (a : Nm) : List Value := [.int .u8 a.y, .int .i64 a.n]
def val (a : Nm) : Value := .agg #[.int .u8 a.y, .int .i64 a.n]
/-- The bounds of a name's numbers. -/
def In (a : Nm) : Prop := (0 ≤ a.y ∧ a.y ≤ 255) ∧ -9223372036854775808 ≤ a.n ∧ a.n ≤ 9223372036854775807
end Nm
namespace Ps
def zero : Ps := ⟨Nm.zero, false, 0⟩
def cs (p : Ps) : List Value := [.int .u8 p.id.y, .int .i64 p.id.n, .bool p.f, .int .u8 p.d]
def val (p : Ps) : Value := .agg #[.int .u8 p.id.y, .int .i64 p.id.n, .bool p.f, .int .u8 p.d]
def In (p : Ps) : Prop := p.id.In ∧ 0 ≤ p.d ∧ p.d ≤ 255
end Ps
namespace Xg
def zero : Xg := ⟨Nm.zero, Nm.zero, 0⟩
def cs (c : Xg) : List Value := [.int .u8 c.a.y, .int .i64 c.a.n, .int .u8 c.b.y, .int .i64 c.b.n, .int .i64 c.n]
def val (c : Xg) : Value := .agg #[.int .u8 c.a.y, .int .i64 c.a.n, .int .u8 c.b.y, .int .i64 c.b.n, .int .i64 c.n]
def In (c : Xg) : Prop := c.a.In ∧ c.b.In ∧ -9223372036854775808 ≤ c.n ∧ c.n ≤ 9223372036854775807
end Xg
def Lp.zero : Lp := ⟨0, false, [], []⟩
def Lp.In (l : Lp) : Prop := (0 ≤ l.bed ∧ l.bed ≤ 255) ∧ (∀ a ∈ l.thr, a.In) ∧ ∀ p ∈ l.past, p.In

def ni (l : List Nm) (i : Nat) : Nm := l.getD i Nm.zero
def qi (l : List Ps) (i : Nat) : Ps := l.getD i Ps.zero
def xi (l : List Xg) (i : Nat) : Xg := l.getD i Xg.zero
def li (l : List Lp) (i : Nat) : Lp := l.getD i Lp.zero
def yi (t : Tab) (i : Nat) : List Lp := t.getD i []
theorem ni_of {l : List Nm} {i : Nat} (h : i < l.length) : ni l i = l[i] := by unfold ni; simp [List.getD, h]
theorem qi_of {l : List Ps} {i : Nat} (h : i < l.length) : qi l i = l[i] := by unfold qi; simp [List.getD, h]
theorem xi_of {l : List Xg} {i : Nat} (h : i < l.length) : xi l i = l[i] := by unfold xi; simp [List.getD, h]
theorem li_of {l : List Lp} {i : Nat} (h : i < l.length) : li l i = l[i] := by unfold li; simp [List.getD, h]
theorem yi_of {l : Tab} {i : Nat} (h : i < l.length) : yi l i = l[i] := by unfold yi; simp [List.getD, h]
theorem ni_mem {l : List Nm} {i : Nat} (h : i < l.length) : ni l i ∈ l := by rw [ni_of h]; exact List.getElem_mem h
theorem qi_mem {l : List Ps} {i : Nat} (h : i < l.length) : qi l i ∈ l := by rw [qi_of h]; exact List.getElem_mem h
theorem xi_mem {l : List Xg} {i : Nat} (h : i < l.length) : xi l i ∈ l := by rw [xi_of h]; exact List.getElem_mem h
theorem li_mem {l : List Lp} {i : Nat} (h : i < l.length) : li l i ∈ l := by rw [li_of h]; exact List.getElem_mem h
theorem yi_mem {l : Tab} {i : Nat} (h : i < l.length) : yi l i ∈ l := by rw [yi_of h]; exact List.getElem_mem h
theorem yi_end {l : Tab} {i : Nat} (h : l.length ≤ i) : yi l i = [] := by unfold yi; simp [List.getD, List.getElem?_eq_none h]

/-! ### In memory -/
/-- The cells l stand in block b from o on. -/
def AtC (w : World) (b o : Nat) (l : List Value) : Prop := ∀ j, j < l.length → w.cell? ⟨b, o + j, none⟩ = some (l.getD j undef)
theorem AtC.ext {w w' : World} {b o : Nat} {l : List Value} (h : AtC w b o l) (x : Ext w w') : AtC w' b o l := fun j hj => x.cell (h j hj)
/-- The slice v, of capacity c, of structs of k cells: the cells of each. -/
def CK (k : Nat) (w : World) (v : Value) (c : Nat) (xs : List (List Value)) : Prop :=
  ∃ ao : Option Addr, v = .slice ao xs.length c ∧ xs.length ≤ c ∧ c ≤ 9223372036854775807 ∧ (c = 0 ∨ ∃ b o, ao = some ⟨b, o, none⟩ ∧ ∀ i, i < xs.length → AtC w b (o + i * k) (xs.getD i []))
theorem CK.ext {k : Nat} {w w' : World} {v : Value} {c : Nat} {xs : List (List Value)} (h : CK k w v c xs) (x : Ext w w') : CK k w' v c xs := by
  obtain ⟨ao, h1, h2, h3, h4⟩ := h
  refine ⟨ao, h1, h2, h3, ?_⟩
  rcases h4 with h4 | ⟨b, o, h5, h6⟩
  · exact .inl h4
  · exact .inr ⟨b, o, h5, fun i hi => (h6 i hi).ext x⟩
theorem CK.nil (k : Nat) (w : World) : CK k w (.slice none 0 0) 0 [] := ⟨none, rfl, Nat.le_refl _, by omega, .inl rfl⟩
/-- Names, passes, crossings. -/
def NL (w : World) (v : Value) (c : Nat) (l : List Nm) : Prop := CK 2 w v c (l.map Nm.cs)
def PL (w : World) (v : Value) (c : Nat) (l : List Ps) : Prop := CK 4 w v c (l.map Ps.cs)
def XL (w : World) (v : Value) (c : Nat) (l : List Xg) : Prop := CK 5 w v c (l.map Xg.cs)
theorem NL.ext {w w' : World} {v : Value} {c : Nat} {l : List Nm} (h : NL w v c l) (x : Ext w w') : NL w' v c l := CK.ext h x
theorem PL.ext {w w' : World} {v : Value} {c : Nat} {l : List Ps} (h : PL w v c l) (x : Ext w w') : PL w' v c l := CK.ext h x
theorem XL.ext {w w' : World} {v : Value} {c : Nat} {l : List Xg} (h : XL w v c l) (x : Ext w w') : XL w' v c l := CK.ext h x
theorem NL.nil (w : World) : NL w (.slice none 0 0) 0 [] := CK.nil _ _
theorem PL.nil (w : World) : PL w (.slice none 0 0) 0 [] := CK.nil _ _
theorem XL.nil (w : World) : XL w (.slice none 0 0) 0 [] := CK.nil _ _
theorem CK.op {k : Nat} {w : World} {v : Value} {c : Nat} {xs : List (List Value)} (h : CK k w v c xs) :
    ∃ ao, v = .slice ao xs.length c ∧ xs.length ≤ c ∧ c ≤ 9223372036854775807 ∧ ∀ i, i < xs.length → ∃ b o, ao = some ⟨b, o, none⟩ ∧ AtC w b (o + i * k) (xs.getD i []) := by
  obtain ⟨ao, h1, h2, h3, h4⟩ := h
  refine ⟨ao, h1, h2, h3, fun i hi => ?_⟩
  rcases h4 with h4 | ⟨b, o, h5, h6⟩
  · omega
  · exact ⟨b, o, h5, h6 i hi⟩
theorem getD_map {α : Type} (f : α → List Value) {l : List α} {i : Nat} (z : α) (h : i < l.length) : (l.map f).getD i [] = f (l.getD i z) := by simp [List.getD, h]
/-- The two cells of a name. -/
def At2 (w : World) (b o : Nat) (a : Nm) : Prop := w.cell? ⟨b, o, none⟩ = some (.int .u8 a.y) ∧ w.cell? ⟨b, o + 1, none⟩ = some (.int .i64 a.n)
def At4 (w : World) (b o : Nat) (p : Ps) : Prop := w.cell? ⟨b, o, none⟩ = some (.int .u8 p.id.y) ∧ w.cell? ⟨b, o + 1, none⟩ = some (.int .i64 p.id.n) ∧ w.cell? ⟨b, o + 2, none⟩ = some (.bool p.f) ∧ w.cell? ⟨b, o + 3, none⟩ = some (.int .u8 p.d)
def At5 (w : World) (b o : Nat) (c : Xg) : Prop := w.cell? ⟨b, o, none⟩ = some (.int .u8 c.a.y) ∧ w.cell? ⟨b, o + 1, none⟩ = some (.int .i64 c.a.n) ∧ w.cell? ⟨b, o + 2, none⟩ = some (.int .u8 c.b.y) ∧ w.cell? ⟨b, o + 3, none⟩ = some (.int .i64 c.b.n) ∧ w.cell? ⟨b, o + 4, none⟩ = some (.int .i64 c.n)
theorem At2.ext {w w' : World} {b o : Nat} {a : Nm} (h : At2 w b o a) (x : Ext w w') : At2 w' b o a := ⟨x.cell h.1, x.cell h.2⟩
theorem At4.ext {w w' : World} {b o : Nat} {a : Ps} (h : At4 w b o a) (x : Ext w w') : At4 w' b o a := ⟨x.cell h.1, x.cell h.2.1, x.cell h.2.2.1, x.cell h.2.2.2⟩
theorem At5.ext {w w' : World} {b o : Nat} {a : Xg} (h : At5 w b o a) (x : Ext w w') : At5 w' b o a := ⟨x.cell h.1, x.cell h.2.1, x.cell h.2.2.1, x.cell h.2.2.2.1, x.cell h.2.2.2.2⟩
theorem NL.open {w : World} {v : Value} {c : Nat} {l : List Nm} (h : NL w v c l) : ∃ ao n, v = .slice ao n c ∧ n = l.length ∧ n ≤ c ∧ c ≤ 9223372036854775807 ∧ ∀ i, i < n → ∃ b o, ao = some ⟨b, o, none⟩ ∧ At2 w b (o + i * 2) (ni l i) := by
  obtain ⟨ao, h1, h2, h3, h4⟩ := CK.op h
  rw [List.length_map] at h1 h2 h4
  refine ⟨ao, _, h1, rfl, h2, h3, fun i hi => ?_⟩
  obtain ⟨b, o, h5, h6⟩ := h4 i hi
  rw [getD_map Nm.cs Nm.zero hi] at h6
  exact ⟨b, o, h5, h6 0 (by simp [Nm.cs]), h6 1 (by simp [Nm.cs])⟩
theorem PL.open {w : World} {v : Value} {c : Nat} {l : List Ps} (h : PL w v c l) : ∃ ao n, v = .slice ao n c ∧ n = l.length ∧ n ≤ c ∧ c ≤ 9223372036854775807 ∧ ∀ i, i < n → ∃ b o, ao = some ⟨b, o, none⟩ ∧ At4 w b (o + i * 4) (qi l i) := by
  obtain ⟨ao, h1, h2, h3, h4⟩ := CK.op h
  rw [List.length_map] at h1 h2 h4
  refine ⟨ao, _, h1, rfl, h2, h3, fun i hi => ?_⟩
  obtain ⟨b, o, h5, h6⟩ := h4 i hi
  rw [getD_map Ps.cs Ps.zero hi] at h6
  exact ⟨b, o, h5, h6 0 (by simp [Ps.cs]), h6 1 (by simp [Ps.cs]), h6 2 (by simp [Ps.cs]), h6 3 (by simp [Ps.cs])⟩
theorem XL.open {w : World} {v : Value} {c : Nat} {l : List Xg} (h : XL w v c l) : ∃ ao n, v = .slice ao n c ∧ n = l.length ∧ n ≤ c ∧ c ≤ 9223372036854775807 ∧ ∀ i, i < n → ∃ b o, ao = some ⟨b, o, none⟩ ∧ At5 w b (o + i * 5) (xi l i) := by
  obtain ⟨ao, h1, h2, h3, h4⟩ := CK.op h
  rw [List.length_map] at h1 h2 h4
  refine ⟨ao, _, h1, rfl, h2, h3, fun i hi => ?_⟩
  obtain ⟨b, o, h5, h6⟩ := h4 i hi
  rw [getD_map Xg.cs Xg.zero hi] at h6
  exact ⟨b, o, h5, h6 0 (by simp [Xg.cs]), h6 1 (by simp [Xg.cs]), h6 2 (by simp [Xg.cs]), h6 3 (by simp [Xg.cs]), h6 4 (by simp [Xg.cs])⟩
/-- A row of loops: us, vs are the slices of names and of passes. -/
def LR (w : World) (v : Value) (c : Nat) (ls : List Lp) : Prop :=
  ∃ us vs : Nat → Value, CK 4 w v c ((List.range ls.length).map fun i => [.int .u8 (li ls i).bed, .bool (li ls i).new, us i, vs i]) ∧
    ∀ i, i < ls.length → (∃ d, NL w (us i) d (li ls i).thr) ∧ ∃ d, PL w (vs i) d (li ls i).past
theorem LR.ext {w w' : World} {v : Value} {c : Nat} {l : List Lp} (h : LR w v c l) (x : Ext w w') : LR w' v c l := by
  obtain ⟨us, vs, h1, h2⟩ := h
  refine ⟨us, vs, h1.ext x, fun i hi => ?_⟩
  obtain ⟨⟨d, h3⟩, e, h4⟩ := h2 i hi
  exact ⟨⟨d, h3.ext x⟩, e, h4.ext x⟩
theorem LR.nil (w : World) : LR w (.slice none 0 0) 0 [] := ⟨fun _ => undef, fun _ => undef, CK.nil _ _, fun i hi => by simp at hi⟩
/-- The four cells of a loop. -/
def AtL (w : World) (b o : Nat) (l : Lp) (u v : Value) : Prop := w.cell? ⟨b, o, none⟩ = some (.int .u8 l.bed) ∧ w.cell? ⟨b, o + 1, none⟩ = some (.bool l.new) ∧ w.cell? ⟨b, o + 2, none⟩ = some u ∧ w.cell? ⟨b, o + 3, none⟩ = some v
theorem AtL.ext {w w' : World} {b o : Nat} {l : Lp} {u v : Value} (h : AtL w b o l u v) (x : Ext w w') : AtL w' b o l u v := ⟨x.cell h.1, x.cell h.2.1, x.cell h.2.2.1, x.cell h.2.2.2⟩
theorem LR.open {w : World} {v : Value} {c : Nat} {l : List Lp} (h : LR w v c l) : ∃ ao n, v = .slice ao n c ∧ n = l.length ∧ n ≤ c ∧ c ≤ 9223372036854775807 ∧
    ∀ i, i < n → ∃ b o a1 n1 d1 a2 n2 d2, ao = some ⟨b, o, none⟩ ∧ AtL w b (o + i * 4) (li l i) (.slice a1 n1 d1) (.slice a2 n2 d2) ∧ n1 = (li l i).thr.length ∧ n2 = (li l i).past.length ∧ NL w (.slice a1 n1 d1) d1 (li l i).thr ∧ PL w (.slice a2 n2 d2) d2 (li l i).past := by
  obtain ⟨us, vs, h1, h2⟩ := h
  obtain ⟨ao, h3, h4, h5, h6⟩ := h1.op
  rw [List.length_map, List.length_range] at h3 h4 h6
  refine ⟨ao, _, h3, rfl, h4, h5, fun i hi => ?_⟩
  obtain ⟨b, o, h7, h8⟩ := h6 i hi
  obtain ⟨⟨d, h9⟩, e, h10⟩ := h2 i hi
  have hg : ((List.range l.length).map fun i => [Value.int .u8 (li l i).bed, Value.bool (li l i).new, us i, vs i]).getD i [] = [.int .u8 (li l i).bed, .bool (li l i).new, us i, vs i] := by
    simp [List.getD, hi]
  rw [hg] at h8
  obtain ⟨a1, n1, e1, e2, _⟩ := h9.open
  obtain ⟨a2, n2, e3, e4, _⟩ := h10.open
  have k9 := h9; have k10 := h10
  rw [e1] at k9; rw [e3] at k10
  refine ⟨b, o, a1, n1, d, a2, n2, e, h7, ⟨h8 0 (by simp), h8 1 (by simp), ?_, ?_⟩, e2, e4, k9, k10⟩
  · have := h8 2 (by simp); rw [← e1]; exact this
  · have := h8 3 (by simp); rw [← e3]; exact this
/-- A table. -/
def TB (w : World) (v : Value) (c : Nat) (t : Tab) : Prop :=
  ∃ vs : Nat → Value, CK 1 w v c ((List.range t.length).map fun i => [vs i]) ∧ ∀ i, i < t.length → ∃ d, LR w (vs i) d (yi t i)
theorem TB.ext {w w' : World} {v : Value} {c : Nat} {t : Tab} (h : TB w v c t) (x : Ext w w') : TB w' v c t := by
  obtain ⟨vs, h1, h2⟩ := h
  refine ⟨vs, h1.ext x, fun i hi => ?_⟩
  obtain ⟨d, h3⟩ := h2 i hi
  exact ⟨d, h3.ext x⟩
theorem TB.open {w : World} {v : Value} {c : Nat} {t : Tab} (h : TB w v c t) : ∃ ao n, v = .slice ao n c ∧ n = t.length ∧ n ≤ c ∧ c ≤ 9223372036854775807 ∧
    ∀ i, i < n → ∃ b o a m d, ao = some ⟨b, o, none⟩ ∧ w.cell? ⟨b, o + i, none⟩ = some (.slice a m d) ∧ m = (yi t i).length ∧ LR w (.slice a m d) d (yi t i) := by
  obtain ⟨vs, h1, h2⟩ := h
  obtain ⟨ao, h3, h4, h5, h6⟩ := h1.op
  rw [List.length_map, List.length_range] at h3 h4 h6
  refine ⟨ao, _, h3, rfl, h4, h5, fun i hi => ?_⟩
  obtain ⟨b, o, h7, h8⟩ := h6 i hi
  obtain ⟨d, h9⟩ := h2 i hi
  have hg : ((List.range t.length).map fun i => [vs i]).getD i [] = [vs i] := by simp [List.getD, hi]
  rw [hg, Nat.mul_one] at h8
  obtain ⟨a, m, e1, e2, _⟩ := h9.open
  have k9 := h9
  rw [e1] at k9
  refine ⟨b, o, a, m, d, h7, ?_, e2, k9⟩
  have := h8 0 (by simp); rw [← e1]; exact this
/-- A fabric's four slices. -/
structure FB (w : World) (tv cv hv fv : Value) (f : Fab) : Prop where
  t : ∃ c, TB w tv c f.ys
  c : ∃ c, XL w cv c f.cr
  h : ∃ c, NL w hv c f.held
  f : ∃ c, NL w fv c f.fallen
theorem FB.ext {w w' : World} {tv cv hv fv : Value} {f : Fab} (h : FB w tv cv hv fv f) (x : Ext w w') : FB w' tv cv hv fv f := by
  obtain ⟨⟨c1, h1⟩, ⟨c2, h2⟩, ⟨c3, h3⟩, c4, h4⟩ := h
  exact ⟨⟨c1, h1.ext x⟩, ⟨c2, h2.ext x⟩, ⟨c3, h3.ext x⟩, c4, h4.ext x⟩
/-- A block of four cells. -/
def B4 (w : World) (b : Nat) (x y z u : Value) (t : TypeId) : Prop := w.heap[b]? = some (.cells #[x, y, z, u] t (0, 0))
theorem B4.c0 {w : World} {b : Nat} {x y z u : Value} {t : TypeId} (h : B4 w b x y z u t) : w.cell? ⟨b, 0, none⟩ = some x := by unfold B4 at h; simp [World.cell?, h]
theorem B4.c1 {w : World} {b : Nat} {x y z u : Value} {t : TypeId} (h : B4 w b x y z u t) : w.cell? ⟨b, 1, none⟩ = some y := by unfold B4 at h; simp [World.cell?, h]
theorem B4.c2 {w : World} {b : Nat} {x y z u : Value} {t : TypeId} (h : B4 w b x y z u t) : w.cell? ⟨b, 2, none⟩ = some z := by unfold B4 at h; simp [World.cell?, h]
theorem B4.c3 {w : World} {b : Nat} {x y z u : Value} {t : TypeId} (h : B4 w b x y z u t) : w.cell? ⟨b, 3, none⟩ = some u := by unfold B4 at h; simp [World.cell?, h]
theorem B4.ext {w w' : World} {b : Nat} {x y z u : Value} {t : TypeId} (h : B4 w b x y z u t) (e : Ext w w') : B4 w' b x y z u t := Ext.block e h
theorem B4.new (w : World) (x y z u : Value) (t : TypeId) : B4 (w.alloc (.cells #[x, y, z, u] t)) w.heap.size x y z u t := Deep.blk_alloc_new _ _
/-- .. of five. -/
def B5 (w : World) (b : Nat) (c : Xg) (t : TypeId) : Prop := w.heap[b]? = some (.cells #[.int .u8 c.a.y, .int .i64 c.a.n, .int .u8 c.b.y, .int .i64 c.b.n, .int .i64 c.n] t (0, 0))
theorem B5.at {w : World} {b : Nat} {c : Xg} {t : TypeId} (h : B5 w b c t) : At5 w b 0 c := by
  unfold B5 at h; refine ⟨?_, ?_, ?_, ?_, ?_⟩ <;> simp [World.cell?, h]
theorem B5.ext {w w' : World} {b : Nat} {c : Xg} {t : TypeId} (h : B5 w b c t) (e : Ext w w') : B5 w' b c t := Ext.block e h
theorem B5.new (w : World) (c : Xg) (t : TypeId) : B5 (w.alloc (.cells #[.int .u8 c.a.y, .int .i64 c.a.n, .int .u8 c.b.y, .int .i64 c.b.n, .int .i64 c.n] t)) w.heap.size c t := Deep.blk_alloc_new _ _
/-- .. of a name. -/
def BN (w : World) (b : Nat) (a : Nm) : Prop := w.heap[b]? = some (.cells #[.int .u8 a.y, .int .i64 a.n] 41 (0, 0))
theorem BN.at {w : World} {b : Nat} {a : Nm} (h : BN w b a) : At2 w b 0 a := by
  unfold BN at h; refine ⟨?_, ?_⟩ <;> simp [World.cell?, h]
theorem BN.ext {w w' : World} {b : Nat} {a : Nm} (h : BN w b a) (e : Ext w w') : BN w' b a := Ext.block e h
theorem BN.new (w : World) (a : Nm) : BN (w.alloc (.cells #[.int .u8 a.y, .int .i64 a.n] 41)) w.heap.size a := Deep.blk_alloc_new _ _
end Go.Proofs.YtlhkehfplcclgaaDoor
/- cmp.Compare, cmp.Or, Compare, comparePairs, pair. -/
namespace Go.Proofs.YtlhkehfplcclgaaDoor
set_option linter.unusedVariables false
set_option linter.unusedSimpArgs false
set_option maxRecDepth 8000
open Go Go.RowKit

def cmpI (a b : Int) : Int := if a < b then -1 else if b < a then 1 else 0
def orI (a b : Int) : Int := if a = 0 then b else a
def cmpN (a b : Nm) : Int := orI (cmpI a.y b.y) (cmpI a.n b.n)
def cmpX (c d : Xg) : Int := orI (cmpN c.a d.a) (cmpN c.b d.b)
theorem isNaN8_calls (a : Int) (w : World) : Calls Tryd.prog 67 #[.int .u8 a] w fun e w' => e = .returned (.bool false) ∧ w' = w := by
  go_enter Tryd.func67, Tryd.ntmps67
  go_wp2
  go_ret
  exact ⟨by simp, rfl⟩
theorem isNaN_calls (a : Int) (w : World) : Calls Tryd.prog 68 #[.int .i64 a] w fun e w' => e = .returned (.bool false) ∧ w' = w := by
  go_enter Tryd.func68, Tryd.ntmps68
  go_wp2
  go_ret
  exact ⟨by simp, rfl⟩
theorem Cmp8_calls (a b : Int) (w : World) : Calls Tryd.prog 57 #[.int .u8 a, .int .u8 b] w fun e w' => e = .returned (.int .i64 (cmpI a b)) ∧ w' = w := by
  go_enter Tryd.func57, Tryd.ntmps57
  go_wp2_with fail
  refine (isNaN8_calls _ _).mono ?_
  rintro e w' ⟨rfl, rfl⟩
  go_wp2_with fail
  refine (isNaN8_calls _ _).mono ?_
  rintro e w' ⟨rfl, rfl⟩
  go_wp2
  all_goals go_ret
  all_goals (refine ⟨ret_int ?_, rfl⟩; unfold cmpI; (repeat' split) <;> first | rfl | omega)
theorem Cmp_calls (a b : Int) (w : World) : Calls Tryd.prog 58 #[.int .i64 a, .int .i64 b] w fun e w' => e = .returned (.int .i64 (cmpI a b)) ∧ w' = w := by
  go_enter Tryd.func58, Tryd.ntmps58
  go_wp2_with fail
  refine (isNaN_calls _ _).mono ?_
  rintro e w' ⟨rfl, rfl⟩
  go_wp2_with fail
  refine (isNaN_calls _ _).mono ?_
  rintro e w' ⟨rfl, rfl⟩
  go_wp2
  all_goals go_ret
  all_goals (refine ⟨ret_int ?_, rfl⟩; unfold cmpI; (repeat' split) <;> first | rfl | omega)
theorem Or2_calls (g : Nat) (x y : Int) (w : World) (h0 : w.cell? ⟨g, 0, none⟩ = some (.int .i64 x)) (h1 : w.cell? ⟨g, 1, none⟩ = some (.int .i64 y)) :
    Calls Tryd.prog 56 #[.slice (some ⟨g, 0, none⟩) 2 2] w fun e w' => e = .returned (.int .i64 (orI x y)) ∧ w' = w := by
  have HX := Lib.hid h0; have HY := Lib.hid h1
  clear h0 h1
  go_enter Tryd.func56, Tryd.ntmps56
  go_wp2
  go_loopw [5, 8] (fun _ i wr => ∃ k : Nat, k ≤ 2 ∧ i = .int .i64 k ∧ wr = w ∧ (0 < k → x = 0) ∧ (1 < k → y = 0)) (fun _ i _ => 2 - (intOf i).toNat)
  case atStart => exact ⟨0, by omega, rfl, rfl, by omega, by omega⟩
  case round =>
    obtain ⟨k, hk, rfl, rfl, hx, hy⟩ := hrel
    rcases (show k = 0 ∨ k = 1 ∨ k = 2 by omega) with rfl | rfl | rfl
    · have c0 := HX.out
      by_cases hx0 : x = 0
      · go_wp2
        go_roundw
        case rel => exact ⟨1, by omega, rfl, by first | rfl | trivial, fun _ => hx0, by omega⟩
        case measure => simp [intOf]
      · go_wp2
        go_ret
        unfold orI; rw [if_neg hx0]; exact ⟨rfl, rfl⟩
    · have c0 := HY.out
      have hx0 := hx (by omega)
      by_cases hy0 : y = 0
      · go_wp2
        go_roundw
        case rel => exact ⟨2, by omega, rfl, by first | rfl | trivial, fun _ => hx0, fun _ => hy0⟩
        case measure => simp [intOf]
      · go_wp2
        go_ret
        unfold orI; rw [if_pos hx0]; exact ⟨rfl, rfl⟩
    · have hx0 := hx (by omega)
      have hy0 := hy (by omega)
      go_wp2
      go_ret
      unfold orI; rw [if_pos hx0, hy0]; exact ⟨rfl, rfl⟩
theorem cmpI_bd (a b : Int) : -1 ≤ cmpI a b ∧ cmpI a b ≤ 1 := by unfold cmpI; (repeat' split) <;> omega
theorem orI_bd {a b : Int} (h : -1 ≤ a ∧ a ≤ 1) (k : -1 ≤ b ∧ b ≤ 1) : -1 ≤ orI a b ∧ orI a b ≤ 1 := by unfold orI; split <;> omega
theorem cmpN_bd (a b : Nm) : -1 ≤ cmpN a b ∧ cmpN a b ≤ 1 := orI_bd (cmpI_bd _ _) (cmpI_bd _ _)
theorem cmpX_bd (a b : Xg) : -1 ≤ cmpX a b ∧ cmpX a b ≤ 1 := orI_bd (cmpN_bd _ _) (cmpN_bd _ _)
theorem Cmp8_x (a b : Int) (w : World) : Calls Tryd.prog 57 #[.int .u8 a, .int .u8 b] w fun e w' => e = .returned (.int .i64 (cmpI a b)) ∧ Ext w w' := (Cmp8_calls a b w).mono fun e w' h => ⟨h.1, h.2 ▸ Ext.refl _⟩
theorem Cmp_x (a b : Int) (w : World) : Calls Tryd.prog 58 #[.int .i64 a, .int .i64 b] w fun e w' => e = .returned (.int .i64 (cmpI a b)) ∧ Ext w w' := (Cmp_calls a b w).mono fun e w' h => ⟨h.1, h.2 ▸ Ext.refl _⟩
theorem Or2_x (g : Nat) (x y : Int) (t : TypeId) (w : World) (h : w.heap[g]? = some (.cells #[.int .i64 x, .int .i64 y] t (0, 0))) : Calls Tryd.prog 56 #[.slice (some ⟨g, 0, none⟩) 2 2] w fun e w' => e = .returned (.int .i64 (orI x y)) ∧ Ext w w' := (Or2_calls g x y w (by simp [World.cell?, h]) (by simp [World.cell?, h])).mono fun e w' h => ⟨h.1, h.2 ▸ Ext.refl _⟩
set_option maxHeartbeats 4000000 in
theorem Compare_calls (a b : Nm) (w : World) : Calls Tryd.prog 22 #[a.val, b.val] w fun e w' => e = .returned (.int .i64 (cmpN a b)) ∧ Ext w w' := by
  unfold Nm.val
  go_enter Tryd.func22, Tryd.ntmps22
  obtain ⟨w2, hw2⟩ : ∃ w2, w2 = (w.alloc (.cells #[.int .u8 a.y, .int .i64 a.n] 41)).alloc (.cells #[.int .u8 b.y, .int .i64 b.n] 41) := ⟨_, rfl⟩
  have hA : At2 w2 w.heap.size 0 a := by rw [hw2]; exact ((BN.new w a).ext ((Ext.refl _).alloc _)).at
  have hB : At2 w2 (w.heap.size + 1) 0 b := by rw [hw2]; have := (BN.new (w.alloc (.cells #[.int .u8 a.y, .int .i64 a.n] 41)) b).at; simpa using this
  have X := Lib.hid (show Ext w w2 by rw [hw2]; exact ((Ext.refl _).alloc _).alloc _)
  have HW := Lib.hid hw2
  obtain ⟨q0_1, q0_2⟩ := hA
  obtain ⟨q0_3, q0_4⟩ := hB
  simp only [Nat.zero_add] at q0_2 q0_4
  clear hw2
  go_wp2
  rw [← HW.out]
  go_region_held3 (fun w' => w'.cell? ⟨w.heap.size, 0, Option.none⟩ = some (.int .u8 a.y) ∧ w'.cell? ⟨w.heap.size, 1, Option.none⟩ = some (.int .i64 a.n) ∧ w'.cell? ⟨w.heap.size + 1, 0, Option.none⟩ = some (.int .u8 b.y) ∧ w'.cell? ⟨w.heap.size + 1, 1, Option.none⟩ = some (.int .i64 b.n)) (first | (with_reducible exact ⟨q0_1, q0_2, q0_3, q0_4⟩) | (with_reducible exact ⟨q1_1, q1_2, q1_3, q1_4⟩) | (with_reducible exact ⟨q2_1, q2_2, q2_3, q2_4⟩) | (with_reducible exact ⟨q3_1, q3_2, q3_3, q3_4⟩) | go_keep) (first
    | (go_at_call 57; (refine (Cmp8_x _ _ _).mono ?_); intro e w3 hh; obtain ⟨rfl, x⟩ := hh; have Xa : Hid (Ext w2 w3) := Lib.hid (Ext.trans (by ((repeat (first | (with_reducible exact Ext.refl _) | (with_reducible apply Ext.drew) | (with_reducible apply Ext.drewN) | (with_reducible apply Ext.alloc))); done)) x); have q1_1 := Xa.out.cell q0_1; have q1_2 := Xa.out.cell q0_2; have q1_3 := Xa.out.cell q0_3; have q1_4 := Xa.out.cell q0_4; clear x)
    | (go_at_call 58; (refine (Cmp_x _ _ _).mono ?_); intro e w4 hh; obtain ⟨rfl, x⟩ := hh; have Xb : Hid (Ext w2 w4) := Lib.hid (Ext.trans Xa.out (Ext.trans (by ((repeat (first | (with_reducible exact Ext.refl _) | (with_reducible apply Ext.drew) | (with_reducible apply Ext.drewN) | (with_reducible apply Ext.alloc))); done)) x)); have q2_1 := Xb.out.cell q0_1; have q2_2 := Xb.out.cell q0_2; have q2_3 := Xb.out.cell q0_3; have q2_4 := Xb.out.cell q0_4; clear x)
    | (go_at_call 56; (refine (Or2_x _ _ _ _ _ (Deep.blk_alloc_new _ _)).mono ?_); intro e w5 hh; obtain ⟨rfl, x⟩ := hh; have Xc : Hid (Ext w2 w5) := Lib.hid (Ext.trans Xb.out (Ext.trans (by ((repeat (first | (with_reducible exact Ext.refl _) | (with_reducible apply Ext.drew) | (with_reducible apply Ext.drewN) | (with_reducible apply Ext.alloc))); done)) x)); have q3_1 := Xc.out.cell q0_1; have q3_2 := Xc.out.cell q0_2; have q3_3 := Xc.out.cell q0_3; have q3_4 := Xc.out.cell q0_4; clear x))
  all_goals (try go_wp2)
  all_goals (go_ret; exact ⟨rfl, X.out.trans Xc.out⟩)
set_option maxHeartbeats 4000000 in
theorem Pairs_calls (a b : Xg) (w : World) : Calls Tryd.prog 51 #[a.val, b.val] w fun e w' => e = .returned (.int .i64 (cmpX a b)) ∧ Ext w w' := by
  unfold Xg.val
  go_enter Tryd.func51, Tryd.ntmps51
  obtain ⟨w2, hw2⟩ : ∃ w2, w2 = (w.alloc (.cells #[.int .u8 a.a.y, .int .i64 a.a.n, .int .u8 a.b.y, .int .i64 a.b.n, .int .i64 a.n] 52)).alloc (.cells #[.int .u8 b.a.y, .int .i64 b.a.n, .int .u8 b.b.y, .int .i64 b.b.n, .int .i64 b.n] 52) := ⟨_, rfl⟩
  have hA : At5 w2 w.heap.size 0 a := by rw [hw2]; exact ((B5.new w a _).ext ((Ext.refl _).alloc _)).at
  have hB : At5 w2 (w.heap.size + 1) 0 b := by rw [hw2]; have := (B5.new (w.alloc (.cells #[.int .u8 a.a.y, .int .i64 a.a.n, .int .u8 a.b.y, .int .i64 a.b.n, .int .i64 a.n] 52)) b 52).at; simpa using this
  have X := Lib.hid (show Ext w w2 by rw [hw2]; exact ((Ext.refl _).alloc _).alloc _)
  have HW := Lib.hid hw2
  obtain ⟨q0_1, q0_2, q0_3, q0_4, _⟩ := hA
  obtain ⟨q0_5, q0_6, q0_7, q0_8, _⟩ := hB
  simp only [Nat.zero_add] at q0_2 q0_3 q0_4 q0_6 q0_7 q0_8
  clear hw2
  go_wp2
  rw [← HW.out]
  go_region_held3 (fun w' => w'.cell? ⟨w.heap.size, 0, Option.none⟩ = some (.int .u8 a.a.y) ∧ w'.cell? ⟨w.heap.size, 1, Option.none⟩ = some (.int .i64 a.a.n) ∧ w'.cell? ⟨w.heap.size, 2, Option.none⟩ = some (.int .u8 a.b.y) ∧ w'.cell? ⟨w.heap.size, 3, Option.none⟩ = some (.int .i64 a.b.n) ∧ w'.cell? ⟨w.heap.size + 1, 0, Option.none⟩ = some (.int .u8 b.a.y) ∧ w'.cell? ⟨w.heap.size + 1, 1, Option.none⟩ = some (.int .i64 b.a.n) ∧ w'.cell? ⟨w.heap.size + 1, 2, Option.none⟩ = some (.int .u8 b.b.y) ∧ w'.cell? ⟨w.heap.size + 1, 3, Option.none⟩ = some (.int .i64 b.b.n)) (first | (with_reducible exact ⟨q0_1, q0_2, q0_3, q0_4, q0_5, q0_6, q0_7, q0_8⟩) | (with_reducible exact ⟨q1_1, q1_2, q1_3, q1_4, q1_5, q1_6, q1_7, q1_8⟩) | (with_reducible exact ⟨q2_1, q2_2, q2_3, q2_4, q2_5, q2_6, q2_7, q2_8⟩) | (with_reducible exact ⟨q3_1, q3_2, q3_3, q3_4, q3_5, q3_6, q3_7, q3_8⟩) | go_keep) (first
    | (go_at_call_of 22 (Value.agg #[.int .u8 a.a.y, .int .i64 a.a.n]); (refine (Compare_calls a.a b.a _).mono ?_); intro e w3 hh; obtain ⟨rfl, x⟩ := hh; have Xa : Hid (Ext w2 w3) := Lib.hid (Ext.trans (by ((repeat (first | (with_reducible exact Ext.refl _) | (with_reducible apply Ext.drew) | (with_reducible apply Ext.drewN) | (with_reducible apply Ext.alloc))); done)) x); have q1_1 := Xa.out.cell q0_1; have q1_2 := Xa.out.cell q0_2; have q1_3 := Xa.out.cell q0_3; have q1_4 := Xa.out.cell q0_4; have q1_5 := Xa.out.cell q0_5; have q1_6 := Xa.out.cell q0_6; have q1_7 := Xa.out.cell q0_7; have q1_8 := Xa.out.cell q0_8; clear x)
    | (go_at_call_of 22 (Value.agg #[.int .u8 a.b.y, .int .i64 a.b.n]); (refine (Compare_calls a.b b.b _).mono ?_); intro e w4 hh; obtain ⟨rfl, x⟩ := hh; have Xb : Hid (Ext w2 w4) := Lib.hid (Ext.trans Xa.out (Ext.trans (by ((repeat (first | (with_reducible exact Ext.refl _) | (with_reducible apply Ext.drew) | (with_reducible apply Ext.drewN) | (with_reducible apply Ext.alloc))); done)) x)); have q2_1 := Xb.out.cell q0_1; have q2_2 := Xb.out.cell q0_2; have q2_3 := Xb.out.cell q0_3; have q2_4 := Xb.out.cell q0_4; have q2_5 := Xb.out.cell q0_5; have q2_6 := Xb.out.cell q0_6; have q2_7 := Xb.out.cell q0_7; have q2_8 := Xb.out.cell q0_8; clear x)
    | (go_at_call 56; (refine (Or2_x _ _ _ _ _ (Deep.blk_alloc_new _ _)).mono ?_); intro e w5 hh; obtain ⟨rfl, x⟩ := hh; have Xc : Hid (Ext w2 w5) := Lib.hid (Ext.trans Xb.out (Ext.trans (by ((repeat (first | (with_reducible exact Ext.refl _) | (with_reducible apply Ext.drew) | (with_reducible apply Ext.drewN) | (with_reducible apply Ext.alloc))); done)) x)); have q3_1 := Xc.out.cell q0_1; have q3_2 := Xc.out.cell q0_2; have q3_3 := Xc.out.cell q0_3; have q3_4 := Xc.out.cell q0_4; have q3_5 := Xc.out.cell q0_5; have q3_6 := Xc.out.cell q0_6; have q3_7 := Xc.out.cell q0_7; have q3_8 := Xc.out.cell q0_8; clear x))
  all_goals (try go_wp2)
  all_goals (go_ret; exact ⟨rfl, X.out.trans Xc.out⟩)
end Go.Proofs.YtlhkehfplcclgaaDoor
/- has, of both packages; pair. -/
namespace Go.Proofs.YtlhkehfplcclgaaDoor
set_option linter.unusedVariables false
set_option linter.unusedSimpArgs false
set_option maxRecDepth 8000
open Go Go.RowKit

def hasB (t : Tab) (a : Nm) : Bool := decide (1 ≤ a.y) && (decide (a.y ≤ (t.length : Int)) && (decide (0 ≤ a.n) && decide (a.n < ((yi t (a.y - 1).toNat).length : Int))))
set_option maxHeartbeats 4000000 in
theorem Has_calls (tv : Value) (c : Nat) (t : Tab) (a : Nm) (w : World) (h : TB w tv c t) (ha : a.In) : Calls Tryd.prog 48 #[tv, a.val] w fun e w' => e = .returned (.bool (hasB t a)) ∧ Ext w w' := by
  obtain ⟨ao, N, rfl, hN, hNc, hc9, hat⟩ := h.open
  obtain ⟨y, n⟩ := a
  obtain ⟨⟨y0, y1⟩, n0, n1⟩ := ha
  dsimp only at y0 y1 n0 n1
  unfold hasB Nm.val
  dsimp only
  rw [← hN]
  obtain ⟨w2, hw2⟩ : ∃ w2, w2 = w.alloc (.cells #[.int .u8 y, .int .i64 n] 41) := ⟨_, rfl⟩
  have X := Lib.hid (show Ext w w2 by rw [hw2]; exact (Ext.refl _).alloc _)
  have hA : At2 w2 w.heap.size 0 ⟨y, n⟩ := by rw [hw2]; exact (BN.new w ⟨y, n⟩).at
  obtain ⟨q1, q2⟩ := hA
  simp only [Nat.zero_add] at q2
  have HW := Lib.hid hw2
  have Hat := Lib.hid hat
  clear hw2 hat hN h
  have k0 : IntKind.i64.wrap y = y := IntWalk.i64_in _ ⟨by omega, by omega⟩
  go_enter Tryd.func48, Tryd.ntmps48
  by_cases h1 : 1 ≤ y
  · obtain ⟨k, rfl⟩ : ∃ k : Nat, y = (k : Int) + 1 := ⟨(y - 1).toNat, by omega⟩
    have hk : ((k : Int) + 1 - 1).toNat = k := by omega
    rw [hk]
    by_cases h2 : (k : Int) + 1 ≤ N
    · obtain ⟨b, o, av, m, d, rfl, hc, hm, _⟩ := Hat.out k (by omega)
      rw [← hm]
      have hcx := X.out.cell hc
      have g1 : IntKind.u8.wrap ((k : Int) + 1 - 1) = k := by rw [show (k : Int) + 1 - 1 = k by omega]; exact (IntWalk.u8_in _ ⟨by omega, by omega⟩)
      have g2 : IntKind.u8.wrap (k : Int) = k := IntWalk.u8_in _ ⟨by omega, by omega⟩
      have g3 : (0 : Int) ≤ k := by omega
      have g4 : (k : Int) < N := by omega
      clear hc hm
      by_cases h3 : 0 ≤ n
      · by_cases h4 : n < m
        · go_wp2
          rw [← HW.out]
          go_quiet (fail)
          go_wp2
          go_ret
          exact ⟨ret_bool (by rw [decide_eq_true (show (1 : Int) ≤ (k : Int) + 1 by omega), decide_eq_true h2, decide_eq_true h3, decide_eq_true h4]; rfl), X.out.trans (by (focus (repeat (first | (with_reducible exact Ext.refl _) | (with_reducible apply Ext.drew) | (with_reducible apply Ext.drewN) | (with_reducible apply Ext.alloc)))))⟩
        · have e4 : decide (n < (m : Int)) = false := decide_eq_false h4
          go_wp2
          rw [← HW.out]
          go_quiet (fail)
          go_wp2
          go_ret
          exact ⟨ret_bool (by simp; intros; omega), X.out.trans (by (focus (repeat (first | (with_reducible exact Ext.refl _) | (with_reducible apply Ext.drew) | (with_reducible apply Ext.drewN) | (with_reducible apply Ext.alloc)))))⟩
      · have e3 : decide (0 ≤ n) = false := decide_eq_false h3
        go_wp2
        rw [← HW.out]
        go_quiet (fail)
        go_wp2
        go_ret
        exact ⟨ret_bool (by simp; intros; omega), X.out.trans (by (focus (repeat (first | (with_reducible exact Ext.refl _) | (with_reducible apply Ext.drew) | (with_reducible apply Ext.drewN) | (with_reducible apply Ext.alloc)))))⟩
    · have e2 : decide ((k : Int) + 1 ≤ N) = false := decide_eq_false h2
      go_wp2
      rw [← HW.out]
      go_quiet (fail)
      go_wp2
      go_ret
      exact ⟨ret_bool (by simp; intros; omega), X.out.trans (by (focus (repeat (first | (with_reducible exact Ext.refl _) | (with_reducible apply Ext.drew) | (with_reducible apply Ext.drewN) | (with_reducible apply Ext.alloc)))))⟩
  · have e1 : decide (1 ≤ y) = false := decide_eq_false h1
    go_wp2
    rw [← HW.out]
    go_quiet (fail)
    go_wp2
    go_ret
    exact ⟨ret_bool (by simp; intros; omega), X.out.trans (by (focus (repeat (first | (with_reducible exact Ext.refl _) | (with_reducible apply Ext.drew) | (with_reducible apply Ext.drewN) | (with_reducible apply Ext.alloc)))))⟩
set_option maxHeartbeats 4000000 in
theorem LHas_calls (tv : Value) (c : Nat) (t : Tab) (a : Nm) (w : World) (h : TB w tv c t) (ha : a.In) : Calls Tryd.prog 89 #[tv, a.val] w fun e w' => e = .returned (.bool (hasB t a)) ∧ Ext w w' := by
  obtain ⟨ao, N, rfl, hN, hNc, hc9, hat⟩ := h.open
  obtain ⟨y, n⟩ := a
  obtain ⟨⟨y0, y1⟩, n0, n1⟩ := ha
  dsimp only at y0 y1 n0 n1
  unfold hasB Nm.val
  dsimp only
  rw [← hN]
  obtain ⟨w2, hw2⟩ : ∃ w2, w2 = w.alloc (.cells #[.int .u8 y, .int .i64 n] 41) := ⟨_, rfl⟩
  have X := Lib.hid (show Ext w w2 by rw [hw2]; exact (Ext.refl _).alloc _)
  have hA : At2 w2 w.heap.size 0 ⟨y, n⟩ := by rw [hw2]; exact (BN.new w ⟨y, n⟩).at
  obtain ⟨q1, q2⟩ := hA
  simp only [Nat.zero_add] at q2
  have HW := Lib.hid hw2
  have Hat := Lib.hid hat
  clear hw2 hat hN h
  have k0 : IntKind.i64.wrap y = y := IntWalk.i64_in _ ⟨by omega, by omega⟩
  go_enter Tryd.func89, Tryd.ntmps89
  by_cases h1 : 1 ≤ y
  · obtain ⟨k, rfl⟩ : ∃ k : Nat, y = (k : Int) + 1 := ⟨(y - 1).toNat, by omega⟩
    have hk : ((k : Int) + 1 - 1).toNat = k := by omega
    rw [hk]
    by_cases h2 : (k : Int) + 1 ≤ N
    · obtain ⟨b, o, av, m, d, rfl, hc, hm, _⟩ := Hat.out k (by omega)
      rw [← hm]
      have hcx := X.out.cell hc
      have g1 : IntKind.u8.wrap ((k : Int) + 1 - 1) = k := by rw [show (k : Int) + 1 - 1 = k by omega]; exact (IntWalk.u8_in _ ⟨by omega, by omega⟩)
      have g2 : IntKind.u8.wrap (k : Int) = k := IntWalk.u8_in _ ⟨by omega, by omega⟩
      have g3 : (0 : Int) ≤ k := by omega
      have g4 : (k : Int) < N := by omega
      clear hc hm
      by_cases h3 : 0 ≤ n
      · by_cases h4 : n < m
        · go_wp2
          rw [← HW.out]
          go_quiet (fail)
          go_wp2
          go_ret
          exact ⟨ret_bool (by rw [decide_eq_true (show (1 : Int) ≤ (k : Int) + 1 by omega), decide_eq_true h2, decide_eq_true h3, decide_eq_true h4]; rfl), X.out.trans (by (focus (repeat (first | (with_reducible exact Ext.refl _) | (with_reducible apply Ext.drew) | (with_reducible apply Ext.drewN) | (with_reducible apply Ext.alloc)))))⟩
        · have e4 : decide (n < (m : Int)) = false := decide_eq_false h4
          go_wp2
          rw [← HW.out]
          go_quiet (fail)
          go_wp2
          go_ret
          exact ⟨ret_bool (by simp; intros; omega), X.out.trans (by (focus (repeat (first | (with_reducible exact Ext.refl _) | (with_reducible apply Ext.drew) | (with_reducible apply Ext.drewN) | (with_reducible apply Ext.alloc)))))⟩
      · have e3 : decide (0 ≤ n) = false := decide_eq_false h3
        go_wp2
        rw [← HW.out]
        go_quiet (fail)
        go_wp2
        go_ret
        exact ⟨ret_bool (by simp; intros; omega), X.out.trans (by (focus (repeat (first | (with_reducible exact Ext.refl _) | (with_reducible apply Ext.drew) | (with_reducible apply Ext.drewN) | (with_reducible apply Ext.alloc)))))⟩
    · have e2 : decide ((k : Int) + 1 ≤ N) = false := decide_eq_false h2
      go_wp2
      rw [← HW.out]
      go_quiet (fail)
      go_wp2
      go_ret
      exact ⟨ret_bool (by simp; intros; omega), X.out.trans (by (focus (repeat (first | (with_reducible exact Ext.refl _) | (with_reducible apply Ext.drew) | (with_reducible apply Ext.drewN) | (with_reducible apply Ext.alloc)))))⟩
  · have e1 : decide (1 ≤ y) = false := decide_eq_false h1
    go_wp2
    rw [← HW.out]
    go_quiet (fail)
    go_wp2
    go_ret
    exact ⟨ret_bool (by simp; intros; omega), X.out.trans (by (focus (repeat (first | (with_reducible exact Ext.refl _) | (with_reducible apply Ext.drew) | (with_reducible apply Ext.drewN) | (with_reducible apply Ext.alloc)))))⟩
/-- The crossing of two loops, with the sum 0. -/
def pairX (a b : Nm) : Xg := if 0 < cmpN a b then ⟨b, a, 0⟩ else ⟨a, b, 0⟩
set_option maxHeartbeats 4000000 in
theorem Pair_calls (a b : Nm) (w : World) : Calls Tryd.prog 49 #[a.val, b.val] w fun e w' => e = .returned (pairX a b).val ∧ Ext w w' := by
  unfold Nm.val
  obtain ⟨P, hP⟩ : ∃ P, P = pairX a b := ⟨_, rfl⟩
  rw [← hP]
  have HP := Lib.hid hP
  clear hP
  go_enter Tryd.func49, Tryd.ntmps49
  obtain ⟨W, hW⟩ : ∃ W, W = ((w.alloc (.cells #[.int .u8 a.y, .int .i64 a.n] 41)).alloc (.cells #[.int .u8 b.y, .int .i64 b.n] 41)).alloc (.cells #[.int .u8 0, .int .i64 0, .int .u8 0, .int .i64 0, .int .i64 0] 52) := ⟨_, rfl⟩
  have hA : BN W w.heap.size a := by rw [hW]; exact (BN.new w a).ext (((Ext.refl _).alloc _).alloc _)
  have hB : BN W (w.heap.size + 1) b := by rw [hW]; have := (BN.new (w.alloc (.cells #[.int .u8 a.y, .int .i64 a.n] 41)) b).ext ((Ext.refl _).alloc (.cells #[.int .u8 0, .int .i64 0, .int .u8 0, .int .i64 0, .int .i64 0] 52)); simpa using this
  have hC : B5 W (w.heap.size + 1 + 1) Xg.zero 52 := by rw [hW]; have := B5.new ((w.alloc (.cells #[.int .u8 a.y, .int .i64 a.n] 41)).alloc (.cells #[.int .u8 b.y, .int .i64 b.n] 41)) Xg.zero 52; simpa [Xg.zero, Nm.zero] using this
  have X := Lib.hid (show Ext w W by rw [hW]; exact (((Ext.refl _).alloc _).alloc _).alloc _)
  have HA := Lib.hid hA; have HB := Lib.hid hB; have HC := Lib.hid hC; have HW := Lib.hid hW
  clear hA hB hC hW
  go_wp2_with fail
  rw [← HW.out]
  refine (Compare_calls a b W).mono ?_
  rintro e w3 ⟨rfl, x⟩
  have X3 := Lib.hid (X.out.trans x)
  have bA := HA.out.ext x; have bB := HB.out.ext x; have bC := HC.out.ext x
  have hs := x.size
  have hs0 : W.heap.size = w.heap.size + 1 + 1 + 1 := by rw [HW.out]; simp
  have l0 : w.heap.size < w3.heap.size := by omega
  have l1 : w.heap.size + 1 < w3.heap.size := by omega
  have l2 : w.heap.size + 1 + 1 < w3.heap.size := by omega
  obtain ⟨a0, a1⟩ := bA.at; obtain ⟨b0, b1⟩ := bB.at; obtain ⟨c0, c1, c2, c3, c4⟩ := bC.at
  simp only [Nat.zero_add] at a1 b1 c1 c2 c3 c4
  have fa : ∀ o, w3.frozen? ⟨w.heap.size, o, none⟩ = false := fun o => by unfold BN at bA; simp [World.frozen?, bA]
  have fb : ∀ o, w3.frozen? ⟨w.heap.size + 1, o, none⟩ = false := fun o => by unfold BN at bB; simp [World.frozen?, bB]
  have fc : ∀ o, w3.frozen? ⟨w.heap.size + 1 + 1, o, none⟩ = false := fun o => by unfold B5 at bC; simp [World.frozen?, bC]
  clear x hs hs0 bA bB bC
  by_cases hp : 0 < cmpN a b
  · have hpx : P = ⟨b, a, 0⟩ := by rw [HP.out]; exact if_pos hp
    clear HP
    subst hpx
    generalize cmpN a b = C at hp ⊢
    go_wp2
    refine bodyPost_ret (v := .agg #[.int .u8 b.y, .int .i64 b.n, .int .u8 a.y, .int .i64 a.n, .int .i64 0]) (by simp [results, Tryd.results49, go_sem, a0, a1, b0, b1, c0, c1, c2, c3, c4, fa, fb, fc, l0, l1, l2]) rfl ⟨rfl, ?_⟩
    repeat' apply Ext.setCell
    all_goals first | exact X3.out | (dsimp only; omega)
  · have hpx : P = ⟨a, b, 0⟩ := by rw [HP.out]; exact if_neg hp
    clear HP
    subst hpx
    generalize cmpN a b = C at hp ⊢
    go_wp2
    refine bodyPost_ret (v := .agg #[.int .u8 a.y, .int .i64 a.n, .int .u8 b.y, .int .i64 b.n, .int .i64 0]) (by simp [results, Tryd.results49, go_sem, a0, a1, b0, b1, c0, c1, c2, c3, c4, fa, fb, fc, l0, l1, l2]) rfl ⟨rfl, ?_⟩
    repeat' apply Ext.setCell
    all_goals first | exact X3.out | (dsimp only; omega)
end Go.Proofs.YtlhkehfplcclgaaDoor
/- Slices of structs of k cells: append, copy, make. -/
namespace Go.Proofs.YtlhkehfplcclgaaDoor
set_option linter.unusedVariables false
set_option linter.unusedSimpArgs false
set_option maxRecDepth 8000
open Go Go.RowKit

/-- Each has k cells, each of one cell. -/
def Ks (k : Nat) (xs : List (List Value)) : Prop := ∀ x ∈ xs, x.length = k ∧ ∀ v ∈ x, v.oneCell' = true
theorem Ks.app {k : Nat} {xs ys : List (List Value)} (h : Ks k xs) (g : Ks k ys) : Ks k (xs ++ ys) := fun x hx => by
  rcases List.mem_append.1 hx with hx | hx
  · exact h x hx
  · exact g x hx
theorem Ks.len {k : Nat} : ∀ {xs : List (List Value)}, Ks k xs → xs.flatten.length = xs.length * k
  | [], _ => by simp
  | x :: xs, h => by
    have ih := Ks.len (k := k) (xs := xs) fun y hy => h y (by simp [hy])
    rw [List.flatten_cons, List.length_append, ih, (h x (by simp)).1, List.length_cons, Nat.add_mul]; omega
theorem Ks.one {k : Nat} {xs : List (List Value)} (h : Ks k xs) : ∀ v ∈ xs.flatten, v.oneCell' = true := fun v hv => by
  obtain ⟨x, hx, hv⟩ := List.mem_flatten.1 hv
  exact (h x hx).2 v hv
theorem Ks.get {k : Nat} : ∀ {xs : List (List Value)}, Ks k xs → ∀ i j, i < xs.length → j < k → xs.flatten[i * k + j]? = some ((xs.getD i []).getD j undef)
  | [], _, i, j, hi, _ => by simp at hi
  | x :: xs, h, 0, j, hi, hj => by
    have hx := (h x (by simp)).1
    rw [List.flatten_cons, Nat.zero_mul, Nat.zero_add, List.getElem?_append_left (by omega)]
    simp [List.getD, hx, hj]
  | x :: xs, h, i + 1, j, hi, hj => by
    have hx := (h x (by simp)).1
    have ih := Ks.get (k := k) (xs := xs) (fun y hy => h y (by simp [hy])) i j (by simp at hi; omega) hj
    rw [List.flatten_cons, List.getElem?_append_right (by rw [hx, Nat.add_mul]; omega), hx, show (i + 1) * k + j - k = i * k + j by rw [Nat.add_mul]; omega, ih]
    rfl
theorem Ks.nm (l : List Nm) : Ks 2 (l.map Nm.cs) := fun x hx => by
  obtain ⟨a, _, rfl⟩ := List.mem_map.1 hx
  exact ⟨rfl, fun v hv => by simp [Nm.cs] at hv; rcases hv with rfl | rfl <;> rfl⟩
theorem Ks.ps (l : List Ps) : Ks 4 (l.map Ps.cs) := fun x hx => by
  obtain ⟨a, _, rfl⟩ := List.mem_map.1 hx
  exact ⟨rfl, fun v hv => by simp [Ps.cs] at hv; rcases hv with rfl | rfl | rfl | rfl <;> rfl⟩
theorem Ks.xg (l : List Xg) : Ks 5 (l.map Xg.cs) := fun x hx => by
  obtain ⟨a, _, rfl⟩ := List.mem_map.1 hx
  exact ⟨rfl, fun v hv => by simp [Xg.cs] at hv; rcases hv with rfl | rfl | rfl | rfl | rfl <;> rfl⟩
/-- A block whose first cells are those of xs. -/
theorem CK.of_blk {k : Nat} {w : World} {g n c : Nat} {cur : Array Value} {t : TypeId} {xs : List (List Value)} (h : w.heap[g]? = some (.cells cur t (0, 0))) (hk : Ks k xs) (hn : n = xs.length) (hc : n ≤ c) (hc9 : c ≤ 9223372036854775807) (ht : cur.toList.take (n * k) = xs.flatten) :
    CK k w (.slice (some ⟨g, 0, none⟩) n c) c xs := by
  subst hn
  refine ⟨_, rfl, hc, hc9, .inr ⟨g, 0, rfl, fun i hi j hj => ?_⟩⟩
  have hx : (xs.getD i []).length = k := by
    have : xs.getD i [] = xs[i] := by simp [List.getD, hi]
    rw [this]; exact (hk _ (List.getElem_mem hi)).1
  rw [hx] at hj
  have h2 := hk.get i j hi hj
  rw [← ht] at h2
  have hlt : i * k + j < xs.length * k := by
    have : (i + 1) * k ≤ xs.length * k := Nat.mul_le_mul_right k (by omega)
    rw [Nat.add_mul] at this; omega
  rw [List.getElem?_take_of_lt hlt, Array.getElem?_toList] at h2
  rw [Nat.zero_add]
  simp [World.cell?, h, h2]
theorem CK.of_own {k B n : Nat} {w : World} {e : TypeId} {v : Value} {xs : List (List Value)} (h : w.ownsRow B e k v n xs.flatten) (hk : Ks k xs) (hn : n = xs.length) (hk0 : 0 < k) : ∃ c, CK k w v c xs := by
  obtain ⟨h1, ⟨rfl, h0⟩ | ⟨g, cap, cur, rfl, h2, h3, h4, h5, h6, h7⟩⟩ := h
  · obtain rfl : xs = [] := List.eq_nil_of_length_eq_zero (by omega)
    exact ⟨0, CK.nil _ _⟩
  · exact ⟨cap, CK.of_blk h3 hk hn h4 (by unfold maxLen at h5; omega) h7⟩
theorem CK.news {k : Nat} {w : World} {v : Value} {c : Nat} {xs : List (List Value)} (h : CK k w v c xs) (hk : Ks k xs) (hk0 : 0 < k) : ∃ ao, v = .slice ao xs.length c ∧ (ao = none → xs = []) ∧ ∀ ad, ao = some ad → ∀ j u, xs.flatten[j]? = some u → w.cell? (ad.add j) = some u := by
  obtain ⟨ao, h1, h2, h3, h4⟩ := h.op
  refine ⟨ao, h1, fun h0 => ?_, fun ad had j u hu => ?_⟩
  · cases xs with
    | nil => rfl
    | cons x xs => obtain ⟨b, o, e, _⟩ := h4 0 (by simp); rw [h0] at e; cases e
  · have hlt := (List.getElem?_eq_some_iff.1 hu).1
    rw [hk.len] at hlt
    have hi : j / k < xs.length := (Nat.div_lt_iff_lt_mul hk0).2 hlt
    have hj : j % k < k := Nat.mod_lt _ hk0
    obtain ⟨b, o, e, hc⟩ := h4 _ hi
    rw [had] at e
    cases e
    have hx : (xs.getD (j / k) []).length = k := by
      have : xs.getD (j / k) [] = xs[j / k] := by simp [List.getD, hi]
      rw [this]; exact (hk _ (List.getElem_mem hi)).1
    have h5 := hc (j % k) (by rw [hx]; exact hj)
    have h6 := hk.get _ _ hi hj
    rw [show j / k * k + j % k = j by rw [Nat.mul_comm]; exact Nat.div_add_mod j k, hu] at h6
    rw [← Option.some.inj h6] at h5
    rw [Addr.add_lit]
    rw [show o + j / k * k + j % k = o + j by rw [Nat.add_assoc, Nat.mul_comm (j / k) k, Nat.div_add_mod]] at h5
    exact h5
/-- What a type of k cells is. -/
structure EK (P : Program) (t e : TypeId) (z : Value) (k bytes : Nat) : Prop where
  und : P.underlying t = some (.slice e)
  info : (P.info? e).map (fun i => (i.zero, i.size, i.bytes)) = some (some z, k, bytes)
  zs : z.cells.size = k
  k0 : 0 < k
theorem copy_run {P : Program} {t e : TypeId} {z : Value} {k bytes : Nat} (ek : EK P t e z k bytes) (w : World) (ty : TypeId) (g n c : Nat) (sv : Value) (xs : List (List Value)) (hx : CK k w sv c xs) (hk : Ks k xs) (hn : n = xs.length) (cur : Array Value) (te : TypeId)
    (hg : w.heap[g]? = some (.cells cur te (0, 0))) (hcur : cur.size = n * k) :
    (Builtin.copy_ #[t, t] ty #[.slice (some ⟨g, 0, none⟩) n n, sv]).run P w = .ok (goInt n) (w.setRow g xs.flatten.toArray) := by
  obtain ⟨i, hi, hz0, hz1, hz2⟩ := info_parts ek.info
  obtain ⟨ao, rfl, hno, hnews⟩ := hx.news hk ek.k0
  subst hn
  have hst := run_storeCells_at P g 0 te xs.flatten 0 cur w hg (by rw [hk.len, hcur]; omega) hk.one
  have hrow : (cur.toList.take (0 + 0) ++ xs.flatten ++ cur.toList.drop (0 + 0 + xs.flatten.length)) = xs.flatten := by
    have : cur.toList.drop (0 + 0 + xs.flatten.length) = [] := List.drop_eq_nil_of_le (by rw [hk.len, Array.length_toList, hcur]; omega)
    rw [this]; simp
  rw [hrow] at hst
  have hf : (Builtin.firstCells k xs.length (.slice ao xs.length c)).run P w = .ok xs.flatten.toArray w := by
    cases ao with
    | none =>
      obtain rfl := hno rfl
      rfl
    | some ad => exact run_firstCells_some (P := P) w k xs.length ad xs.length c xs.flatten hk.len (hnews ad rfl)
  simp [Builtin.copy_, run_underlying ek.und, Builtin.lenOf, sizeOf, typeInfo, hi, hz1, hf, hst]
/-- append(s, x...), s the call's own. -/
theorem app_k {P : Program} {t e : TypeId} {z : Value} {k bytes : Nat} (ek : EK P t e z k bytes) {w : World} {ops : Array Oper} {rest : List Oper} {o : Oper} {a : Act} {Q : Exit → Act → World → Prop}
    (hg : o.guard = none) (s x : Operand) (hop : o.op = Op.call { callee := Callee.builtin Builtin.append, args := #[s, x], argTypes := #[t, t] })
    (B : Nat) (v : Value) (n : Nat) (xs : List (List Value)) (hs : a.eval s = v) (hown : w.ownsRow B e k v n xs.flatten)
    (y : Value) (c : Nat) (ys : List (List Value)) (hx : a.eval x = y) (hy : CK k w y c ys) (hk : Ks k ys)
    (hlen : (n + ys.length) * bytes ≤ 140737488355328) (hlen2 : n + ys.length ≤ 140737488355328) (hB : B ≤ w.heap.size)
    (hK : ∀ v' w', w'.ownsRow B e k v' (n + ys.length) (xs ++ ys).flatten → w.grownBy w' v.ownBlock → wpList P ops Q rest (a.put o.dst v') w') :
    wpList P ops Q (o :: rest) a w := by
  obtain ⟨i, hi, hz0, hz1, hz2⟩ := info_parts ek.info
  obtain ⟨ao, rfl, hno, hc⟩ := hy.news hk ek.k0
  cases ao with
  | none =>
    obtain rfl := hno rfl
    have hc0 : c = 0 := by
      obtain ⟨ao, e1, _, _, e2⟩ := hy
      cases e1
      rcases e2 with e2 | ⟨_, _, e2, _⟩
      · exact e2
      · cases e2
    subst hc0
    exact wpList_append_own_none hg s x t hop B e i k ek.und hi v n xs.flatten hs hown hx (hK v w (by simpa using hown) (World.grownBy.refl _ _))
  | some ad =>
    refine wpList_append_own w hg s x t hop B e i z k bytes ek.und hi hz0 hz1 hz2 ek.zs ek.k0 v n xs.flatten hs hown ad ys.length c ys.flatten hx hk.len (hc ad rfl) hk.one (by unfold maxLen; omega) hlen hB ?_
    intro v' w' h2 h3 _
    exact hK v' w' (by rw [List.flatten_append]; exact h2) h3
theorem own_none (w : World) (B : Nat) (e : TypeId) (k : Nat) : w.ownsRow B e k (.slice none 0 0) 0 ([] : List (List Value)).flatten := ⟨by simp, .inl ⟨rfl, rfl⟩⟩
theorem setRow_grown (w : World) (g : Nat) (cs : Array Value) : w.grownBy (w.setRow g cs) (some g) := ⟨rfl, rfl, rfl, by simp [World.setRow], fun k _ hk => setRow_other w g k cs (fun e => hk (by rw [e]))⟩
theorem wpList_copy_k {P : Program} {t e : TypeId} {z : Value} {k bytes : Nat} (ek : EK P t e z k bytes) {w : World} {ops : Array Oper} {rest : List Oper} {o : Oper} {a : Act} {Q : Exit → Act → World → Prop} (hgd : o.guard = none) (d s : Operand)
    (ho : o.op = .call { callee := .builtin .copy, args := #[d, s], argTypes := #[t, t] }) (g n : Nat) (hd : a.eval d = .slice (some ⟨g, 0, none⟩) n n) (sv : Value) (c : Nat) (xs : List (List Value)) (hs : a.eval s = sv) (hx : CK k w sv c xs) (hk : Ks k xs) (hn : n = xs.length)
    (cur : Array Value) (te : TypeId) (hg : w.heap[g]? = some (.cells cur te (0, 0))) (hcur : cur.size = n * k)
    (h : ∀ w', w'.heap[g]? = some (.cells xs.flatten.toArray te (0, 0)) → w.grownBy w' (some g) → wpList P ops Q rest (a.put o.dst (.int .i64 n)) w') : wpList P ops Q (o :: rest) a w := by
  refine wpList_plain hgd fun K hK => ?_
  have hrun := copy_run ek w o.type g n c sv xs hx hk hn cur te hg hcur
  unfold Oper.wp
  simp [execOp, ho, resolve, invoke, builtin, hd, hs, hrun, Result.andThen]
  exact hK _ _ (h _ (setRow_heap w g cur _ te _ hg) (setRow_grown _ _ _))
theorem make_k {P : Program} {t e : TypeId} {z : Value} {k bytes : Nat} (ek : EK P t e z k bytes) (hb : bytes ≤ 1000) (n : Nat) (hn : n ≤ 1000000) (kl kc : IntKind) (w : World) :
    (Instr.makeSlice t (.int kl (n : Int)) (.int kc (n : Int))).run P w = .ok (.slice (some ⟨w.heap.size, 0, none⟩) n n) (w.alloc (.cells (madeCells z.cells (n * k)) e)) := by
  obtain ⟨i, hi, hz0, hz1, hz2⟩ := info_parts ek.info
  have h2 : bytes * n ≤ 1000 * 1000000 := Nat.mul_le_mul hb hn
  have h3 : ((bytes * n : Nat) : Int) = (bytes : Int) * (n : Int) := Int.natCast_mul _ _
  have hr := run_make (P := P) w t e i z ek.und hi hz0 kl kc n n (by omega) (Int.le_refl _) (by rw [hz2]; omega) (by omega)
  simp only [Int.toNat_natCast, hz1] at hr
  exact hr
theorem ekN : EK Tryd.prog 33 41 (.agg #[.int .u8 0, .int .i64 0]) 2 16 := ⟨Tryd.underlying33, by kernel_rfl, rfl, by decide⟩
theorem ekP : EK Tryd.prog 44 50 (.agg #[.int .u8 0, .int .i64 0, .bool false, .int .u8 0]) 4 24 := ⟨Tryd.underlying44, by kernel_rfl, rfl, by decide⟩
theorem ekX : EK Tryd.prog 32 52 (.agg #[.int .u8 0, .int .i64 0, .int .u8 0, .int .i64 0, .int .i64 0]) 5 40 := ⟨Tryd.underlying32, by kernel_rfl, rfl, by decide⟩
theorem ekL : EK Tryd.prog 47 46 (.agg #[.int .u8 0, .bool false, .slice none 0 0, .slice none 0 0]) 4 56 := ⟨Tryd.underlying47, by kernel_rfl, rfl, by decide⟩
/-- A copy: a fresh block of the same cells. -/
def RetK (w0 : World) (e : TypeId) (xs : List (List Value)) (en : Ending) (w' : World) : Prop :=
  ∃ g n, n = xs.length ∧ en = .returned (.slice (some ⟨g, 0, none⟩) n n) ∧ w0.heap.size ≤ g ∧ w'.heap[g]? = some (.cells xs.flatten.toArray e (0, 0)) ∧ Ext w0 w'
end Go.Proofs.YtlhkehfplcclgaaDoor
