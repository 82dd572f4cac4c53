/- Charts that a call makes: a block of rows, each in a block of its own. -/
import Derived.Test.YtinijapkipeamaaDoorSl
namespace Go.Proofs.YtinijapkipeamaaDoor
set_option linter.unusedVariables false
set_option linter.unusedSimpArgs false
set_option maxRecDepth 8000
open Go Go.RowKit

def up {α : Type} (f : Nat → α) (k : Nat) (x : α) : Nat → α := fun i => if i = k then x else f i
theorem up_at {α : Type} (f : Nat → α) (k : Nat) (x : α) : up f k x k = x := if_pos rfl
theorem up_ne {α : Type} (f : Nat → α) {k i : Nat} (x : α) (h : i ≠ k) : up f k x i = f i := if_neg h
/-- Block R has room for N rows; the first k are laid: rows i in block q i, of capacity cp i. -/
structure CS (w wr : World) (R N k : Nat) (rows : Nat → List St) (q cp : Nat → Nat) : Prop where
  x : Ext w wr
  r0 : w.heap.size ≤ R
  nm : N ≤ maxLen
  row : ∃ f, wr.rowIs R 48 N f ∧ ∀ i, i < k → f i = .slice (some ⟨q i, 0, none⟩) (rows i).length (cp i)
  ro : ∀ i, i < k → RO wr (q i) (cp i) (rows i) ∧ w.heap.size ≤ q i ∧ q i ≠ R
  inj : ∀ i j, i < k → j < k → q i = q j → i = j
theorem CS.start {w wr : World} {R N : Nat} {f : Nat → Value} {rows : Nat → List St} {q cp : Nat → Nat} (x : Ext w wr) (h : w.heap.size ≤ R) (hN : N ≤ maxLen) (hr : wr.rowIs R 48 N f) : CS w wr R N 0 rows q cp :=
  ⟨x, h, hN, ⟨f, hr, fun i hi => by omega⟩, fun i hi => by omega, fun i j hi => by omega⟩
theorem CS.later {w wr w' : World} {R N k : Nat} {rows : Nat → List St} {q cp : Nat → Nat} (h : CS w wr R N k rows q cp) (x : Ext wr w') : CS w w' R N k rows q cp := by
  obtain ⟨h1, h2, h3, ⟨f, h4, h5⟩, h6, h7⟩ := h
  exact ⟨h1.trans x, h2, h3, ⟨f, x.row h4, h5⟩, fun i hi => ⟨(h6 i hi).1.ext x, (h6 i hi).2⟩, h7⟩
theorem CS.cell {w wr : World} {R N k : Nat} {rows : Nat → List St} {q cp : Nat → Nat} (h : CS w wr R N k rows q cp) {i : Nat} (hi : i < k) (hk : k ≤ N) : wr.cell? ⟨R, i, none⟩ = some (.slice (some ⟨q i, 0, none⟩) (rows i).length (cp i)) := by
  obtain ⟨f, h4, h5⟩ := h.row
  rw [h4.cell (by omega), h5 i hi]
theorem CS.ex {w wr : World} {R N k : Nat} {rows : Nat → List St} {q cp : Nat → Nat} (h : CS w wr R N k rows q cp) {i : Nat} (hi : i < N) : ∃ v, wr.cell? ⟨R, i, none⟩ = some v := by
  obtain ⟨f, h4, h5⟩ := h.row
  exact ⟨_, h4.cell hi⟩
theorem CS.frozen {w wr : World} {R N k : Nat} {rows : Nat → List St} {q cp : Nat → Nat} (h : CS w wr R N k rows q cp) (i : Nat) : wr.frozen? ⟨R, i, none⟩ = false := by
  obtain ⟨f, h4, h5⟩ := h.row
  exact h4.frozen i
theorem CS.lt {w wr : World} {R N k : Nat} {rows : Nat → List St} {q cp : Nat → Nat} (h : CS w wr R N k rows q cp) : R < wr.heap.size := by
  obtain ⟨f, h4, h5⟩ := h.row
  exact h4.lt
theorem CS.congr {w wr : World} {R N k : Nat} {rows rows' : Nat → List St} {q cp : Nat → Nat} (h : CS w wr R N k rows q cp) (e : ∀ i, i < k → rows i = rows' i) : CS w wr R N k rows' q cp := by
  obtain ⟨h1, h2, h3, ⟨f, h4, h5⟩, h6, h7⟩ := h
  exact ⟨h1, h2, h3, ⟨f, h4, fun i hi => by rw [h5 i hi, e i hi]⟩, fun i hi => by rw [← e i hi]; exact h6 i hi, h7⟩
/-- A row is laid behind the others. -/
theorem CS.put {w wr : World} {R N k g c : Nat} {rows : Nat → List St} {q cp : Nat → Nat} {l : List St} (h : CS w wr R N k rows q cp) (hk : k < N) (hg : RO wr g c l) (hw : w.heap.size ≤ g) (hR : g ≠ R) (hd : ∀ i, i < k → q i ≠ g) :
    CS w (wr.setCell ⟨R, k, none⟩ (.slice (some ⟨g, 0, none⟩) l.length c)) R N (k + 1) (up rows k l) (up q k g) (up cp k c) := by
  obtain ⟨h1, h2, h3, ⟨f, h4, h5⟩, h6, h7⟩ := h
  refine ⟨h1.setCell h2 _, h2, h3, ⟨_, h4.set k _, fun i hi => ?_⟩, fun i hi => ?_, fun i j hi hj e => ?_⟩
  · by_cases e : i = k
    · subst e; simp [up]
    · rw [up_ne _ _ e, up_ne _ _ e, up_ne _ _ e, ← h5 i (by omega)]
      exact if_neg e
  · by_cases e : i = k
    · subst e; rw [up_at, up_at, up_at]
      exact ⟨hg.setOther hR _, hw, hR⟩
    · rw [up_ne _ _ e, up_ne _ _ e, up_ne _ _ e]
      obtain ⟨a, b, c'⟩ := h6 i (by omega)
      exact ⟨a.setOther c' _, b, c'⟩
  · by_cases ei : i = k
    · by_cases ej : j = k
      · omega
      · subst ei; rw [up_at, up_ne _ _ ej] at e
        exact absurd e.symm (hd j (by omega))
    · by_cases ej : j = k
      · subst ej; rw [up_at, up_ne _ _ ei] at e
        exact absurd e (hd i (by omega))
      · rw [up_ne _ _ ei, up_ne _ _ ej] at e
        exact h7 i j (by omega) (by omega) e
/-- A cell of row j is written. -/
theorem CS.set {w wr : World} {R N k j o : Nat} {rows : Nat → List St} {q cp : Nat → Nat} {v : Value} {l' : List St} (h : CS w wr R N k rows q cp) (hj : j < k) (hl : RO (wr.setCell ⟨q j, o, none⟩ v) (q j) (cp j) l') (hlen : l'.length = (rows j).length) :
    CS w (wr.setCell ⟨q j, o, none⟩ v) R N k (up rows j l') q cp := by
  obtain ⟨h1, h2, h3, ⟨f, h4, h5⟩, h6, h7⟩ := h
  refine ⟨h1.setCell (h6 j hj).2.1 _, h2, h3, ⟨f, h4.setOther (fun e => (h6 j hj).2.2 e.symm) _, fun i hi => ?_⟩, fun i hi => ?_, h7⟩
  · by_cases e : i = j
    · subst e; rw [up_at, hlen]; exact h5 i hi
    · rw [up_ne _ _ e]; exact h5 i hi
  · by_cases e : i = j
    · subst e; rw [up_at]; exact ⟨hl, (h6 i hi).2⟩
    · rw [up_ne _ _ e]
      exact ⟨(h6 i hi).1.setOther (fun c => e (h7 i j hi hj c)) _, (h6 i hi).2⟩
/-- All rows are laid. -/
theorem CS.rr {w wr : World} {R N : Nat} {rows : Nat → List St} {q cp : Nat → Nat} (h : CS w wr R N N rows q cp) : RR wr (.slice (some ⟨R, 0, none⟩) N N) N ((List.range N).map rows) := by
  have hl : ((List.range N).map rows).length = N := by simp
  have hs : ∀ i, i < N → sw ((List.range N).map rows) i = rows i := fun i hi => by rw [sw_of_lt (by rw [hl]; exact hi)]; simp
  refine ⟨_, fun i => .slice (some ⟨q i, 0, none⟩) (rows i).length (cp i), cp, by rw [hl], by omega, h.nm, .inr ⟨R, 0, rfl, fun i hi => ?_⟩, fun i hi => ?_⟩
  · rw [hl] at hi; rw [Nat.zero_add]; exact h.cell hi (Nat.le_refl _)
  · rw [hl] at hi; rw [hs i hi]; exact (h.ro i hi).1.rs
theorem sw_range {N : Nat} {rows : Nat → List St} {l : List (List St)} (hl : l.length = N) (h : ∀ i, i < N → rows i = sw l i) : (List.range N).map rows = l := by
  apply List.ext_getElem (by simpa using hl.symm)
  intro i h1 h2
  have hi : i < N := by simpa using h1
  rw [List.getElem_map, List.getElem_range, h i hi, sw_of_lt h2]
/-- A chart and an error are returned. -/
def RetCE (w0 : World) (rows : List (List St)) (err : Int) (e : Ending) (w' : World) : Prop := ∃ v, e = .returned (.tuple #[.agg #[v], .int .i64 err]) ∧ RR w' v rows.length rows ∧ Ext w0 w'
theorem eiRows : EI Tryd.prog 24 48 (.slice Option.none 0 0) 24 := ⟨Tryd.underlying24, by kernel_rfl, rfl⟩
end Go.Proofs.YtinijapkipeamaaDoor
