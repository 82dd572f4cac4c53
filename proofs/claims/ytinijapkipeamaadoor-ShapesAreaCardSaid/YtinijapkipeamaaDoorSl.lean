/- Rows of stitches of the call's own. -/
import Derived.Test.YtinijapkipeamaaDoorSh
namespace Go.Proofs.YtinijapkipeamaaDoor
set_option linter.unusedVariables false
set_option linter.unusedSimpArgs false
set_option maxRecDepth 8000
open Go Go.RowKit

/-- The five cells of a stitch stand in f from 5 i on. -/
def F5 (f : Nat → Value) (i : Nat) (s : St) : Prop := f (i * 5) = .int .u8 s.k ∧ f (i * 5 + 1) = .int .u8 s.y ∧ f (i * 5 + 2) = .int .i64 s.a ∧ f (i * 5 + 3) = .int .i64 s.b ∧ f (i * 5 + 4) = .bool s.f
/-- Block g has room for c stitches; the first are l. -/
def RO (w : World) (g c : Nat) (l : List St) : Prop := l.length ≤ c ∧ c ≤ maxLen ∧ ∃ f, w.rowIs g 52 (c * 5) f ∧ ∀ i, i < l.length → F5 f i (si l i)
theorem RO.ext {w w' : World} {g c : Nat} {l : List St} (h : RO w g c l) (x : Ext w w') : RO w' g c l := by
  obtain ⟨h1, h2, f, h3, h4⟩ := h
  exact ⟨h1, h2, f, x.row h3, h4⟩
theorem RO.lt {w : World} {g c : Nat} {l : List St} (h : RO w g c l) : g < w.heap.size := by
  obtain ⟨_, _, f, h3, _⟩ := h
  exact h3.lt
theorem RO.rs {w : World} {g c : Nat} {l : List St} (h : RO w g c l) : RS w (.slice (some ⟨g, 0, none⟩) l.length c) c l := by
  obtain ⟨h1, h2, f, h3, h4⟩ := h
  refine ⟨_, rfl, h1, h2, .inr ⟨g, 0, rfl, fun i hi => ?_⟩⟩
  obtain ⟨a, b, c', d, e⟩ := h4 i hi
  rw [Nat.zero_add]
  refine ⟨?_, ?_, ?_, ?_, ?_⟩
  · rw [h3.cell (by omega), a]
  · rw [h3.cell (by omega), b]
  · rw [h3.cell (by omega), c']
  · rw [h3.cell (by omega), d]
  · rw [h3.cell (by omega), e]
theorem RO.frozen {w : World} {g c : Nat} {l : List St} (h : RO w g c l) (o : Nat) : w.frozen? ⟨g, o, none⟩ = false := by
  obtain ⟨_, _, f, h3, _⟩ := h
  exact h3.frozen o
theorem RO.shapeCell {w : World} {g c : Nat} {l : List St} (h : RO w g c l) {o : Nat} (ho : o < c * 5) : ∃ v, w.cell? ⟨g, o, none⟩ = some v := by
  obtain ⟨_, _, f, h3, _⟩ := h
  exact ⟨_, h3.cell ho⟩
theorem si_set {l : List St} {i j : Nat} {s : St} (hi : i < l.length) : si (l.set i s) j = if j = i then s else si l j := by
  unfold si
  by_cases h : j = i
  · subst h; simp [List.getD, hi]
  · rw [if_neg h]
    simp only [List.getD]
    rw [List.getElem?_set_ne (by omega)]
theorem RO.setk {w : World} {g c : Nat} {l : List St} (h : RO w g c l) {i : Nat} (hi : i < l.length) (k : Int) : RO (w.setCell ⟨g, i * 5, none⟩ (.int .u8 k)) g c (l.set i { si l i with k := k }) := by
  obtain ⟨h1, h2, f, h3, h4⟩ := h
  refine ⟨by simpa using h1, h2, _, h3.set (i * 5) _, fun j hj => ?_⟩
  rw [List.length_set] at hj
  rw [si_set hi]
  obtain ⟨a, b, c', d, e⟩ := h4 j hj
  by_cases hji : j = i
  · subst hji
    rw [if_pos rfl]
    refine ⟨if_pos rfl, ?_, ?_, ?_, ?_⟩ <;> (show (if _ then _ else _) = _; rw [if_neg (by omega)]; assumption)
  · rw [if_neg hji]
    refine ⟨?_, ?_, ?_, ?_, ?_⟩ <;> (show (if _ then _ else _) = _; rw [if_neg (by omega)]; assumption)
theorem RO.sety {w : World} {g c : Nat} {l : List St} (h : RO w g c l) {i : Nat} (hi : i < l.length) (y : Int) : RO (w.setCell ⟨g, i * 5 + 1, none⟩ (.int .u8 y)) g c (l.set i { si l i with y := y }) := by
  obtain ⟨h1, h2, f, h3, h4⟩ := h
  refine ⟨by simpa using h1, h2, _, h3.set (i * 5 + 1) _, fun j hj => ?_⟩
  rw [List.length_set] at hj
  rw [si_set hi]
  obtain ⟨a, b, c', d, e⟩ := h4 j hj
  by_cases hji : j = i
  · subst hji
    rw [if_pos rfl]
    refine ⟨?_, if_pos rfl, ?_, ?_, ?_⟩ <;> (show (if _ then _ else _) = _; rw [if_neg (by omega)]; assumption)
  · rw [if_neg hji]
    refine ⟨?_, ?_, ?_, ?_, ?_⟩ <;> (show (if _ then _ else _) = _; rw [if_neg (by omega)]; assumption)
theorem RO.setOther {w : World} {g c : Nat} {l : List St} (h : RO w g c l) {a : Addr} (ha : g ≠ a.block) (v : Value) : RO (w.setCell a v) g c l := by
  obtain ⟨h1, h2, f, h3, h4⟩ := h
  exact ⟨h1, h2, f, h3.setOther ha v, h4⟩
theorem si_rep {n i : Nat} {s : St} (hi : i < n) : si (List.replicate n s) i = s := by unfold si; simp [List.getD, hi]

/-- The zero cells of a stitch. -/
def z5 : Array Value := #[.int .u8 0, .int .u8 0, .int .i64 0, .int .i64 0, .bool false]
theorem RO.made (w : World) (n : Nat) (hn : n ≤ maxLen) : RO (w.alloc (.cells (madeCells z5 (n * 5)) 52)) w.heap.size n (List.replicate n St.none) := by
  have hz : ∀ i, i < n * 5 → (madeCells z5 (n * 5))[i]? = some (z5[i % 5]!) := fun i hi => by
    unfold madeCells
    simp [hi]
    rfl
  have hr := World.rowIs_alloc w (madeCells z5 (n * 5)) 52 (fun i => z5[i % 5]!) (fun i hi => hz i (by rw [size_madeCells] at hi; exact hi))
  rw [size_madeCells] at hr
  refine ⟨by simp, hn, _, hr, fun i hi => ?_⟩
  rw [List.length_replicate] at hi
  rw [si_rep hi]
  refine ⟨?_, ?_, ?_, ?_, ?_⟩
  · show z5[(i * 5) % 5]! = _; rw [show (i * 5) % 5 = 0 by omega]; rfl
  · show z5[(i * 5 + 1) % 5]! = _; rw [show (i * 5 + 1) % 5 = 1 by omega]; rfl
  · show z5[(i * 5 + 2) % 5]! = _; rw [show (i * 5 + 2) % 5 = 2 by omega]; rfl
  · show z5[(i * 5 + 3) % 5]! = _; rw [show (i * 5 + 3) % 5 = 3 by omega]; rfl
  · show z5[(i * 5 + 4) % 5]! = _; rw [show (i * 5 + 4) % 5 = 4 by omega]; rfl
theorem run_make_st (kl kc : IntKind) (n : Nat) (hn : n ≤ 1000000) (w : World) :
    (Instr.makeSlice 48 (.int kl (n : Int)) (.int kc (n : Int))).run Tryd.prog w = .ok (.slice (some ⟨w.heap.size, 0, none⟩) n n) (w.alloc (.cells (madeCells z5 (n * 5)) 52)) := by
  obtain ⟨i, hi, hzz⟩ := Option.map_eq_some_iff.1 (show (Tryd.prog.info? 52).map (fun i => (i.zero, i.size, i.bytes)) = some (some (.agg z5), 5, 32) by kernel_rfl)
  simp only [Prod.mk.injEq] at hzz
  obtain ⟨hz, hs, hb⟩ := hzz
  have hr := run_make (P := Tryd.prog) w 48 52 i (.agg z5) Tryd.underlying48 hi hz kl kc n n (by omega) (Int.le_refl _) (by rw [hb]; omega) (by omega)
  simp only [Int.toNat_natCast, hs] at hr
  exact hr
end Go.Proofs.YtinijapkipeamaaDoor
