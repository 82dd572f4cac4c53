/- copyFabric. -/
import Derived.Test.YtlhkehfplcclgaaDoorVw
namespace Go.Proofs.YtlhkehfplcclgaaDoor
set_option linter.unusedVariables false
set_option linter.unusedSimpArgs false
set_option maxRecDepth 8000
open Go Go.RowKit

/-- The rows before y are copied. -/
structure CS (N g0 tn : Nat) (wr : World) (f : Nat → Value) (t : Tab) (y : Nat) : Prop where
  tab : wr.rowIs g0 47 tn f
  rows : ∀ i, i < y → ∃ us vs, LRo N wr (f i) (yi t i) us vs
theorem CS.ext {N g0 tn : Nat} {w w' : World} {f : Nat → Value} {t : Tab} {y : Nat} (h : CS N g0 tn w f t y) (x : Ext w w') : CS N g0 tn w' f t y :=
  ⟨x.row h.tab, fun i hi => by obtain ⟨us, vs, h1⟩ := h.rows i hi; exact ⟨us, vs, h1.ext x⟩⟩
theorem CS.setB {N g0 tn : Nat} {w : World} {f : Nat → Value} {t : Tab} {y b : Nat} (h : CS N g0 tn w f t y) (hb : b < g0) (h0 : g0 < N) (o : Nat) (v : Value) : CS N g0 tn (w.setCell ⟨b, o, none⟩ v) f t y := by
  have up := UpB.set N w ⟨b, o, none⟩ v
  have o0 : ∀ {k n : Nat} {e : TypeId} {v : Value} {xs : List Value}, w.ownsRow N e k v n xs → v.ownBlock ≠ some b := fun ho e => by have := (ho.lt b e).1; omega
  refine ⟨h.tab.setOther (fun e => by dsimp only at e; omega) v, fun i hi => ?_⟩
  obtain ⟨us, vs, h1⟩ := h.rows i hi
  exact ⟨us, vs, own_upB h1.row (o0 h1.row) up, fun i hi => own_upB (h1.u i hi) (o0 (h1.u i hi)) up, fun i hi => own_upB (h1.v i hi) (o0 (h1.v i hi)) up⟩
theorem CS.put4 {N g0 tn : Nat} {w : World} {f : Nat → Value} {t : Tab} {y b : Nat} (h : CS N g0 tn w f t y) (hb : b < g0) (h0 : g0 < N) (x' y' z' u' : Value) : CS N g0 tn ((((w.setCell ⟨b, 0, none⟩ x').setCell ⟨b, 1, none⟩ y').setCell ⟨b, 2, none⟩ z').setCell ⟨b, 3, none⟩ u') f t y := (((h.setB hb h0 _ _).setB hb h0 _ _).setB hb h0 _ _).setB hb h0 _ _
theorem blk_put4 {w : World} {b g : Nat} {o : Obj} (h : w.heap[g]? = some o) (hb : g ≠ b) (x' y' z' u' : Value) : ((((w.setCell ⟨b, 0, none⟩ x').setCell ⟨b, 1, none⟩ y').setCell ⟨b, 2, none⟩ z').setCell ⟨b, 3, none⟩ u').heap[g]? = some o := by
  rw [Below.heap_setCell _ _ _ _ hb, Below.heap_setCell _ _ _ _ hb, Below.heap_setCell _ _ _ _ hb, Below.heap_setCell _ _ _ _ hb]; exact h
theorem CS.agr {N M g0 tn : Nat} {w w' : World} {f : Nat → Value} {t : Tab} {y : Nat} (h : CS N g0 tn w f t y) (hg : M ≤ g0) (hN : M ≤ N) (u : Agr M w w') : CS N g0 tn w' f t y :=
  ⟨h.tab.of_block (u g0 hg h.tab.lt), fun i hi => by
    obtain ⟨us, vs, h1⟩ := h.rows i hi
    exact ⟨us, vs, own_agr h1.row hN u, fun i hi => own_agr (h1.u i hi) hN u, fun i hi => own_agr (h1.v i hi) hN u⟩⟩
/-- .. and of row y, in block gy, the loops before n. -/
structure CI (N g0 gy tn : Nat) (wr : World) (f : Nat → Value) (t : Tab) (y : Nat) (us vs : Nat → Value) (n : Nat) : Prop where
  c : CS N g0 tn wr f t y
  fy : f y = .slice (some ⟨gy, 0, none⟩) (yi t y).length (yi t y).length
  b : N ≤ gy
  b0 : g0 < N
  row : wr.rowIs gy 46 ((yi t y).length * 4) (LF (yi t y) us vs)
  ne : ∀ i, i < y → (f i).ownBlock ≠ some gy
  u : ∀ i, i < n → i < (yi t y).length → wr.ownsRow N 41 2 (us i) (li (yi t y) i).thr.length ((li (yi t y) i).thr.map Nm.cs).flatten
  v : ∀ i, i < n → i < (yi t y).length → wr.ownsRow N 50 4 (vs i) (li (yi t y) i).past.length ((li (yi t y) i).past.map Ps.cs).flatten
theorem CI.ext {N g0 gy tn : Nat} {w w' : World} {f : Nat → Value} {t : Tab} {y : Nat} {us vs : Nat → Value} {n : Nat} (h : CI N g0 gy tn w f t y us vs n) (x : Ext w w') : CI N g0 gy tn w' f t y us vs n :=
  ⟨h.c.ext x, h.fy, h.b, h.b0, x.row h.row, h.ne, fun i h1 h2 => own_extk (h.u i h1 h2) x, fun i h1 h2 => own_extk (h.v i h1 h2) x⟩
theorem CI.set {N g0 gy tn : Nat} {w : World} {f : Nat → Value} {t : Tab} {y : Nat} {us vs us' vs' : Nat → Value} {n : Nat} (h : CI N g0 gy tn w f t y us vs n) (o : Nat) (a : Value)
    (hL : ∀ i, i < (yi t y).length * 4 → (if i = o then a else LF (yi t y) us vs i) = LF (yi t y) us' vs' i) (hu : ∀ i, i < n → us' i = us i) (hv : ∀ i, i < n → vs' i = vs i) :
    CI N g0 gy tn (w.setCell ⟨gy, o, none⟩ a) f t y us' vs' n := by
  have up := UpB.set N w ⟨gy, o, none⟩ a
  obtain ⟨c, hb, _⟩ := h.row
  have hb0 := h.b0; have hbb := h.b
  refine ⟨⟨h.c.tab.setOther (fun e => by dsimp only at e; omega) a, fun i hi => ?_⟩, h.fy, h.b, h.b0, (h.row.set o a).congr hL, h.ne, fun i h1 h2 => ?_, fun i h1 h2 => ?_⟩
  · obtain ⟨us, vs, h1⟩ := h.c.rows i hi
    exact ⟨us, vs, h1.up (h.ne i hi) hb (by decide) (by decide) up⟩
  · rw [hu i h1]; exact own_upB (h.u i h1 h2) (own_ne_ty (h.u i h1 h2) hb (by decide)) up
  · rw [hv i h1]; exact own_upB (h.v i h1 h2) (own_ne_ty (h.v i h1 h2) hb (by decide)) up
/-- Row y is begun: its cells are those of the original. -/
theorem CI.start {N g0 gy tn : Nat} {w : World} {f : Nat → Value} {t : Tab} {y : Nat} {us vs : Nat → Value} (h : CS N g0 tn w f t y) (hb : N ≤ gy) (hb0 : g0 < N) (hk : Ks 4 (cL (yi t y) us vs)) (hne : ∀ i, i < y → (f i).ownBlock ≠ some gy)
    (hc : w.heap[gy]? = some (.cells (cL (yi t y) us vs).flatten.toArray 46 (0, 0))) :
    CI N g0 gy tn (w.setCell ⟨g0, y, none⟩ (.slice (some ⟨gy, 0, none⟩) (yi t y).length (yi t y).length)) (upV f y (.slice (some ⟨gy, 0, none⟩) (yi t y).length (yi t y).length)) t y us vs 0 := by
  have up := UpB.set N w ⟨g0, y, none⟩ (.slice (some ⟨gy, 0, none⟩) (yi t y).length (yi t y).length)
  have hfi : ∀ i, i < y → upV f y (.slice (some ⟨gy, 0, none⟩) (yi t y).length (yi t y).length) i = f i := fun i hi => by unfold upV; rw [if_neg (by omega)]
  refine ⟨⟨h.tab.set y _, fun i hi => ?_⟩, by unfold upV; rw [if_pos rfl], hb, hb0, (row_of_copy rfl hk hc).setOther (fun e => by dsimp only at e; omega) _, fun i hi => by rw [hfi i hi]; exact hne i hi, fun i h1 => by omega, fun i h1 => by omega⟩
  obtain ⟨us, vs, h1⟩ := h.rows i hi
  rw [hfi i hi]
  have o0 : ∀ {k n : Nat} {e : TypeId} {v : Value} {xs : List Value}, w.ownsRow N e k v n xs → v.ownBlock ≠ some g0 := fun ho e => by have := (ho.lt g0 e).1; omega
  exact ⟨us, vs, own_upB h1.row (o0 h1.row) up, fun i hi => own_upB (h1.u i hi) (o0 (h1.u i hi)) up, fun i hi => own_upB (h1.v i hi) (o0 (h1.v i hi)) up⟩
theorem CI.done {N g0 gy tn : Nat} {w : World} {f : Nat → Value} {t : Tab} {y : Nat} {us vs : Nat → Value} (h : CI N g0 gy tn w f t y us vs (yi t y).length) (h9 : (yi t y).length ≤ 1000000) : CS N g0 tn w f t (y + 1) := by
  refine ⟨h.c.tab, fun i hi => ?_⟩
  rcases Nat.lt_or_ge i y with h1 | h1
  · exact h.c.rows i h1
  · obtain rfl : i = y := by omega
    refine ⟨us, vs, ?_, fun j hj => h.u j hj hj, fun j hj => h.v j hj hj⟩
    rw [h.fy]
    exact own_of_lrow rfl (cL_ks fun j hj => ⟨own_one (h.u j hj hj), own_one (h.v j hj hj)⟩) h.b h9 h.row
/-- The copy is a table. -/
theorem CS.tb {N g0 tn : Nat} {w : World} {f : Nat → Value} {t : Tab} (h : CS N g0 tn w f t tn) (hn : tn = t.length) (h9 : tn ≤ 100000) : TB w (.slice (some ⟨g0, 0, none⟩) tn tn) tn t := by
  refine ⟨f, ⟨_, by rw [List.length_map, List.length_range, hn], by simp [hn], by omega, .inr ⟨g0, 0, rfl, fun i hi => ?_⟩⟩, fun i hi => ?_⟩
  · have hi' : i < tn := by simpa [hn] using hi
    intro j hj
    have e1 : ((List.range t.length).map fun i => [f i]).getD i [] = [f i] := by simp [List.getD, show i < t.length by omega]
    rw [e1] at hj ⊢
    obtain rfl : j = 0 := by simp at hj; omega
    have := h.tab.cell hi'
    simpa using this
  · obtain ⟨us, vs, h1⟩ := h.rows i (by omega)
    exact h1.to
theorem LR.kk {w : World} {v : Value} {c : Nat} {ls : List Lp} (h : LR w v c ls) : ∃ us vs, CK 4 w v c (cL ls us vs) ∧ Ks 4 (cL ls us vs) ∧ ∀ i, i < ls.length → (∃ d, NL w (us i) d (li ls i).thr) ∧ ∃ d, PL w (vs i) d (li ls i).past := by
  obtain ⟨us, vs, h1, h2⟩ := h
  refine ⟨us, vs, h1, cL_ks fun i hi => ?_, h2⟩
  obtain ⟨⟨d, h3⟩, e, h4⟩ := h2 i hi
  obtain ⟨a1, n1, e1, _⟩ := h3.open
  obtain ⟨a2, n2, e2, _⟩ := h4.open
  rw [e1, e2]; exact ⟨rfl, rfl⟩
end Go.Proofs.YtlhkehfplcclgaaDoor
