/- More for walks: two rows of the call's own that grow side by side. -/
import Derived.Test.YtpcbadagffeehaaLibb
import Derived.Deep.AppendLies
namespace Go.Proofs.Ytpcbadagffeehaa
set_option linter.unusedVariables false
set_option linter.unusedSimpArgs false
open Go Go.RowKit

theorem own_block {w : World} {B : Nat} {e : TypeId} {v : Value} {n g : Nat} {xs : List Value} (h : w.ownsRow B e 1 v n xs) (hg : v.ownBlock = some g) : ∃ cur, w.heap[g]? = some (.cells cur e (0, 0)) ∧ g < w.heap.size := by
  obtain ⟨_, h⟩ := h
  rcases h with ⟨rfl, _⟩ | ⟨g', cap, cur, rfl, _, hh, _⟩
  · cases hg
  · obtain rfl : g' = g := by simpa [Value.ownBlock] using hg
    refine ⟨cur, hh, ?_⟩
    rcases Nat.lt_or_ge g' w.heap.size with hlt | hge
    · exact hlt
    · rw [Array.getElem?_eq_none hge] at hh; cases hh
/-- A row keeps when another row has grown. -/
theorem grown_own {w w' : World} {B : Nat} {e : TypeId} {v : Value} {n : Nat} {xs : List Value} {r : Option Nat} (h : w.ownsRow B e 1 v n xs) (hg : w.grownBy w' r) (hr : ∀ g, v.ownBlock = some g → some g ≠ r) : w'.ownsRow B e 1 v n xs := by
  have hb := fun g hv => own_block (g := g) h hv
  obtain ⟨hl, h⟩ := h
  refine ⟨hl, ?_⟩
  rcases h with h | ⟨g, cap, cur, rfl, hB, hh, hrest⟩
  · exact .inl h
  · obtain ⟨_, _, hlt⟩ := hb g rfl
    exact .inr ⟨g, cap, cur, rfl, hB, (hg.block g hlt (hr g rfl)).trans hh, hrest⟩
theorem own_alloc {w : World} {B : Nat} {e : TypeId} {v : Value} {n : Nat} {xs : List Value} (h : w.ownsRow B e 1 v n xs) (o : Obj) : (w.alloc o).ownsRow B e 1 v n xs := World.ownsRow.alloc h o
/-- Rows of different types lie in different blocks. -/
theorem own_apart {w : World} {B B' : Nat} {e e' : TypeId} {v v' : Value} {n n' : Nat} {xs xs' : List Value} (h : w.ownsRow B e 1 v n xs) (h' : w.ownsRow B' e' 1 v' n' xs') (he : e ≠ e') : ∀ g, v.ownBlock = some g → some g ≠ v'.ownBlock := by
  intro g hg hh
  obtain ⟨c, hc, _⟩ := own_block h hg
  obtain ⟨c', hc', _⟩ := own_block h' hh.symm
  rw [hc] at hc'
  simp at hc'
  exact he hc'.2

/-- 'append(s, x...)', s the call's own, x not empty: where the new row lies. -/
theorem app_lies {P : Program} {t e : TypeId} {z : Value} {bytes : Nat} (ei : EI P t e z bytes) {w : World} {ops : Array Oper} {rest : List Oper} {o : Oper} {a : Act} {Q : Exit → Act → World → Prop}
    (hg : o.guard = none) (s x : Operand) (hop : o.op = Op.call { callee := Callee.builtin Builtin.append, args := #[s, x], argTypes := #[t, t] })
    (B : Nat) (v : Value) (n : Nat) (xs : List Value) (hs : a.eval s = v) (hown : w.ownsRow B e 1 v n xs)
    (y : Value) (c : Nat) (ys : List Value) (hx : a.eval x = y) (hy : VS w y c ys) (h1 : ∀ u ∈ ys, u.oneCell' = true)
    (hbytes : (n + ys.length) * bytes ≤ 140737488355328) (hlen : n + ys.length ≤ 140737488355328) (hB : B ≤ w.heap.size) (hm : 0 < ys.length)
    (hK : ∀ g cap w', w'.ownsRow B e 1 (.slice (some ⟨g, 0, none⟩) (n + ys.length) cap) (n + ys.length) (xs ++ ys) → w.grownBy w' v.ownBlock → (v.ownBlock = some g ∨ g = w.heap.size) → wpList P ops Q rest (a.put o.dst (.slice (some ⟨g, 0, none⟩) (n + ys.length) cap)) w') :
    wpList P ops Q (o :: rest) a w := by
  obtain ⟨i, hi, hz0, hz1, hz2⟩ := info_parts ei.info
  obtain ⟨ao, rfl, hl, hmx, hno, hc⟩ := hy
  have hzs : z.cells.size = 1 := by rw [ei.cell]; rfl
  cases ao with
  | none => have := hno rfl; omega
  | some ad =>
    refine wpList_append_lies w hg s x t hop B e i z 1 bytes ei.und hi hz0 hz1 hz2 hzs (by decide) v n xs hs hown ad ys.length c ys hx (by simp) (VS.cells hl hc ad rfl) h1 hm (by unfold maxLen; omega) hbytes hB _ rfl ?_
    intro g cap w' h2 h3 h4 _
    exact hK g cap w' h2 h3 h4

/-- A row of rows of one number each, and a row of the numbers. -/
structure Two (eI eR : TypeId) (w wr : World) (want ones : Value) (k : Nat) (q : Nat → Nat) : Prop where
  hext : Ext w wr
  hones : wr.ownsRow w.heap.size eI 1 ones k ((List.range k).map fun j : Nat => .int .i64 ((j : Int) + 1))
  hwant : wr.ownsRow w.heap.size eR 1 want k ((List.range k).map fun j => .slice (some ⟨q j, 0, none⟩) 1 1)
  hrows : ∀ j, j < k → wr.heap[q j]? = some (.cells #[.int .i64 ((j : Int) + 1)] eI (0, 0)) ∧ ones.ownBlock ≠ some (q j)

theorem heap_lt {w : World} {b : Nat} {o : Obj} (h : w.heap[b]? = some o) : b < w.heap.size := by
  rcases Nat.lt_or_ge b w.heap.size with hlt | hge
  · exact hlt
  · rw [Array.getElem?_eq_none hge] at h; cases h

theorem Two.step {eI eR : TypeId} (he : eI ≠ eR) {w wr w1 w2 : World} {want ones : Value} {k : Nat} {q : Nat → Nat} (h : Two eI eR w wr want ones k q)
    {g1 g2 c1 c2 : Nat} {want' ones' : Value} (hw1 : want' = .slice (some ⟨g1, 0, none⟩) (k + 1) c1) (hw2 : ones' = .slice (some ⟨g2, 0, none⟩) (k + 1) c2)
    (hown1 : w1.ownsRow w.heap.size eR 1 want' (k + 1) (((List.range k).map fun j => .slice (some ⟨q j, 0, none⟩) 1 1) ++ [.slice (some ⟨wr.heap.size, 0, none⟩) 1 1]))
    (hgr1 : ((wr.alloc (.cells #[.int .i64 ((k : Int) + 1)] eI)).alloc (.cells #[.slice (some ⟨wr.heap.size, 0, none⟩) 1 1] eR)).grownBy w1 want.ownBlock)
    (hown2 : w2.ownsRow w.heap.size eI 1 ones' (k + 1) (((List.range k).map fun j : Nat => .int .i64 ((j : Int) + 1)) ++ [.int .i64 ((k : Int) + 1)]))
    (hgr2 : (w1.alloc (.cells #[.int .i64 ((k : Int) + 1)] eI)).grownBy w2 ones.ownBlock) (hat : ones.ownBlock = some g2 ∨ g2 = (w1.alloc (.cells #[.int .i64 ((k : Int) + 1)] eI)).heap.size) :
    Two eI eR w w2 want' ones' (k + 1) (fun j => if j = k then wr.heap.size else q j) := by
  obtain ⟨wb, hwb⟩ : ∃ wb, wb = (wr.alloc (.cells #[.int .i64 ((k : Int) + 1)] eI)).alloc (.cells #[.slice (some ⟨wr.heap.size, 0, none⟩) 1 1] eR) := ⟨_, rfl⟩
  have hsb : wb.heap.size = wr.heap.size + 2 := by rw [hwb]; simp
  have hxb : Ext w wb := by rw [hwb]; exact (h.hext.alloc _).alloc _
  have hob : wb.ownsRow w.heap.size eI 1 ones k ((List.range k).map fun j : Nat => .int .i64 ((j : Int) + 1)) := by rw [hwb]; exact own_alloc (own_alloc h.hones _) _
  have hab : wb.ownsRow w.heap.size eR 1 want k ((List.range k).map fun j => .slice (some ⟨q j, 0, none⟩) 1 1) := by rw [hwb]; exact own_alloc (own_alloc h.hwant _) _
  have hnb : wb.heap[wr.heap.size]? = some (.cells #[.int .i64 ((k : Int) + 1)] eI (0, 0)) := by
    rw [hwb, Below.heap_alloc _ _ _ (by simp)]; exact Deep.blk_alloc_new _ _
  have hrb : ∀ j, j < k → wb.heap[q j]? = some (.cells #[.int .i64 ((j : Int) + 1)] eI (0, 0)) := fun j hj => by
    have hlt := heap_lt (h.hrows j hj).1
    rw [hwb, Below.heap_alloc _ _ _ (by simp; omega), Below.heap_alloc _ _ _ hlt]; exact (h.hrows j hj).1
  rw [← hwb] at hgr1
  have hno : ones.ownBlock ≠ some wr.heap.size := fun hh => by
    obtain ⟨_, _, hlt⟩ := own_block h.hones hh
    omega
  have hwt : ∀ (b : Nat) (c : Array Value), wb.heap[b]? = some (Obj.cells c eI (0, 0)) → some b ≠ want.ownBlock := fun b c hb hh => by
    obtain ⟨cur, hcur, _⟩ := own_block hab hh.symm
    rw [hb] at hcur
    simp at hcur
    exact he hcur.2
  have hx1 : Ext w w1 := Below.trans hxb (below_of_grown hab hxb.size hgr1)
  have ho1 := grown_own hob hgr1 (own_apart hob hab he)
  have hr1 : ∀ (b : Nat) (c : Array Value), wb.heap[b]? = some (Obj.cells c eI (0, 0)) → w1.heap[b]? = some (Obj.cells c eI (0, 0)) := fun b c hb => (hgr1.block b (heap_lt hb) (hwt b c hb)).trans hb
  obtain ⟨wc, hwc⟩ : ∃ wc, wc = w1.alloc (.cells #[.int .i64 ((k : Int) + 1)] eI) := ⟨_, rfl⟩
  rw [← hwc] at hgr2 hat
  have hsc : wc.heap.size = w1.heap.size + 1 := by rw [hwc]; simp
  have hxc : Ext w wc := by rw [hwc]; exact hx1.alloc _
  have hoc : wc.ownsRow w.heap.size eI 1 ones k ((List.range k).map fun j : Nat => .int .i64 ((j : Int) + 1)) := by rw [hwc]; exact own_alloc ho1 _
  have hac : wc.ownsRow w.heap.size eR 1 want' (k + 1) (((List.range k).map fun j => .slice (some ⟨q j, 0, none⟩) 1 1) ++ [.slice (some ⟨wr.heap.size, 0, none⟩) 1 1]) := by rw [hwc]; exact own_alloc hown1 _
  have ha2 := grown_own hac hgr2 (own_apart hac hoc (Ne.symm he))
  have hr2 : ∀ (b : Nat) (c : Array Value), wb.heap[b]? = some (Obj.cells c eI (0, 0)) → ones.ownBlock ≠ some b → w2.heap[b]? = some (Obj.cells c eI (0, 0)) := fun b c hb hne => by
    have h1 := hr1 b c hb
    have hlt := heap_lt h1
    have hc : wc.heap[b]? = some (.cells c eI (0, 0)) := by rw [hwc, Below.heap_alloc _ _ _ hlt]; exact h1
    exact (hgr2.block b (by omega) (fun hh => hne hh.symm)).trans hc
  have hnew : ∀ (b : Nat) (c : Array Value), wb.heap[b]? = some (Obj.cells c eI (0, 0)) → ones.ownBlock ≠ some b → ones'.ownBlock ≠ some b := fun b c hb hne hh => by
    rw [hw2] at hh
    have hg : g2 = b := by simpa [Value.ownBlock] using hh
    have hlt := heap_lt (hr1 b c hb)
    rcases hat with hat | hat
    · exact hne (by rw [hat, hg])
    · omega
  refine ⟨Below.trans hxc (below_of_grown hoc hxc.size hgr2), ?_, ?_, fun j hj => ?_⟩
  · rw [List.range_succ, List.map_append]; exact hown2
  · have hl : ((List.range (k + 1)).map fun j => Value.slice (some ⟨(if j = k then wr.heap.size else q j), 0, none⟩) 1 1) = ((List.range k).map fun j => .slice (some ⟨q j, 0, none⟩) 1 1) ++ [.slice (some ⟨wr.heap.size, 0, none⟩) 1 1] := by
      rw [List.range_succ, List.map_append]
      congr 1
      · refine List.map_congr_left fun j hj => ?_
        have := List.mem_range.1 hj
        rw [if_neg (by omega)]
      · simp
    rw [hl]; exact ha2
  · by_cases e : j = k
    · subst e
      simp only [if_true]
      exact ⟨hr2 _ _ hnb hno, hnew _ _ hnb hno⟩
    · simp only [if_neg e]
      have := h.hrows j (by omega)
      exact ⟨hr2 _ _ (hrb j (by omega)) this.2, hnew _ _ (hrb j (by omega)) this.2⟩
end Go.Proofs.Ytpcbadagffeehaa
