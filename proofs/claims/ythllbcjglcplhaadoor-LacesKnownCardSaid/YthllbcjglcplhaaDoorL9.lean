/- Texts of this claim in one file: libraries and walks. -/
import Derived.Deep.AppendLies
import Derived.OwnWalk
import Derived.Test.YthllbcjglcplhaaDoorL0
import Derived.Test.YthllbcjglcplhaaDoorL1
import Derived.Test.YthllbcjglcplhaaDoorL5
import Derived.Test.YthllbcjglcplhaaDoorL8
/- More for walks: two rows of the call's own that grow side by side. -/
namespace Go.Proofs.YthllbcjglcplhaaDoor
set_option linter.unusedVariables false
set_option linter.unusedSimpArgs false
open Go Go.RowKit

theorem own_block {w : World} {B : Nat} {e : TypeId} {v : Value} {n g : Nat} {xs : List Value} (h : w.ownsRow B e 1 v n xs) (hg : v.ownBlock = some g) : ∃ cur, w.heap[g]? = some (.cells cur e (0, 0)) ∧ g < w.heap.size := by
  obtain ⟨_, h⟩ := h
  rcases h with ⟨rfl, _⟩ | ⟨g', cap, cur, rfl, _, hh, _⟩
  · cases hg
  · obtain rfl : g' = g := by simpa [Value.ownBlock] using hg
    refine ⟨cur, hh, ?_⟩
    rcases Nat.lt_or_ge g' w.heap.size with hlt | hge
    · exact hlt
    · rw [Array.getElem?_eq_none hge] at hh; cases hh
/-- A row keeps when another row has grown. -/
theorem grown_own {w w' : World} {B : Nat} {e : TypeId} {v : Value} {n : Nat} {xs : List Value} {r : Option Nat} (h : w.ownsRow B e 1 v n xs) (hg : w.grownBy w' r) (hr : ∀ g, v.ownBlock = some g → some g ≠ r) : w'.ownsRow B e 1 v n xs := by
  have hb := fun g hv => own_block (g := g) h hv
  obtain ⟨hl, h⟩ := h
  refine ⟨hl, ?_⟩
  rcases h with h | ⟨g, cap, cur, rfl, hB, hh, hrest⟩
  · exact .inl h
  · obtain ⟨_, _, hlt⟩ := hb g rfl
    exact .inr ⟨g, cap, cur, rfl, hB, (hg.block g hlt (hr g rfl)).trans hh, hrest⟩
theorem own_alloc {w : World} {B : Nat} {e : TypeId} {v : Value} {n : Nat} {xs : List Value} (h : w.ownsRow B e 1 v n xs) (o : Obj) : (w.alloc o).ownsRow B e 1 v n xs := World.ownsRow.alloc h o
/-- Rows of different types lie in different blocks. -/
theorem own_apart {w : World} {B B' : Nat} {e e' : TypeId} {v v' : Value} {n n' : Nat} {xs xs' : List Value} (h : w.ownsRow B e 1 v n xs) (h' : w.ownsRow B' e' 1 v' n' xs') (he : e ≠ e') : ∀ g, v.ownBlock = some g → some g ≠ v'.ownBlock := by
  intro g hg hh
  obtain ⟨c, hc, _⟩ := own_block h hg
  obtain ⟨c', hc', _⟩ := own_block h' hh.symm
  rw [hc] at hc'
  simp at hc'
  exact he hc'.2

/-- 'append(s, x...)', s the call's own, x not empty: where the new row lies. -/
theorem app_lies {P : Program} {t e : TypeId} {z : Value} {bytes : Nat} (ei : EI P t e z bytes) {w : World} {ops : Array Oper} {rest : List Oper} {o : Oper} {a : Act} {Q : Exit → Act → World → Prop}
    (hg : o.guard = none) (s x : Operand) (hop : o.op = Op.call { callee := Callee.builtin Builtin.append, args := #[s, x], argTypes := #[t, t] })
    (B : Nat) (v : Value) (n : Nat) (xs : List Value) (hs : a.eval s = v) (hown : w.ownsRow B e 1 v n xs)
    (y : Value) (c : Nat) (ys : List Value) (hx : a.eval x = y) (hy : VS w y c ys) (h1 : ∀ u ∈ ys, u.oneCell' = true)
    (hbytes : (n + ys.length) * bytes ≤ 140737488355328) (hlen : n + ys.length ≤ 140737488355328) (hB : B ≤ w.heap.size) (hm : 0 < ys.length)
    (hK : ∀ g cap w', w'.ownsRow B e 1 (.slice (some ⟨g, 0, none⟩) (n + ys.length) cap) (n + ys.length) (xs ++ ys) → w.grownBy w' v.ownBlock → (v.ownBlock = some g ∨ g = w.heap.size) → wpList P ops Q rest (a.put o.dst (.slice (some ⟨g, 0, none⟩) (n + ys.length) cap)) w') :
    wpList P ops Q (o :: rest) a w := by
  obtain ⟨i, hi, hz0, hz1, hz2⟩ := info_parts ei.info
  obtain ⟨ao, rfl, hl, hmx, hno, hc⟩ := hy
  have hzs : z.cells.size = 1 := by rw [ei.cell]; rfl
  cases ao with
  | none => have := hno rfl; omega
  | some ad =>
    refine wpList_append_lies w hg s x t hop B e i z 1 bytes ei.und hi hz0 hz1 hz2 hzs (by decide) v n xs hs hown ad ys.length c ys hx (by simp) (VS.cells hl hc ad rfl) h1 hm (by unfold maxLen; omega) hbytes hB _ rfl ?_
    intro g cap w' h2 h3 h4 _
    exact hK g cap w' h2 h3 h4

/-- A row of rows of one number each, and a row of the numbers. -/
structure Two (eI eR : TypeId) (w wr : World) (want ones : Value) (k : Nat) (q : Nat → Nat) : Prop where
  hext : Ext w wr
  hones : wr.ownsRow w.heap.size eI 1 ones k ((List.range k).map fun j : Nat => .int .i64 ((j : Int) + 1))
  hwant : wr.ownsRow w.heap.size eR 1 want k ((List.range k).map fun j => .slice (some ⟨q j, 0, none⟩) 1 1)
  hrows : ∀ j, j < k → wr.heap[q j]? = some (.cells #[.int .i64 ((j : Int) + 1)] eI (0, 0)) ∧ ones.ownBlock ≠ some (q j)

theorem heap_lt {w : World} {b : Nat} {o : Obj} (h : w.heap[b]? = some o) : b < w.heap.size := by
  rcases Nat.lt_or_ge b w.heap.size with hlt | hge
  · exact hlt
  · rw [Array.getElem?_eq_none hge] at h; cases h

theorem Two.step {eI eR : TypeId} (he : eI ≠ eR) {w wr w1 w2 : World} {want ones : Value} {k : Nat} {q : Nat → Nat} (h : Two eI eR w wr want ones k q)
    {g1 g2 c1 c2 : Nat} {want' ones' : Value} (hw1 : want' = .slice (some ⟨g1, 0, none⟩) (k + 1) c1) (hw2 : ones' = .slice (some ⟨g2, 0, none⟩) (k + 1) c2)
    (hown1 : w1.ownsRow w.heap.size eR 1 want' (k + 1) (((List.range k).map fun j => .slice (some ⟨q j, 0, none⟩) 1 1) ++ [.slice (some ⟨wr.heap.size, 0, none⟩) 1 1]))
    (hgr1 : ((wr.alloc (.cells #[.int .i64 ((k : Int) + 1)] eI)).alloc (.cells #[.slice (some ⟨wr.heap.size, 0, none⟩) 1 1] eR)).grownBy w1 want.ownBlock)
    (hown2 : w2.ownsRow w.heap.size eI 1 ones' (k + 1) (((List.range k).map fun j : Nat => .int .i64 ((j : Int) + 1)) ++ [.int .i64 ((k : Int) + 1)]))
    (hgr2 : (w1.alloc (.cells #[.int .i64 ((k : Int) + 1)] eI)).grownBy w2 ones.ownBlock) (hat : ones.ownBlock = some g2 ∨ g2 = (w1.alloc (.cells #[.int .i64 ((k : Int) + 1)] eI)).heap.size) :
    Two eI eR w w2 want' ones' (k + 1) (fun j => if j = k then wr.heap.size else q j) := by
  obtain ⟨wb, hwb⟩ : ∃ wb, wb = (wr.alloc (.cells #[.int .i64 ((k : Int) + 1)] eI)).alloc (.cells #[.slice (some ⟨wr.heap.size, 0, none⟩) 1 1] eR) := ⟨_, rfl⟩
  have hsb : wb.heap.size = wr.heap.size + 2 := by rw [hwb]; simp
  have hxb : Ext w wb := by rw [hwb]; exact (h.hext.alloc _).alloc _
  have hob : wb.ownsRow w.heap.size eI 1 ones k ((List.range k).map fun j : Nat => .int .i64 ((j : Int) + 1)) := by rw [hwb]; exact own_alloc (own_alloc h.hones _) _
  have hab : wb.ownsRow w.heap.size eR 1 want k ((List.range k).map fun j => .slice (some ⟨q j, 0, none⟩) 1 1) := by rw [hwb]; exact own_alloc (own_alloc h.hwant _) _
  have hnb : wb.heap[wr.heap.size]? = some (.cells #[.int .i64 ((k : Int) + 1)] eI (0, 0)) := by
    rw [hwb, Below.heap_alloc _ _ _ (by simp)]; exact Deep.blk_alloc_new _ _
  have hrb : ∀ j, j < k → wb.heap[q j]? = some (.cells #[.int .i64 ((j : Int) + 1)] eI (0, 0)) := fun j hj => by
    have hlt := heap_lt (h.hrows j hj).1
    rw [hwb, Below.heap_alloc _ _ _ (by simp; omega), Below.heap_alloc _ _ _ hlt]; exact (h.hrows j hj).1
  rw [← hwb] at hgr1
  have hno : ones.ownBlock ≠ some wr.heap.size := fun hh => by
    obtain ⟨_, _, hlt⟩ := own_block h.hones hh
    omega
  have hwt : ∀ (b : Nat) (c : Array Value), wb.heap[b]? = some (Obj.cells c eI (0, 0)) → some b ≠ want.ownBlock := fun b c hb hh => by
    obtain ⟨cur, hcur, _⟩ := own_block hab hh.symm
    rw [hb] at hcur
    simp at hcur
    exact he hcur.2
  have hx1 : Ext w w1 := Below.trans hxb (below_of_grown hab hxb.size hgr1)
  have ho1 := grown_own hob hgr1 (own_apart hob hab he)
  have hr1 : ∀ (b : Nat) (c : Array Value), wb.heap[b]? = some (Obj.cells c eI (0, 0)) → w1.heap[b]? = some (Obj.cells c eI (0, 0)) := fun b c hb => (hgr1.block b (heap_lt hb) (hwt b c hb)).trans hb
  obtain ⟨wc, hwc⟩ : ∃ wc, wc = w1.alloc (.cells #[.int .i64 ((k : Int) + 1)] eI) := ⟨_, rfl⟩
  rw [← hwc] at hgr2 hat
  have hsc : wc.heap.size = w1.heap.size + 1 := by rw [hwc]; simp
  have hxc : Ext w wc := by rw [hwc]; exact hx1.alloc _
  have hoc : wc.ownsRow w.heap.size eI 1 ones k ((List.range k).map fun j : Nat => .int .i64 ((j : Int) + 1)) := by rw [hwc]; exact own_alloc ho1 _
  have hac : wc.ownsRow w.heap.size eR 1 want' (k + 1) (((List.range k).map fun j => .slice (some ⟨q j, 0, none⟩) 1 1) ++ [.slice (some ⟨wr.heap.size, 0, none⟩) 1 1]) := by rw [hwc]; exact own_alloc hown1 _
  have ha2 := grown_own hac hgr2 (own_apart hac hoc (Ne.symm he))
  have hr2 : ∀ (b : Nat) (c : Array Value), wb.heap[b]? = some (Obj.cells c eI (0, 0)) → ones.ownBlock ≠ some b → w2.heap[b]? = some (Obj.cells c eI (0, 0)) := fun b c hb hne => by
    have h1 := hr1 b c hb
    have hlt := heap_lt h1
    have hc : wc.heap[b]? = some (.cells c eI (0, 0)) := by rw [hwc, Below.heap_alloc _ _ _ hlt]; exact h1
    exact (hgr2.block b (by omega) (fun hh => hne hh.symm)).trans hc
  have hnew : ∀ (b : Nat) (c : Array Value), wb.heap[b]? = some (Obj.cells c eI (0, 0)) → ones.ownBlock ≠ some b → ones'.ownBlock ≠ some b := fun b c hb hne hh => by
    rw [hw2] at hh
    have hg : g2 = b := by simpa [Value.ownBlock] using hh
    have hlt := heap_lt (hr1 b c hb)
    rcases hat with hat | hat
    · exact hne (by rw [hat, hg])
    · omega
  refine ⟨Below.trans hxc (below_of_grown hoc hxc.size hgr2), ?_, ?_, fun j hj => ?_⟩
  · rw [List.range_succ, List.map_append]; exact hown2
  · have hl : ((List.range (k + 1)).map fun j => Value.slice (some ⟨(if j = k then wr.heap.size else q j), 0, none⟩) 1 1) = ((List.range k).map fun j => .slice (some ⟨q j, 0, none⟩) 1 1) ++ [.slice (some ⟨wr.heap.size, 0, none⟩) 1 1] := by
      rw [List.range_succ, List.map_append]
      congr 1
      · refine List.map_congr_left fun j hj => ?_
        have := List.mem_range.1 hj
        rw [if_neg (by omega)]
      · simp
    rw [hl]; exact ha2
  · by_cases e : j = k
    · subst e
      simp only [if_true]
      exact ⟨hr2 _ _ hnb hno, hnew _ _ hnb hno⟩
    · simp only [if_neg e]
      have := h.hrows j (by omega)
      exact ⟨hr2 _ _ (hrb j (by omega)) this.2, hnew _ _ (hrb j (by omega)) this.2⟩
end Go.Proofs.YthllbcjglcplhaaDoor
/- laces.Keeps, laces.Pairs. -/
namespace Go.Proofs.YthllbcjglcplhaaDoor
set_option linter.unusedVariables false
set_option linter.unusedSimpArgs false
set_option maxRecDepth 8000
open Go Go.RowKit

theorem Keeps_calls (v : Value) (c : Nat) (l : List St) (w : World) (h : RS w v c l) (hl : l.length ≤ 1000000) : Calls Tryd.prog 25 #[v] w fun e w' => e = .returned (.bool (decide (rmake l = rneed l))) ∧ Ext w w' := by
  have hM := CMakes_calls v c l w h hl
  have hN := fun w' (x : Ext w w') => CNeeds_calls v c l w' (h.ext x) hl
  obtain ⟨a, n, rfl, hn, hc, hm, hat⟩ := h.open
  generalize rmake l = P at hM ⊢
  generalize rneed l = Q at hN ⊢
  have HM := Lib.hid hM; have HN := Lib.hid hN
  clear hM hN h hn hc hm hat
  by_cases h : P = Q
  case pos =>
    subst h
    rw [decide_eq_true rfl]
    go_enter Tryd.func25, Tryd.ntmps25
    go_wp2_with fail
    refine HM.out.mono ?_
    rintro e w1 ⟨rfl, x1⟩
    have X1 := Lib.hid x1
    clear x1
    go_wp2_with fail
    refine (HN.out _ X1.out).mono ?_
    rintro e w2 ⟨rfl, x2⟩
    have X2 := Lib.hid (X1.out.trans x2)
    clear x2
    go_wp2
    go_ret
    exact ⟨rfl, X2.out⟩
  have hb : (P == Q) = false := beq_eq_false_iff_ne.2 h
  rw [decide_eq_false h]
  clear h
  go_enter Tryd.func25, Tryd.ntmps25
  go_wp2_with fail
  refine HM.out.mono ?_
  rintro e w1 ⟨rfl, x1⟩
  have X1 := Lib.hid x1
  clear x1
  go_wp2_with fail
  refine (HN.out _ X1.out).mono ?_
  rintro e w2 ⟨rfl, x2⟩
  have X2 := Lib.hid (X1.out.trans x2)
  clear x2
  go_wp2
  go_ret
  exact ⟨rfl, X2.out⟩
/-- Two lists of numbers that grow side by side. -/
structure TwoL (w wr : World) (va vb : Value) (xs ys : List Int) : Prop where
  x : Ext w wr
  a : wr.ownsRow w.heap.size 3 1 va xs.length (xs.map (Value.int .i64))
  b : wr.ownsRow w.heap.size 3 1 vb ys.length (ys.map (Value.int .i64))
  ap : ∀ g, va.ownBlock = some g → some g ≠ vb.ownBlock
theorem TwoL.swap {w wr : World} {va vb : Value} {xs ys : List Int} (h : TwoL w wr va vb xs ys) : TwoL w wr vb va ys xs := ⟨h.x, h.b, h.a, fun g hg e => h.ap g e.symm hg.symm⟩
theorem TwoL.later {w wr w' : World} {va vb : Value} {xs ys : List Int} (h : TwoL w wr va vb xs ys) (x : Ext wr w') : TwoL w w' va vb xs ys := ⟨h.x.trans x, own_ext h.a x, own_ext h.b x, h.ap⟩
theorem TwoL.nil {w wr : World} (x : Ext w wr) : TwoL w wr (.slice none 0 0) (.slice none 0 0) [] [] := ⟨x, World.ownsRow_nil _ _ _ _, World.ownsRow_nil _ _ _ _, fun g hg => by cases hg⟩
theorem TwoL.push {w wr w' : World} {va vb : Value} {xs ys : List Int} {x : Int} {g cap : Nat} (h : TwoL w wr va vb xs ys) (ho : w'.ownsRow w.heap.size 3 1 (.slice (some ⟨g, 0, none⟩) (xs.length + [Value.int .i64 x].length) cap) (xs.length + [Value.int .i64 x].length) (xs.map (Value.int .i64) ++ [Value.int .i64 x])) (hg : wr.grownBy w' va.ownBlock) (hl : va.ownBlock = some g ∨ g = wr.heap.size) : TwoL w w' (.slice (some ⟨g, 0, none⟩) (xs.length + [Value.int .i64 x].length) cap) vb (xs ++ [x]) ys := by
  refine ⟨h.x.grown hg fun k hk => ?_, by rw [List.length_append, List.map_append]; exact ho, grown_own h.b hg (fun k hk e => h.ap k e.symm hk.symm), fun k hk e => ?_⟩
  · obtain ⟨_, ⟨hv, _⟩ | ⟨g', c', cur, hv, hB, _⟩⟩ := h.a
    · rw [hv] at hk; cases hk
    · rw [hv] at hk; injection hk with hk; rw [← hk]; exact hB
  · obtain rfl : g = k := by simpa [Value.ownBlock] using hk
    rcases hl with hl | hl
    · exact h.ap g hl e
    · obtain ⟨_, _, hlt⟩ := own_block h.b e.symm
      omega
theorem VS.oneAt {w : World} {g : Nat} {t : TypeId} {x : Value} (h : g = w.heap.size) : VS (w.alloc (.cells #[x] t)) (.slice (some ⟨g, 0, none⟩) 1 1) 1 [x] := by
  subst h; exact VS.one _ _ _
theorem one_i (x : Int) : ∀ u ∈ [Value.int .i64 x], u.oneCell' = true := fun u hu => by
  rw [List.mem_singleton.1 hu]; rfl
theorem IS.ent {k : IntKind} {w : World} {v : Value} {c : Nat} {xs : List Int} (h : IS k w v c xs) : ∃ ao n, v = .slice ao n c ∧ n = xs.length ∧ n ≤ c ∧ c ≤ maxLen ∧ ∀ i, i < n → ∃ b o, ao = some ⟨b, o, none⟩ ∧ w.cell? ⟨b, o + i, none⟩ = some (.int k (gi xs i)) := by
  obtain ⟨h1, h2, ao, hv, hc⟩ := h.open
  refine ⟨ao, _, hv, rfl, h1, h2, fun i hi => ?_⟩
  rcases hc with ⟨_, h0, _⟩ | ⟨b, o, e, hc⟩
  · omega
  · exact ⟨b, o, e, hc i hi⟩
/-- A list of pairs, in a block of its own. -/
def PB (w : World) (v : Value) (n : Nat) (f : Nat → Int × Int) : Prop := ∃ g, v = .slice (some ⟨g, 0, Option.none⟩) n n ∧ ∀ i, i < n → w.cell? ⟨g, i * 2, Option.none⟩ = some (.int .i64 (f i).1) ∧ w.cell? ⟨g, i * 2 + 1, Option.none⟩ = some (.int .i64 (f i).2)
theorem PB.ext {w w' : World} {v : Value} {n : Nat} {f : Nat → Int × Int} (h : PB w v n f) (x : Ext w w') : PB w' v n f := by
  obtain ⟨g, h1, h2⟩ := h
  exact ⟨g, h1, fun i hi => ⟨x.cell (h2 i hi).1, x.cell (h2 i hi).2⟩⟩
def prE (l : List St) : Int := if (ixs isO 0 l).length = (ixs isT 0 l).length then 0 else 14
def prN (l : List St) : Nat := if (ixs isO 0 l).length = (ixs isT 0 l).length then (ixs isO 0 l).length else 0
/-- What Pairs returns. -/
def RetPr (w0 : World) (l : List St) (e : Ending) (w' : World) : Prop := Ext w0 w' ∧ ((prE l = 0 ∧ ∃ v, e = .returned (.tuple #[v, .int .i64 0]) ∧ PB w' v (ixs isO 0 l).length (fun i => (gi (ixs isO 0 l) i, gi (ixs isT 0 l) i))) ∨ (prE l = 14 ∧ e = .returned (.tuple #[.slice Option.none 0 0, .int .i64 14])))
/-- The pairs laid so far. -/
def PL (w wr : World) (g n k : Nat) (xs ys : List Int) : Prop := Ext w wr ∧ w.heap.size ≤ g ∧ ∃ f, wr.rowIs g 66 (n * 2) f ∧ ∀ i, i < k → f (i * 2) = .int .i64 (gi xs i) ∧ f (i * 2 + 1) = .int .i64 (gi ys i)
theorem PL.put {w wr : World} {g n k : Nat} {xs ys : List Int} (h : PL w wr g n k xs ys) : PL w ((wr.setCell ⟨g, k * 2, none⟩ (.int .i64 (gi xs k))).setCell ⟨g, k * 2 + 1, none⟩ (.int .i64 (gi ys k))) g n (k + 1) xs ys := by
  obtain ⟨h1, h2, f, h3, h4⟩ := h
  refine ⟨(h1.setCell h2 _).setCell h2 _, h2, _, (h3.set (k * 2) _).set (k * 2 + 1) _, fun i hi => ?_⟩
  by_cases e : i = k
  · subst e
    refine ⟨?_, if_pos rfl⟩
    show (if _ then _ else _) = _
    rw [if_neg (by omega)]; exact if_pos rfl
  · obtain ⟨a, b⟩ := h4 i (by omega)
    refine ⟨?_, ?_⟩ <;> (show (if _ then _ else _) = _; rw [if_neg (by omega)]; show (if _ then _ else _) = _; rw [if_neg (by omega)]; assumption)
theorem PL.later {w wr w' : World} {g n k : Nat} {xs ys : List Int} (h : PL w wr g n k xs ys) (x : Ext wr w') : PL w w' g n k xs ys := by
  obtain ⟨h1, h2, f, h3, h4⟩ := h
  exact ⟨h1.trans x, h2, f, x.row h3, h4⟩
theorem run_make_pr (kl kc : IntKind) (n : Nat) (hn : n ≤ 1000000) (w : World) :
    (Instr.makeSlice 63 (.int kl (n : Int)) (.int kc (n : Int))).run Tryd.prog w = .ok (.slice (some ⟨w.heap.size, 0, none⟩) n n) (w.alloc (.cells (madeCells #[.int .i64 0, .int .i64 0] (n * 2)) 66)) := by
  obtain ⟨i, hi, hzz⟩ := Option.map_eq_some_iff.1 (show (Tryd.prog.info? 66).map (fun i => (i.zero, i.size, i.bytes)) = some (some (.agg #[.int .i64 0, .int .i64 0]), 2, 16) by kernel_rfl)
  simp only [Prod.mk.injEq] at hzz
  obtain ⟨hz, hs, hb⟩ := hzz
  have hr := run_make (P := Tryd.prog) w 63 66 i (.agg #[.int .i64 0, .int .i64 0]) Tryd.underlying63 hi hz kl kc n n (by omega) (Int.le_refl _) (by rw [hb]; omega) (by omega)
  simp only [Int.toNat_natCast, hs] at hr
  exact hr
theorem PL.start (w : World) (n : Nat) (xs ys : List Int) : PL w (w.alloc (.cells (madeCells #[.int .i64 0, .int .i64 0] (n * 2)) 66)) w.heap.size n 0 xs ys := by
  have hz : ∀ i, i < n * 2 → (madeCells #[.int .i64 0, .int .i64 0] (n * 2))[i]? = some (Value.int .i64 0) := fun i hi => by
    unfold madeCells
    rcases (show i % 2 = 0 ∨ i % 2 = 1 by omega) with e | e <;> simp [hi, e]
  have hr := World.rowIs_alloc w (madeCells #[.int .i64 0, .int .i64 0] (n * 2)) 66 (fun _ => Value.int .i64 0) (fun i hi => hz i (by rw [size_madeCells] at hi; exact hi))
  rw [size_madeCells] at hr
  exact ⟨(Ext.refl w).alloc _, Nat.le_refl _, _, hr, fun i hi => by omega⟩
set_option maxHeartbeats 4000000 in
theorem Pairs_calls (v : Value) (c : Nat) (l : List St) (w : World) (h : RS w v c l) (hl : l.length ≤ 10000) : Calls Tryd.prog 26 #[v] w (RetPr w l) := by
  obtain ⟨ao, n, rfl, hn, hc, hcm, hat⟩ := h.open
  unfold maxLen at hcm
  have HA := Lib.hid hat; have Hn := Lib.hid hn
  have hn2 : n ≤ 10000 := by omega
  clear h hat hn hl
  go_enter Tryd.func26, Tryd.ntmps26
  go_wp2
  go_loopw [4, 5, 6, 7, 12, 19, 25] (fun va vb _ _ i _ _ wr => ∃ k : Nat, k ≤ n ∧ i = .int .i64 k ∧ Hid (TwoL w wr va vb (ixs isO 0 (l.take k)) (ixs isT 0 (l.take k)))) (fun _ _ _ _ i _ _ _ => n - (intOf i).toNat)
  case atStart => exact ⟨0, Nat.zero_le _, rfl, Lib.hid (by rw [List.take_zero]; exact TwoL.nil (Ext.refl _))⟩
  case round =>
    obtain ⟨k, hk, rfl, H⟩ := hrel
    by_cases hlt : k < n
    · obtain ⟨b, o, rfl, z⟩ := HA.out k hlt
      obtain ⟨s0, s1, s2, s3, s4⟩ := z.ext H.out.x
      have t1 : (k : Int) < n := by omega
      have htk := take_succ_si (l := l) (k := k) (by rw [← Hn.out]; exact hlt)
      have hO := ixs_snoc isO (l.take k) 0 (si l k)
      have hT := ixs_snoc isT (l.take k) 0 (si l k)
      rw [← htk, Nat.zero_add, List.length_take, Nat.min_eq_left (by rw [← Hn.out]; exact hk)] at hO hT
      have hl1 := ixs_len isO (l.take k) 0
      have hl2 := ixs_len isT (l.take k) 0
      rw [List.length_take, Nat.min_eq_left (by rw [← Hn.out]; exact hk)] at hl1 hl2
      obtain ⟨X, hX⟩ : ∃ X, X = ixs isO 0 (l.take k) := ⟨_, rfl⟩
      obtain ⟨Y, hY⟩ : ∃ Y, Y = ixs isT 0 (l.take k) := ⟨_, rfl⟩
      rw [← hX] at hO hl1 H
      rw [← hY] at hT hl2 H
      obtain ⟨S, hS⟩ : ∃ S, S = si l k := ⟨_, rfl⟩
      rw [← hS] at s0 s1 s2 s3 s4 hO hT
      have HO := Lib.hid hO; have HT := Lib.hid hT
      have X6 := Lib.hid ((Ext.refl wr).alloc (.cells #[.int .u8 S.k, .int .u8 S.y, .int .i64 S.a, .int .i64 S.b, .bool S.f] 49))
      clear z htk hX hY hO hT hS
      by_cases k3 : S.k = 3
      · have hO := HO.out; have hT := HT.out
        rw [if_pos (show isO S = true from decide_eq_true k3)] at hO
        rw [if_neg (show ¬ isT S = true by unfold isT; rw [decide_eq_true_iff]; omega), List.append_nil] at hT
        replace HO := Lib.hid hO; replace HT := Lib.hid hT
        have b3 : (S.k == 3) = true := by rw [beq_iff_eq]; exact k3
        have H1 := Lib.hid ((H.out.later X6.out).later ((Ext.refl _).alloc (.cells #[.int .i64 (k : Int)] 3)))
        clear hO hT k3
        go_wp2_with (at_builtin; refine app_lies eiInt rfl _ _ rfl w.heap.size _ X.length _ rfl H1.out.a _ _ _ rfl (VS.oneAt (by simp)) (one_i _) ?a1 ?a2 ?a3 (by simp) ?_)
        any_goals (first | omega | (simp; omega) | (have := H1.out.x.size; simp at this ⊢; omega))
        intro g cap w' hown hgr hlies
        have HN := Lib.hid (H1.out.push hown hgr (by simpa using hlies))
        clear hown hgr hlies
        go_wp2
        go_roundw
        case rel => exact ⟨k + 1, by omega, by go_num, by rw [HO.out, HT.out]; exact HN⟩
        case measure => simp [intOf]; omega
      have b3 : (S.k == 3) = false := beq_eq_false_iff_ne.2 k3
      by_cases k4 : S.k = 4 ∨ S.k = 5
      · have hO := HO.out; have hT := HT.out
        rw [if_neg (show ¬ isO S = true by unfold isO; rw [decide_eq_true_iff]; exact k3), List.append_nil] at hO
        rw [if_pos (show isT S = true from decide_eq_true k4)] at hT
        replace HO := Lib.hid hO; replace HT := Lib.hid hT
        have H1 := Lib.hid ((H.out.later X6.out).later ((Ext.refl _).alloc (.cells #[.int .i64 (k : Int)] 3)))
        clear hO hT k3
        rcases k4 with k4 | k4
        · have b4 : (S.k == 4) = true := by rw [beq_iff_eq]; exact k4
          clear k4
          go_wp2_with (at_builtin; refine app_lies eiInt rfl _ _ rfl w.heap.size _ Y.length _ rfl H1.out.b _ _ _ rfl (VS.oneAt (by simp)) (one_i _) ?a4 ?a5 ?a6 (by simp) ?_)
          any_goals (first | omega | (simp; omega) | (have := H1.out.x.size; simp at this ⊢; omega))
          intro g cap w' hown hgr hlies
          have HN := Lib.hid (H1.out.swap.push hown hgr (by simpa using hlies)).swap
          clear hown hgr hlies
          go_wp2
          go_roundw
          case rel => exact ⟨k + 1, by omega, by go_num, by rw [HO.out, HT.out]; exact HN⟩
          case measure => simp [intOf]; omega
        · have b4 : (S.k == 4) = false := beq_eq_false_iff_ne.2 (by omega)
          have b5 : (S.k == 5) = true := by rw [beq_iff_eq]; exact k4
          clear k4
          go_wp2_with (at_builtin; refine app_lies eiInt rfl _ _ rfl w.heap.size _ Y.length _ rfl H1.out.b _ _ _ rfl (VS.oneAt (by simp)) (one_i _) ?a7 ?a8 ?a9 (by simp) ?_)
          any_goals (first | omega | (simp; omega) | (have := H1.out.x.size; simp at this ⊢; omega))
          intro g cap w' hown hgr hlies
          have HN := Lib.hid (H1.out.swap.push hown hgr (by simpa using hlies)).swap
          clear hown hgr hlies
          go_wp2
          go_roundw
          case rel => exact ⟨k + 1, by omega, by go_num, by rw [HO.out, HT.out]; exact HN⟩
          case measure => simp [intOf]; omega
      · have hO := HO.out; have hT := HT.out
        rw [if_neg (show ¬ isO S = true by unfold isO; rw [decide_eq_true_iff]; exact k3), List.append_nil] at hO
        rw [if_neg (show ¬ isT S = true by unfold isT; rw [decide_eq_true_iff]; exact k4), List.append_nil] at hT
        have b4 : (S.k == 4) = false := beq_eq_false_iff_ne.2 (by omega)
        have b5 : (S.k == 5) = false := beq_eq_false_iff_ne.2 (by omega)
        replace HO := Lib.hid hO; replace HT := Lib.hid hT
        have HN := Lib.hid (H.out.later X6.out)
        clear hO hT k3 k4
        go_wp2
        go_roundw
        case rel => exact ⟨k + 1, by omega, by go_num, by rw [HO.out, HT.out]; exact HN⟩
        case measure => simp [intOf]; omega
    · obtain rfl : k = n := by omega
      have t1 : ¬ (k : Int) < k := by omega
      have H2 := H.out
      rw [List.take_of_length_le (by rw [← Hn.out]; exact Nat.le_refl _)] at H2
      have hpe : ((ixs isO 0 l).length = (ixs isT 0 l).length → prE l = 0) ∧ ((ixs isO 0 l).length ≠ (ixs isT 0 l).length → prE l = 14) := by
        unfold prE; exact ⟨fun h => if_pos h, fun h => if_neg h⟩
      have hlO := ixs_len isO l 0
      obtain ⟨ca, ha⟩ := IS.of_own H2.a
      obtain ⟨cb, hb⟩ := IS.of_own H2.b
      have X1 := Lib.hid H2.x
      obtain ⟨aa, na, rfl, hna, hnc, hmm, hea⟩ := ha.ent
      obtain ⟨ab, nb, rfl, hnb, hnc2, hmm2, heb⟩ := hb.ent
      have HEa := Lib.hid hea; have HEb := Lib.hid heb; have HNa := Lib.hid hna
      rw [← hna, ← hnb] at hpe
      have hna2 : na ≤ 10000 := by have := Hn.out; omega
      obtain ⟨P, hP⟩ : ∃ P, P = prE l := ⟨_, rfl⟩
      rw [← hP] at hpe
      have HP := Lib.hid hP; have HPe := Lib.hid hpe
      clear H H2 ha hb hea heb hna hnb hP hpe hlt hk hlO
      by_cases hab : na = nb
      · subst hab
        have hp0 := HPe.out.1 rfl
        subst hp0
        have b1 : ((na : Int) != (na : Int)) = false := by simp
        have hmk := run_make_pr .i64 .i64 na (by omega) wr
        have HS0 := Lib.hid (PL.start wr na (ixs isO 0 l) (ixs isT 0 l))
        go_wp2
        clear hmk
        obtain ⟨g, hg⟩ : ∃ g, g = wr.heap.size := ⟨_, rfl⟩
        rw [← hg] at HS0 ⊢
        obtain ⟨wo, hwo⟩ : ∃ wo : World, wo = wr := ⟨_, rfl⟩
        rw [← hwo] at HS0 X1 HEa HEb ⊢
        have Hgw := Lib.hid (show g = wo.heap.size by rw [hwo]; exact hg)
        clear hg hwo
        go_loopw [9, 43] (fun _ i ws => ∃ j : Nat, j ≤ na ∧ i = .int .i64 j ∧ Hid (PL wo ws g na j (ixs isO 0 l) (ixs isT 0 l))) (fun _ i _ => na - (intOf i).toNat)
        case atStart => exact ⟨0, Nat.zero_le _, rfl, HS0⟩
        case round =>
          obtain ⟨j, hj, rfl, HJ⟩ := hrel
          obtain ⟨ws, hws⟩ : ∃ ws : World, ws = wr := ⟨_, rfl⟩
          rw [← hws] at HJ ⊢
          clear hws
          by_cases hjl : j < na
          · have t3 : (j : Int) < na := by omega
            obtain ⟨b1', o1', rfl, ea0⟩ := HEa.out j hjl
            obtain ⟨b2', o2', rfl, eb0⟩ := HEb.out j hjl
            have ea := HJ.out.1.cell ea0; have eb := HJ.out.1.cell eb0
            obtain ⟨_, hgs, f, hf, _⟩ := HJ.out
            have g0 := hf.cell (i := j * 2) (by omega)
            have g1 := hf.cell (i := j * 2 + 1) (by omega)
            have f0 := hf.frozen (j * 2); have f1 := hf.frozen (j * 2 + 1)
            have HPt := Lib.hid HJ.out.put
            have b3 : (j : Int) < (na : Int) := by omega
            clear ea0 eb0 hf hgs HJ
            go_wp2
            go_region
            all_goals
              have HN := Lib.hid (HPt.out.later (Ext.refl _).drew)
              clear HPt ea eb g0 g1 f0 f1
              go_wp2
              go_roundw
              case rel => exact ⟨j + 1, by omega, by go_num, HN⟩
              case measure => simp [intOf]; omega
          · obtain rfl : j = na := by omega
            have t3 : ¬ (j : Int) < (j : Int) := by omega
            have HF := Lib.hid (show RetPr w l (.returned (.tuple #[.slice (some ⟨g, 0, none⟩) j j, .int .i64 0])) ws from by
              obtain ⟨p1, p2, f, p3, p4⟩ := HJ.out
              refine ⟨X1.out.trans p1, .inl ⟨HP.out.symm, _, rfl, ?_⟩⟩
              rw [← HNa.out]
              exact ⟨g, rfl, fun i hi => ⟨by rw [p3.cell (by omega), (p4 i hi).1], by rw [p3.cell (by omega), (p4 i hi).2]⟩⟩)
            clear HJ
            go_wp2
            go_ret2
            exact HF.out
      · have hp0 := HPe.out.2 hab
        subst hp0
        have b1 : ((na : Int) != (nb : Int)) = true := by rw [bne, beq_eq_false_iff_ne.2 (by omega)]; rfl
        clear HPe
        go_wp2
        go_ret2
        exact ⟨X1.out, .inr ⟨HP.out.symm, rfl⟩⟩
end Go.Proofs.YthllbcjglcplhaaDoor
/- laces.read. -/
namespace Go.Proofs.YthllbcjglcplhaaDoor
set_option linter.unusedVariables false
set_option linter.unusedSimpArgs false
set_option maxRecDepth 8000
open Go Go.RowKit

/-- The bytes of a string. -/
def bts (s : ByteArray) : List Int := s.data.toList.map fun b => (b.toNat : Int)
theorem bts_len (s : ByteArray) : (bts s).length = s.size := by unfold bts; simp
theorem bts_at {s : ByteArray} {k : Nat} (h : k < s.size) : gi (bts s) k = ((s[k]'h).toNat : Int) := by
  rw [gi_of_lt (by rw [bts_len]; exact h)]
  unfold bts
  simp
  rfl
theorem bts_drop {s : ByteArray} {k : Nat} (h : k < s.size) : (bts s).drop k = ((s[k]'h).toNat : Int) :: (bts s).drop (k + 1) := by
  rw [← bts_at h, gi_of_lt (by rw [bts_len]; exact h)]
  exact List.drop_eq_getElem_cons _
theorem rdL_no {f : Nat} {c : Int} {t : List Int} (h1 : c ≠ 46) (h2 : c ≠ 79) (h3 : c ≠ 47) : rdL f (c :: t) = none := by
  cases t with
  | nil => unfold rdL; rw [if_neg h1]
  | cons y t => unfold rdL; rw [if_neg h1, if_neg (fun h => h2 h.1), if_neg (fun h => h3 h.1)]
theorem rdL_o {f : Nat} {y : Int} {t : List Int} : rdL f (79 :: y :: t) = if y = 47 then (rdL (f + 2) t).map (⟨f, false⟩ :: ·) else none := by
  conv => lhs; unfold rdL
  rw [if_neg (by decide)]
  by_cases e : y = 47
  · rw [if_pos ⟨rfl, e⟩, if_pos e]
  · rw [if_neg (fun h => e h.2), if_neg (fun h => absurd h.1 (by decide)), if_neg e]
theorem rdL_s {f : Nat} {y : Int} {t : List Int} : rdL f (47 :: y :: t) = if y = 79 then (rdL (f + 2) t).map (⟨(f : Int) + 1, true⟩ :: ·) else none := by
  conv => lhs; unfold rdL
  rw [if_neg (by decide), if_neg (fun h => absurd h.1 (by decide))]
  by_cases e : y = 79
  · rw [if_pos ⟨rfl, e⟩, if_pos e]
  · rw [if_neg (fun h => e h.2), if_neg e]
/-- What is still to be read. -/
def Rst (X : List Int) (k : Nat) (bv : Int) (r : List Ho) (R : Option (List Ho)) : Prop :=
  (bv = 0 ∧ R = (rdL k (X.drop k)).map (r ++ ·)) ∨ ((bv = 79 ∨ bv = 47) ∧ 1 ≤ k ∧ R = (rdL (k - 1) (bv :: X.drop k)).map (r ++ ·))
/-- Holes or none. -/
def RetRd (w0 : World) (R : Option (List Ho)) (e : Ending) (w' : World) : Prop := Ext w0 w' ∧ ∃ v, (∀ r, R = some r → e = .returned (.tuple #[v, .bool true]) ∧ HU w' v r) ∧ (R = none → e = .returned (.tuple #[v, .bool false]))
theorem RetRd.bad {w0 w' : World} {R : Option (List Ho)} {v : Value} (x : Ext w0 w') (h : R = none) : RetRd w0 R (.returned (.tuple #[v, .bool false])) w' :=
  ⟨x, v, fun r hr => (by rw [h] at hr; cases hr), fun _ => rfl⟩
theorem map_app {o : Option (List Ho)} {r : List Ho} {h : Ho} : (o.map (h :: ·)).map (r ++ ·) = o.map ((r ++ [h]) ++ ·) := by
  cases o <;> simp
/-- The state of the walk. -/
structure RdS (w wr : World) (s : ByteArray) (k : Nat) (bv : Int) (v : Value) (r : List Ho) (R : Option (List Ho)) : Prop where
  it : wr.heap[w.heap.size]? = some (.stringIter s k)
  x : Ext w wr
  own : wr.ownsRow w.heap.size 39 2 v r.length (hcells r)
  few : r.length ≤ k
  rst : Rst (bts s) k bv r R
theorem own_iter {w : World} {B n z K : Nat} {s : ByteArray} {p p' : Nat} {e : TypeId} {v : Value} {xs : List Value} (h : w.ownsRow B e z v n xs) (hk : w.heap[K]? = some (.stringIter s p)) : (w.iterAt K s p').ownsRow B e z v n xs := by
  obtain ⟨h1, h2 | ⟨g, cap, cur, hv, hB, hb, hr⟩⟩ := h
  · exact ⟨h1, .inl h2⟩
  · refine ⟨h1, .inr ⟨g, cap, cur, hv, hB, ?_, hr⟩⟩
    rw [Lib.iterAt_other _ _ _ _ _ (by intro e; subst e; rw [hk] at hb; cases hb)]; exact hb
theorem RdS.next {w wr : World} {s : ByteArray} {k k' : Nat} {bv bv' : Int} {v : Value} {r : List Ho} {R R' : Option (List Ho)} (h : RdS w wr s k bv v r R) (hk : k ≤ k') (hr : Rst (bts s) k' bv' r R') : RdS w (wr.iterAt w.heap.size s k') s k' bv' v r R' :=
  ⟨Lib.iterAt_heap _ _ _ _ _ h.it, Lib.below_iterAt h.x (Nat.le_refl _) _ _, own_iter h.own h.it, Nat.le_trans h.few hk, hr⟩
theorem iter_grown {w w' : World} {B n z K p : Nat} {s : ByteArray} {e : TypeId} {v : Value} {xs : List Value} (h : w.ownsRow B e z v n xs) (hg : w.grownBy w' v.ownBlock) (hk : w.heap[K]? = some (.stringIter s p)) : w'.heap[K]? = some (.stringIter s p) := by
  have hlt : K < w.heap.size := (Array.getElem?_eq_some_iff.1 hk).1
  rw [hg.block K hlt ?_]; exact hk
  intro e
  obtain ⟨_, ⟨hv, _⟩ | ⟨g, cap, cur, hv, hB, hb2, _⟩⟩ := h
  · rw [hv] at e; cases e
  · rw [hv] at e
    have : K = g := by simpa [Value.ownBlock] using e
    subst this
    rw [hb2] at hk; cases hk
theorem RdS.app {w wr w' : World} {s : ByteArray} {k : Nat} {v v' : Value} {r : List Ho} {R R' : Option (List Ho)} {h : Ho} {bv : Int} {o : Obj} (H : RdS w wr s k bv v r R') (hf : r.length + 1 ≤ k) (hown : w'.ownsRow w.heap.size 39 2 v' (r.length + 1) (hcells r ++ hcells [h])) (hb : Below w.heap.size (wr.alloc o) w') (hg : (wr.alloc o).grownBy w' v.ownBlock) (hr : Rst (bts s) k 0 (r ++ [h]) R) : RdS w w' s k 0 v' (r ++ [h]) R :=
  ⟨iter_grown (own_hext H.own ((Ext.refl wr).alloc o)) hg (((Ext.refl wr).alloc o).block H.it), Below.trans (H.x.alloc o) hb, by rw [List.length_append, hcells_app]; exact hown, by simpa using hf, hr⟩

set_option maxHeartbeats 4000000 in
theorem read_calls (s : ByteArray) (w : World) (hs : s.size ≤ 100000) : Calls Tryd.prog 42 #[.string s] w (RetRd w (rdL 0 (bts s))) := by
  have h0 : Rst (bts s) 0 0 [] (rdL 0 (bts s)) := .inl ⟨rfl, by rw [List.drop_zero]; cases rdL 0 (bts s) <;> simp⟩
  generalize rdL 0 (bts s) = R at h0 ⊢
  have H0 := Lib.hid (show RdS w (w.iter s 0) s 0 0 (.slice Option.none 0 0) [] R from ⟨World.iter_heap w s 0, (Ext.refl w).alloc _, World.ownsRow_nil _ _ _ _, Nat.le_refl _, h0⟩)
  clear h0
  go_enter Tryd.func42, Tryd.ntmps42
  go_wp2
  go_step3
  go_wp2
  go_step3
  go_wp2
  go_loopg [4, 5, 6, 7, 10, 11, 12, 13, 14, 15, 16, 17, 18, 19, 20, 21, 22, 23, 24, 25, 26, 27, 28, 29, 30, 31, 32, 33, 34, 35, 36, 37, 38, 39, 40, 41, 42, 43, 44, 45, 46, 47, 48, 49, 50, 51, 52, 53, 54, 55, 56, 57] s.size (fun g l b _ _ _ _ _ _ _ _ _ _ _ _ _ _ _ _ _ _ _ _ _ _ _ _ _ _ _ _ _ _ _ _ _ _ _ _ _ _ _ _ _ _ _ _ _ _ _ _ _ _ wr => ∃ (k : Nat) (bv : Int) (r : List Ho), k + g = s.size ∧ b = .int .i32 bv ∧ Hid (RdS w wr s k bv l r R))
  case atStart => exact ⟨0, 0, [], by omega, rfl, H0⟩
  case round =>
    obtain ⟨k, bv, r, hk, rfl, H⟩ := hrel
    have hk2 : k ≤ s.size := by omega
    have hpos : wr.iterPos w.heap.size = k := by simp [World.iterPos, H.out.it]
    by_cases hlt : k < s.size
    · by_cases ha : (s[k]'hlt).toNat < 128
      · obtain ⟨Wn, hWn⟩ : ∃ Wn, Wn = wr.iterAt w.heap.size s (k + 1) := ⟨_, rfl⟩
        have hnx := fun ty => Lib.run_next_ascii_at (P := Tryd.prog) wr w.heap.size s k ty H.out.it hlt ha
        have hdrop := bts_drop hlt
        obtain ⟨c, hc⟩ : ∃ c : Int, c = ((s[k]'hlt).toNat : Int) := ⟨_, rfl⟩
        have hw3 : IntKind.i32.wrap c = c := by rw [IntKind.wrap_i32]; omega
        rw [← hWn, ← hc] at hnx
        rw [← hc] at hdrop
        have hposn : Wn.iterPos w.heap.size = k + 1 := by rw [hWn]; simp [World.iterPos, Lib.iterAt_heap _ _ _ _ _ H.out.it]
        have hnext := fun (bv' : Int) (hr : Rst (bts s) (k + 1) bv' r R) => H.out.next (Nat.le_succ k) hr
        rw [← hWn] at hnext
        have hn0 := H.out.next (Nat.le_succ k) (show Rst (bts s) (k + 1) 0 r ((rdL (k + 1) ((bts s).drop (k + 1))).map (r ++ ·)) from .inl ⟨rfl, rfl⟩)
        rw [← hWn] at hn0
        have HN0 := Lib.hid hn0
        clear hn0
        have HNext := Lib.hid hnext; have HPos := Lib.hid hpos; have HPosn := Lib.hid hposn
        have hxn : Ext w Wn := by rw [hWn]; exact Lib.below_iterAt H.out.x (Nat.le_refl _) _ _
        have XN := Lib.hid hxn
        have hfew := H.out.few
        clear hWn hc ha hnext hpos hposn hxn
        rcases H.out.rst with ⟨rfl, hR⟩ | ⟨hb, hk1, hR⟩
        · rw [hdrop] at hR
          by_cases c46 : c = 46
          · subst c46
            rw [rdL_dot] at hR
            have HN := Lib.hid (HNext.out 0 (.inl ⟨rfl, hR⟩))
            clear hR hdrop
            go_wp2
            go_roundg (s.size - (k + 1))
            case measure => omega
            case rel => exact ⟨k + 1, 0, r, by omega, rfl, HN⟩
          have b46 : (c == 46) = false := beq_eq_false_iff_ne.2 c46
          by_cases c79 : c = 79
          · subst c79
            have HN := Lib.hid (HNext.out 79 (.inr ⟨.inl rfl, by omega, hR⟩))
            clear hR hdrop c46
            go_wp2
            go_roundg (s.size - (k + 1))
            case measure => omega
            case rel => exact ⟨k + 1, 79, r, by omega, rfl, HN⟩
          have b79 : (c == 79) = false := beq_eq_false_iff_ne.2 c79
          by_cases c47 : c = 47
          · subst c47
            have HN := Lib.hid (HNext.out 47 (.inr ⟨.inr rfl, by omega, hR⟩))
            clear hR hdrop c46 c79
            go_wp2
            go_roundg (s.size - (k + 1))
            case measure => omega
            case rel => exact ⟨k + 1, 47, r, by omega, rfl, HN⟩
          have b47 : (c == 47) = false := beq_eq_false_iff_ne.2 c47
          rw [rdL_no c46 c79 c47] at hR
          have HBd := Lib.hid (show R = none from hR)
          clear hR hdrop c46 c79 c47
          go_wp2
          go_ret2
          exact RetRd.bad XN.out HBd.out
        · rw [hdrop] at hR
          have wk : IntKind.i64.wrap ((k : Int) - 1) = (k : Int) - 1 := IntWalk.i64_in _ ⟨by omega, by omega⟩
          have ek : ((k - 1 : Nat) : Int) = (k : Int) - 1 := by omega
          rcases hb with rfl | rfl
          · rw [rdL_o, ek, show k - 1 + 2 = k + 1 by omega] at hR
            by_cases c47 : c = 47
            · subst c47
              rw [if_pos rfl, map_app] at hR
              have HRst := Lib.hid (show Rst (bts s) (k + 1) 0 (r ++ [⟨(k : Int) - 1, false⟩]) R from .inl ⟨rfl, hR⟩)
              clear hR hdrop
              go_wp2_with (at_builtin; refine app_ho rfl _ _ rfl w.heap.size _ r.length (hcells r) rfl (own_hext HN0.out.own ((Ext.refl Wn).alloc _)) _ 1 1 [⟨(k : Int) - 1, false⟩] rfl rfl (HO.lit1 (blk_at rfl)) ?d1 ?d2 ?_)
              any_goals (first | omega | (have hsz := XN.out.size; simp; omega))
              intro v' w' hown hbel hgr
              have HNx := Lib.hid (HN0.out.app (h := ⟨(k : Int) - 1, false⟩) (by omega) hown hbel hgr HRst.out)
              clear hown hbel hgr
              go_wp2
              go_roundg (s.size - (k + 1))
              case measure => omega
              case rel => exact ⟨k + 1, 0, r ++ [⟨(k : Int) - 1, false⟩], by omega, rfl, HNx⟩
            · have b47 : (c == 47) = false := beq_eq_false_iff_ne.2 c47
              rw [if_neg c47] at hR
              have HBd := Lib.hid (show R = none from hR)
              clear hR hdrop c47 ek
              go_wp2
              go_ret2
              exact RetRd.bad XN.out HBd.out
          · rw [rdL_s, ek, show k - 1 + 2 = k + 1 by omega] at hR
            by_cases c79 : c = 79
            · subst c79
              rw [if_pos rfl, map_app, show (k : Int) - 1 + 1 = (k : Int) by omega] at hR
              have HRst := Lib.hid (show Rst (bts s) (k + 1) 0 (r ++ [⟨(k : Int), true⟩]) R from .inl ⟨rfl, hR⟩)
              clear hR hdrop
              go_wp2_with (at_builtin; refine app_ho rfl _ _ rfl w.heap.size _ r.length (hcells r) rfl (own_hext HN0.out.own ((Ext.refl Wn).alloc _)) _ 1 1 [⟨(k : Int), true⟩] rfl rfl (HO.lit1 (blk_at rfl)) ?e1 ?e2 ?_)
              any_goals (first | omega | (have hsz := XN.out.size; simp; omega))
              intro v' w' hown hbel hgr
              have HNx := Lib.hid (HN0.out.app (h := ⟨(k : Int), true⟩) (by omega) hown hbel hgr HRst.out)
              clear hown hbel hgr
              go_wp2
              go_roundg (s.size - (k + 1))
              case measure => omega
              case rel => exact ⟨k + 1, 0, r ++ [⟨(k : Int), true⟩], by omega, rfl, HNx⟩
            · have b79 : (c == 79) = false := beq_eq_false_iff_ne.2 c79
              rw [if_neg c79] at hR
              have HBd := Lib.hid (show R = none from hR)
              clear hR hdrop c79 ek
              go_wp2
              go_ret2
              exact RetRd.bad XN.out HBd.out
      · have hhi := decode_high s k hlt (by omega)
        obtain ⟨Wn, hWn⟩ : ∃ Wn, Wn = wr.iterAt w.heap.size s (k + (Utf8.decode s k).2) := ⟨_, rfl⟩
        have hnx := fun ty => Lib.run_next_any_at (P := Tryd.prog) wr w.heap.size s k ty H.out.it hlt
        have hdrop := bts_drop hlt
        obtain ⟨c, hc⟩ : ∃ c : Int, c = ((Utf8.decode s k).1 : Int) := ⟨_, rfl⟩
        rw [← hWn, ← hc] at hnx
        have hxn : Ext w Wn := by rw [hWn]; exact Lib.below_iterAt H.out.x (Nat.le_refl _) _ _
        have XN := Lib.hid hxn
        have b46 : (c == 46) = false := beq_eq_false_iff_ne.2 (by omega)
        have b47 : (c == 47) = false := beq_eq_false_iff_ne.2 (by omega)
        have b79 : (c == 79) = false := beq_eq_false_iff_ne.2 (by omega)
        have hbd : R = none := by
          rcases H.out.rst with ⟨rfl, hR⟩ | ⟨hb, hk1, hR⟩
          · rw [hdrop, rdL_no (by omega) (by omega) (by omega)] at hR; exact hR
          · rw [hdrop] at hR
            rcases hb with rfl | rfl
            · rw [rdL_o, if_neg (by omega)] at hR; exact hR
            · rw [rdL_s, if_neg (by omega)] at hR; exact hR
        have HBd := Lib.hid hbd
        have hbv : bv = 0 ∨ bv = 79 ∨ bv = 47 := by
          rcases H.out.rst with ⟨rfl, _⟩ | ⟨hb, _⟩
          · exact .inl rfl
          · exact .inr hb
        clear hWn hc hhi hxn hbd hdrop ha
        rcases hbv with rfl | rfl | rfl
        · go_wp2
          go_ret2
          exact RetRd.bad XN.out HBd.out
        · go_wp2
          go_ret2
          exact RetRd.bad XN.out HBd.out
        · go_wp2
          go_ret2
          exact RetRd.bad XN.out HBd.out
    · obtain rfl : k = s.size := by omega
      have hnx := fun ty => Lib.run_next_end_at (P := Tryd.prog) wr w.heap.size s s.size ty H.out.it (by omega)
      have hu := (HV.of_own H.out.own).1.hu
      have hd : (bts s).drop s.size = [] := List.drop_eq_nil_of_le (by rw [bts_len]; exact Nat.le_refl _)
      have HC := Lib.hid (HClip_calls _ r wr hu)
      have XE := Lib.hid H.out.x
      rcases H.out.rst with ⟨rfl, hR⟩ | ⟨hb, hk1, hR⟩
      · have HOk := Lib.hid (show R = some r by rw [hR, hd]; simp [rdL])
        clear hR hu hd hpos
        go_wp2_with fail
        refine HC.out.mono ?_
        rintro e w' ⟨⟨v, rfl, hv⟩, rfl⟩
        have HV2 := Lib.hid hv
        clear hv
        go_wp2
        try rw [Exit.noGoto_ret]
        go_ret2
        exact ⟨XE.out, v, fun r' hr' => by rw [HOk.out] at hr'; obtain rfl := Option.some.inj hr'; exact ⟨rfl, HV2.out⟩, fun h => by rw [HOk.out] at h; cases h⟩
      · have HBd := Lib.hid (show R = none by
          rw [hR, hd]
          rcases hb with rfl | rfl <;> simp [rdL])
        have b0 : (bv == 0) = false := beq_eq_false_iff_ne.2 (by omega)
        clear hR hu hd hpos hb
        go_wp2_with fail
        refine HC.out.mono ?_
        rintro e w' ⟨⟨v, rfl, hv⟩, rfl⟩
        clear hv
        go_wp2
        try rw [Exit.noGoto_ret]
        go_ret2
        exact RetRd.bad XE.out HBd.out
end Go.Proofs.YthllbcjglcplhaaDoor
