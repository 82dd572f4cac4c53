/- Texts of this claim in one file: libraries and walks. -/
import Derived.Test.YthllbcjglcplhaaDoorL1
import Derived.Test.YthllbcjglcplhaaDoorL2
/- Rows of stitches of the call's own: their cells; append. -/
namespace Go.Proofs.YthllbcjglcplhaaDoor
set_option linter.unusedVariables false
set_option linter.unusedSimpArgs false
set_option maxRecDepth 8000
open Go Go.RowKit

def cells (l : List St) : List Value := l.flatMap St.cs
theorem cells_len (l : List St) : (cells l).length = l.length * 5 := by
  induction l with
  | nil => rfl
  | cons s l ih => unfold cells at ih ⊢; rw [List.flatMap_cons, List.length_append, ih]; simp [St.cs]; omega
theorem cells_app (l m : List St) : cells (l ++ m) = cells l ++ cells m := by unfold cells; rw [List.flatMap_append]
theorem cells_at : ∀ (l : List St) (i : Nat), i < l.length → (cells l)[i * 5]? = some (.int .u8 (si l i).k) ∧ (cells l)[i * 5 + 1]? = some (.int .u8 (si l i).y) ∧ (cells l)[i * 5 + 2]? = some (.int .i64 (si l i).a) ∧ (cells l)[i * 5 + 3]? = some (.int .i64 (si l i).b) ∧ (cells l)[i * 5 + 4]? = some (.bool (si l i).f)
  | [], i, h => by simp at h
  | s :: l, 0, _ => ⟨rfl, rfl, rfl, rfl, rfl⟩
  | s :: l, i + 1, h => by
    have ih := cells_at l i (by simpa using h)
    have e : si (s :: l) (i + 1) = si l i := by unfold si; simp [List.getD]
    have c : ∀ d, (cells (s :: l))[(i + 1) * 5 + d]? = (cells l)[i * 5 + d]? := fun d => by
      rw [show (i + 1) * 5 + d = (i * 5 + d) + 1 + 1 + 1 + 1 + 1 by omega]; rfl
    rw [e]
    have c0 := c 0
    rw [Nat.add_zero, Nat.add_zero] at c0
    rw [c0, c 1, c 2, c 3, c 4]
    exact ih
/-- The cells in memory. -/
theorem RO.news {w : World} {g c : Nat} {l : List St} (h : RO w g c l) : ∀ j u, (cells l)[j]? = some u → w.cell? ((⟨g, 0, none⟩ : Addr).add j) = some u := by
  intro j u hu
  obtain ⟨h1, h2, f, h3, h4⟩ := h
  have hj : j < l.length * 5 := by rw [← cells_len]; exact (List.getElem?_eq_some_iff.1 hu).1
  have hadd : (⟨g, 0, none⟩ : Addr).add j = ⟨g, j, none⟩ := by simp [Addr.add]; try exact fun h => h.symm
  rw [hadd, h3.cell (by omega)]
  obtain ⟨a0, a1, a2, a3, a4⟩ := h4 (j / 5) (by omega)
  obtain ⟨b0, b1, b2, b3, b4⟩ := cells_at l (j / 5) (by omega)
  rcases (show j = j / 5 * 5 ∨ j = j / 5 * 5 + 1 ∨ j = j / 5 * 5 + 2 ∨ j = j / 5 * 5 + 3 ∨ j = j / 5 * 5 + 4 by omega) with e | e | e | e | e <;> rw [e] at hu ⊢
  · rw [a0, ← hu, b0]
  · rw [a1, ← hu, b1]
  · rw [a2, ← hu, b2]
  · rw [a3, ← hu, b3]
  · rw [a4, ← hu, b4]
theorem RO.of_own {w : World} {B n : Nat} {v : Value} {l : List St} (h : w.ownsRow B 49 5 v n (cells l)) (hn : 0 < n) : ∃ g c, v = .slice (some ⟨g, 0, none⟩) n c ∧ n = l.length ∧ B ≤ g ∧ RO w g c l := by
  obtain ⟨hl, h⟩ := h
  rw [cells_len] at hl
  rcases h with ⟨_, h⟩ | ⟨g, cap, cur, hv, hB, hb, hnc, hm, hsz, htk⟩
  · omega
  refine ⟨g, cap, hv, by omega, hB, by omega, hm, fun i => (cur[i]?).getD undef, ⟨cur, hb, hsz, fun i hi => by simp [Array.getElem?_eq_getElem (show i < cur.size by omega)]⟩, fun i hi => ?_⟩
  have hc : ∀ j, j < n * 5 → cur[j]? = (cells l)[j]? := fun j hj => by
    rw [← htk, List.getElem?_take, if_pos hj, Array.getElem?_toList]
  obtain ⟨b0, b1, b2, b3, b4⟩ := cells_at l i hi
  refine ⟨?_, ?_, ?_, ?_, ?_⟩ <;> simp only []
  · rw [hc _ (by omega), b0]; rfl
  · rw [hc _ (by omega), b1]; rfl
  · rw [hc _ (by omega), b2]; rfl
  · rw [hc _ (by omega), b3]; rfl
  · rw [hc _ (by omega), b4]; rfl
theorem cs_one (l : List St) : ∀ u ∈ cells l, u.oneCell' = true := by
  intro u hu
  obtain ⟨s, _, hs⟩ := List.mem_flatMap.1 hu
  simp [St.cs] at hs
  rcases hs with rfl | rfl | rfl | rfl | rfl <;> rfl
/-- 'append(s, x...)' of stitches of the call's own. -/
theorem app_st {w : World} {ops : Array Oper} {rest : List Oper} {o : Oper} {a : Act} {Q : Exit → Act → World → Prop}
    (hg : o.guard = none) (s x : Operand) (hop : o.op = Op.call { callee := Callee.builtin Builtin.append, args := #[s, x], argTypes := #[41, 41] })
    (B : Nat) (v : Value) (n : Nat) (xs : List Value) (hs : a.eval s = v) (hown : w.ownsRow B 49 5 v n xs)
    (g c m : Nat) (l : List St) (hx : a.eval x = .slice (some ⟨g, 0, none⟩) m c) (hm : m = l.length) (hR : RO w g c l)
    (hlen : n + m ≤ 1000000) (hB : B ≤ w.heap.size)
    (hK : ∀ v' w', w'.ownsRow B 49 5 v' (n + m) (xs ++ cells l) → Below B w w' → wpList Tryd.prog ops Q rest (a.put o.dst v') w') :
    wpList Tryd.prog ops Q (o :: rest) a w := by
  obtain ⟨i, hi, hzz⟩ := Option.map_eq_some_iff.1 (show (Tryd.prog.info? 49).map (fun i => (i.zero, i.size, i.bytes)) = some (some (.agg z5), 5, 32) by kernel_rfl)
  simp only [Prod.mk.injEq] at hzz
  obtain ⟨hz, hsz, hb⟩ := hzz
  refine wpList_append_own w hg s x 41 hop B 49 i (.agg z5) 5 32 Tryd.underlying41 hi hz hsz hb rfl (by decide) v n xs hs hown ⟨g, 0, none⟩ m c (cells l) hx (by rw [cells_len, hm]) hR.news (cs_one l) (by unfold maxLen; omega) (by omega) hB ?_
  intro v' w' h2 h3 _
  refine hK v' w' h2 ?_
  refine (Below.refl B w).grown h3 hB fun k hk => ?_
  obtain ⟨_, hv | ⟨g', cap, cur, hv, hBg, _⟩⟩ := hown
  · rw [hv.1] at hk; cases hk
  · rw [hv] at hk; injection hk with hk; rw [← hk]; exact hBg
end Go.Proofs.YthllbcjglcplhaaDoor
/- Charts that a call builds by appending rows. -/
namespace Go.Proofs.YthllbcjglcplhaaDoor
set_option linter.unusedVariables false
set_option linter.unusedSimpArgs false
set_option maxRecDepth 8000
open Go Go.RowKit

/-- 'append(s, x...)', s the call's own, x any slice: with all that is known of the new world. -/
theorem app_own_g {P : Program} {t e : TypeId} {z : Value} {bytes : Nat} (ei : EI P t e z bytes) {w : World} {ops : Array Oper} {rest : List Oper} {o : Oper} {a : Act} {Q : Exit → Act → World → Prop}
    (hg : o.guard = none) (s x : Operand) (hop : o.op = Op.call { callee := Callee.builtin Builtin.append, args := #[s, x], argTypes := #[t, t] })
    (B : Nat) (v : Value) (n : Nat) (xs : List Value) (hs : a.eval s = v) (hown : w.ownsRow B e 1 v n xs)
    (y : Value) (c : Nat) (ys : List Value) (hx : a.eval x = y) (hy : VS w y c ys) (h1 : ∀ u ∈ ys, u.oneCell' = true)
    (hbytes : (n + ys.length) * bytes ≤ 140737488355328) (hlen : n + ys.length ≤ 140737488355328) (hB : B ≤ w.heap.size)
    (hK : ∀ v' w', w'.ownsRow B e 1 v' (n + ys.length) (xs ++ ys) → w.grownBy w' v.ownBlock → wpList P ops Q rest (a.put o.dst v') w') :
    wpList P ops Q (o :: rest) a w := by
  obtain ⟨i, hi, hz0, hz1, hz2⟩ := info_parts ei.info
  obtain ⟨ao, rfl, hl, hm, hno, hc⟩ := hy
  have hzs : z.cells.size = 1 := by rw [ei.cell]; rfl
  cases ao with
  | none =>
    have hc0 := hno rfl
    have hys : ys = [] := List.eq_nil_of_length_eq_zero (by omega)
    subst hys
    subst hc0
    exact wpList_append_own_none hg s x t hop B e i 1 ei.und hi v n xs hs hown hx (hK v w (by simpa using hown) (World.grownBy.refl _ _))
  | some ad =>
    refine wpList_append_own w hg s x t hop B e i z 1 bytes ei.und hi hz0 hz1 hz2 hzs (by decide) v n xs hs hown ad ys.length c ys hx (by simp) (VS.cells hl hc ad rfl) h1 (by unfold maxLen; omega) hbytes hB ?_
    intro v' w' h2 h3 _
    exact hK v' w' h2 h3

/-- A block of another type is no row of the call's own. -/
theorem own_ne {w : World} {B n : Nat} {e t : TypeId} {v : Value} {xs : List Value} {z : Nat} (ho : w.ownsRow B e z v n xs) {b : Nat} {cs : Array Value} {q : Nat × Nat} (hb : w.heap[b]? = some (.cells cs t q)) (ht : t ≠ e) : v.ownBlock ≠ some b := by
  intro he
  obtain ⟨_, ⟨hv, _⟩ | ⟨g, cap, cur, hv, hB, hb2, _⟩⟩ := ho
  · rw [hv] at he; cases he
  · rw [hv] at he
    have : g = b := by simpa [Value.ownBlock] using he
    subst this
    rw [hb2] at hb
    simp only [Option.some.injEq, Obj.cells.injEq] at hb
    exact ht hb.2.1.symm
theorem blk_grown {w w' : World} {B n : Nat} {e t : TypeId} {v : Value} {xs : List Value} {z : Nat} (ho : w.ownsRow B e z v n xs) (hg : w.grownBy w' v.ownBlock) {b : Nat} {cs : Array Value} {q : Nat × Nat} (hb : w.heap[b]? = some (.cells cs t q)) (ht : t ≠ e) : w'.heap[b]? = some (.cells cs t q) := by
  have hlt : b < w.heap.size := (Array.getElem?_eq_some_iff.1 hb).1
  rw [hg.block b hlt (fun e => own_ne ho hb ht e.symm)]; exact hb
/-- A store elsewhere keeps a row of the call's own. -/
theorem own_setOther {w : World} {B n : Nat} {e : TypeId} {v u : Value} {xs : List Value} {z : Nat} (ho : w.ownsRow B e z v n xs) {a : Addr} (hne : v.ownBlock ≠ some a.block) : (w.setCell a u).ownsRow B e z v n xs := by
  obtain ⟨h1, ⟨hv, h2⟩ | ⟨g, cap, cur, hv, hB, hb2, h3⟩⟩ := ho
  · exact ⟨h1, .inl ⟨hv, h2⟩⟩
  · refine ⟨h1, .inr ⟨g, cap, cur, hv, hB, ?_, h3⟩⟩
    rw [Deep.blk_setCell_other _ _ _ _ (fun e => hne (by rw [hv, ← e]; rfl))]; exact hb2

theorem RO.block {w : World} {g c : Nat} {l : List St} (h : RO w g c l) : ∃ cs, w.heap[g]? = some (.cells cs 49 (0, 0)) := by
  obtain ⟨_, _, f, ⟨cur, h3, _⟩, _⟩ := h
  exact ⟨cur, h3⟩
theorem RO.of_block {w w' : World} {g c : Nat} {l : List St} (h : RO w g c l) (e : w'.heap[g]? = w.heap[g]?) : RO w' g c l := by
  obtain ⟨h1, h2, f, h3, h4⟩ := h
  exact ⟨h1, h2, f, h3.of_block e, h4⟩
theorem RO.grown {w w' : World} {g c B n : Nat} {e : TypeId} {l : List St} {v : Value} {xs : List Value} {z : Nat} (h : RO w g c l) (ho : w.ownsRow B e z v n xs) (hg : w.grownBy w' v.ownBlock) (ht : 49 ≠ e) : RO w' g c l := by
  obtain ⟨cs, hb⟩ := h.block
  exact h.of_block ((blk_grown ho hg hb ht).trans hb.symm)

/-- A row of stitches of the call's own, or nil. -/
def RV (w : World) (u : Value) (l : List St) : Prop := (u = .slice Option.none 0 0 ∧ l = []) ∨ ∃ q c, u = .slice (some ⟨q, 0, Option.none⟩) l.length c ∧ RO w q c l
theorem RV.ext {w w' : World} {u : Value} {l : List St} (h : RV w u l) (x : Ext w w') : RV w' u l := by
  rcases h with h | ⟨q, c, h1, h2⟩
  · exact .inl h
  · exact .inr ⟨q, c, h1, h2.ext x⟩
theorem RV.grown {w w' : World} {B n : Nat} {e : TypeId} {u : Value} {l : List St} {v : Value} {xs : List Value} {z : Nat} (h : RV w u l) (ho : w.ownsRow B e z v n xs) (hg : w.grownBy w' v.ownBlock) (ht : 49 ≠ e) : RV w' u l := by
  rcases h with h | ⟨q, c, h1, h2⟩
  · exact .inl h
  · exact .inr ⟨q, c, h1, h2.grown ho hg ht⟩
theorem RV.setOther {w : World} {u u' : Value} {l : List St} (h : RV w u l) {a : Addr} {cs : Array Value} {t : TypeId} {q : Nat × Nat} (hb : w.heap[a.block]? = some (.cells cs t q)) (ht : 49 ≠ t) : RV (w.setCell a u') u l := by
  rcases h with h | ⟨g, c, h1, h2⟩
  · exact .inl h
  · refine .inr ⟨g, c, h1, h2.setOther (fun e => ?_) _⟩
    obtain ⟨cs', hb2⟩ := h2.block
    rw [e, hb] at hb2
    simp only [Option.some.injEq, Obj.cells.injEq] at hb2
    exact ht hb2.2.1.symm
theorem RV.rs {w : World} {u : Value} {l : List St} (h : RV w u l) : ∃ c, RS w u c l := by
  rcases h with ⟨rfl, rfl⟩ | ⟨q, c, rfl, h2⟩
  · exact ⟨0, RS.nil w⟩
  · exact ⟨c, h2.rs⟩
theorem RV.form {w : World} {u : Value} {l : List St} (h : RV w u l) : ∃ a n c, u = .slice a n c ∧ n = l.length := by
  rcases h with ⟨rfl, rfl⟩ | ⟨q, c, rfl, h2⟩
  · exact ⟨_, _, _, rfl, rfl⟩
  · exact ⟨_, _, _, rfl, rfl⟩
theorem RV.of_own {w : World} {B n : Nat} {v : Value} {l : List St} (h : w.ownsRow B 49 5 v n (cells l)) : RV w v l ∧ n = l.length := by
  have hl := h.1
  rw [cells_len] at hl
  by_cases h0 : 0 < n
  · obtain ⟨g, c, hv, hn, _, hr⟩ := RO.of_own h h0
    rw [hn] at hv
    exact ⟨.inr ⟨g, c, hv, hr⟩, hn⟩
  · have hnl : l = [] := List.eq_nil_of_length_eq_zero (by omega)
    subst hnl
    have hn0 : n = 0 := by omega
    subst hn0
    refine ⟨?_, rfl⟩
    obtain ⟨_, ⟨hv, _⟩ | ⟨g, cap, cur, hv, hB, hb, hnc, hm, hsz, htk⟩⟩ := h
    · exact .inl ⟨hv, rfl⟩
    · exact .inr ⟨g, cap, hv, by simp, hm, fun i => (cur[i]?).getD undef, ⟨cur, hb, by omega, fun i hi => by simp [Array.getElem?_eq_getElem (show i < cur.size by omega)]⟩, fun i hi => by simp at hi⟩

/-- The rows that were appended so far. -/
def CO (w wr : World) (v : Value) (rows : List (List St)) : Prop :=
  Ext w wr ∧ ∃ vs : List Value, wr.ownsRow w.heap.size 41 1 v rows.length vs ∧ ∀ i, i < rows.length → ∃ u, vs[i]? = some u ∧ RV wr u (sw rows i)
theorem CO.nil {w wr : World} (x : Ext w wr) : CO w wr (.slice Option.none 0 0) [] := ⟨x, [], World.ownsRow_nil _ _ _ _, fun i hi => by simp at hi⟩
theorem CO.later {w wr w' : World} {v : Value} {rows : List (List St)} (h : CO w wr v rows) (x : Ext wr w') : CO w w' v rows := by
  obtain ⟨h1, vs, h2, h3⟩ := h
  exact ⟨h1.trans x, vs, own_ext h2 x, fun i hi => by obtain ⟨u, a, b⟩ := h3 i hi; exact ⟨u, a, b.ext x⟩⟩
theorem CO.setOther {w wr : World} {v u' : Value} {rows : List (List St)} (h : CO w wr v rows) {a : Addr} {cs : Array Value} {t : TypeId} {q : Nat × Nat} (hb : wr.heap[a.block]? = some (.cells cs t q)) (ht1 : 49 ≠ t) (ht2 : t ≠ 41) (hw : w.heap.size ≤ a.block) : CO w (wr.setCell a u') v rows := by
  obtain ⟨h1, vs, h2, h3⟩ := h
  exact ⟨h1.setCell hw _, vs, own_setOther h2 (own_ne h2 hb ht2), fun i hi => by obtain ⟨u, a', b⟩ := h3 i hi; exact ⟨u, a', b.setOther hb ht1⟩⟩
theorem CO.form {w wr : World} {v : Value} {rows : List (List St)} (h : CO w wr v rows) : ∃ a n c, v = .slice a n c ∧ n = rows.length := by
  obtain ⟨_, vs, ⟨_, ⟨hv, hn⟩ | ⟨g, cap, cur, hv, _⟩⟩, _⟩ := h
  · exact ⟨_, _, _, hv, hn.symm⟩
  · exact ⟨_, _, _, hv, rfl⟩
theorem sw_app (a : List (List St)) (x : List St) {j : Nat} (h : j < a.length) : sw (a ++ [x]) j = sw a j := by unfold sw; simp [List.getD, List.getElem?_append_left h]
theorem sw_new (a : List (List St)) (x : List St) : sw (a ++ [x]) a.length = x := by unfold sw; simp [List.getD]
theorem CO.rr {w wr : World} {v : Value} {rows : List (List St)} (h : CO w wr v rows) : ∃ c, RR wr v c rows := by
  obtain ⟨h1, vs, h2, h3⟩ := h
  obtain ⟨c, ao, hv, hl, hm, hno, hc⟩ := VS.of_own h2
  have hlen : vs.length = rows.length := by have := h2.1; omega
  have hcap : ∀ i, ∃ c', i < rows.length → RS wr (vs.getD i undef) c' (sw rows i) := fun i => by
    by_cases hi : i < rows.length
    · obtain ⟨u, a, b⟩ := h3 i hi
      obtain ⟨c', hr⟩ := b.rs
      exact ⟨c', fun _ => by rw [show vs.getD i undef = u by simp [List.getD, a]]; exact hr⟩
    · exact ⟨0, fun h => absurd h hi⟩
  refine ⟨c, ao, fun i => vs.getD i undef, fun i => (hcap i).choose, by rw [hv, hlen], by omega, hm, ?_, fun i hi => (hcap i).choose_spec hi⟩
  by_cases h0 : rows.length = 0
  · exact .inl (List.eq_nil_of_length_eq_zero h0)
  · cases ao with
    | none => have := hno rfl; omega
    | some a =>
      obtain ⟨b, o, s⟩ := a
      obtain ⟨hs, hcell⟩ := hc _ rfl
      have hs' : s = Option.none := hs (by omega)
      subst hs'
      exact .inr ⟨b, o, rfl, fun i hi => hcell i _ (by obtain ⟨u, a, _⟩ := h3 i hi; rw [a]; simp [List.getD, a])⟩
/-- 'c.Rows = append(c.Rows, row)'. -/
theorem app_row {w : World} {ops : Array Oper} {rest : List Oper} {o : Oper} {a : Act} {Q : Exit → Act → World → Prop}
    (hg : o.guard = Option.none) (s x : Operand) (hop : o.op = Op.call { callee := Callee.builtin Builtin.append, args := #[s, x], argTypes := #[26, 26] })
    (wb : World) (v : Value) (rows : List (List St)) (hs : a.eval s = v) (hco : CO wb w v rows) (u : Value) (l : List St) (hu : RV w u l)
    (g : Nat) (hx : a.eval x = .slice (some ⟨g, 0, Option.none⟩) 1 1) (hgw : g = w.heap.size) (hlen : rows.length ≤ 100000)
    (hK : ∀ v' w', CO wb w' v' (rows ++ [l]) → (∀ (b : Nat) (cs : Array Value) (t : TypeId) (q : Nat × Nat), w.heap[b]? = some (Obj.cells cs t q) → t ≠ 41 → w'.heap[b]? = some (Obj.cells cs t q)) → wpList Tryd.prog ops Q rest (a.put o.dst v') w') :
    wpList Tryd.prog ops Q (o :: rest) a (w.alloc (.cells #[u] 41)) := by
  obtain ⟨h1, vs, h2, h3⟩ := hco
  subst hgw
  have hvl : vs.length = rows.length := by have := h2.1; omega
  have h1u : ∀ y ∈ [u], y.oneCell' = true := by
    intro y hy
    obtain rfl := List.mem_singleton.1 hy
    obtain ⟨a', n', c', rfl, _⟩ := hu.form
    rfl
  have xa : Ext w (w.alloc (.cells #[u] 41)) := (Ext.refl w).alloc _
  refine app_own_g eiRows hg s x hop wb.heap.size v rows.length vs hs (own_ext h2 xa) _ 1 [u] hx (VS.one _ _ _) h1u (by simp; omega) (by simp; omega) (Nat.le_trans h1.size xa.size) ?_
  intro v' w' ho hgr
  have hst : 49 ≠ 41 := by decide
  refine hK v' w' ⟨?_, vs ++ [u], by simpa using ho, fun i hi => ?_⟩ (fun b cs t q hb ht => blk_grown (own_ext h2 xa) hgr (xa.block hb) ht)
  · refine (h1.trans xa).grown hgr fun k hk => ?_
    obtain ⟨_, ⟨hv, _⟩ | ⟨g', cap, cur, hv, hBg, _⟩⟩ := h2
    · rw [hv] at hk; cases hk
    · rw [hv] at hk; have : g' = k := by simpa [Value.ownBlock] using hk
      omega
  · rw [List.length_append, List.length_singleton] at hi
    by_cases e : i < rows.length
    · obtain ⟨u', a', b'⟩ := h3 i e
      rw [sw_app _ _ e]
      exact ⟨u', by rw [List.getElem?_append_left (by omega)]; exact a', (b'.ext xa).grown (own_ext h2 xa) hgr hst⟩
    · obtain rfl : i = rows.length := by omega
      rw [sw_new]
      exact ⟨u, by rw [List.getElem?_append_right (by omega)]; simp [hvl], (hu.ext xa).grown (own_ext h2 xa) hgr hst⟩
/-- A chart is returned. -/
def RetCC (w0 : World) (rows : List (List St)) (e : Ending) (w' : World) : Prop := ∃ v c, e = .returned (.agg #[v]) ∧ RR w' v c rows ∧ Ext w0 w'
/-- Stitches written out in a block. -/
theorem RO.lit {w : World} {l : List St} {arr : Array Value} (ha : arr = (cells l).toArray) (hl : l.length ≤ 1000) : RO (w.alloc (.cells arr 49)) w.heap.size l.length l := by
  have hr := World.rowIs_alloc w arr 49 (fun i => ((cells l)[i]?).getD undef) (fun i hi => by
    rw [ha] at hi ⊢
    rw [List.getElem?_toArray]
    have : i < (cells l).length := by simpa using hi
    simp [this])
  have hsz : arr.size = l.length * 5 := by rw [ha]; simp [cells_len]
  rw [hsz] at hr
  refine ⟨Nat.le_refl _, by unfold maxLen; omega, _, hr, fun i hi => ?_⟩
  obtain ⟨b0, b1, b2, b3, b4⟩ := cells_at l i hi
  refine ⟨?_, ?_, ?_, ?_, ?_⟩ <;> simp only []
  · rw [b0]; rfl
  · rw [b1]; rfl
  · rw [b2]; rfl
  · rw [b3]; rfl
  · rw [b4]; rfl
end Go.Proofs.YthllbcjglcplhaaDoor
/- Holes in plain Lean; how they lie in memory. -/
namespace Go.Proofs.YthllbcjglcplhaaDoor
set_option linter.unusedVariables false
set_option linter.unusedSimpArgs false
set_option maxRecDepth 8000
open Go Go.RowKit

/-- A hole. -/
structure Ho where
  p : Int
  l : Bool
deriving DecidableEq
namespace Ho
def cs (s : Ho) : List Value := [.int .i64 s.p, .bool s.l]
def val (s : Ho) : Value := .agg #[.int .i64 s.p, .bool s.l]
def none : Ho := ⟨0, false⟩
/-- The slot of its Two. -/
def two (s : Ho) : Int := if s.l then s.p - 1 else s.p + 1
def fst (s : Ho) : Int := if s.l then s.p - 1 else s.p
def lst (s : Ho) : Int := s.fst + 1
end Ho
/-! ### In memory -/
/-- Two cells in a row hold a hole. -/
def At2 (w : World) (b o : Nat) (s : Ho) : Prop := w.cell? ⟨b, o, none⟩ = some (.int .i64 s.p) ∧ w.cell? ⟨b, o + 1, none⟩ = some (.bool s.l)
theorem At2.ext {w w' : World} {b o : Nat} {s : Ho} (h : At2 w b o s) (e : Ext w w') : At2 w' b o s := ⟨e.cell h.1, e.cell h.2⟩

def oi (l : List Ho) (i : Nat) : Ho := l.getD i Ho.none
theorem oi_of_lt {l : List Ho} {i : Nat} (h : i < l.length) : oi l i = l[i] := by unfold oi; simp [List.getD, h]
theorem oi_mem {l : List Ho} {i : Nat} (h : i < l.length) : oi l i ∈ l := by rw [oi_of_lt h]; exact List.getElem_mem h
theorem oi_ext {l m : List Ho} (hl : l.length = m.length) (h : ∀ i, i < l.length → oi l i = oi m i) : l = m := by
  apply List.ext_getElem hl
  intro i h1 h2
  have := h i h1
  rwa [oi_of_lt h1, oi_of_lt h2] at this
theorem take_succ_oi {l : List Ho} {k : Nat} (h : k < l.length) : l.take (k + 1) = l.take k ++ [oi l k] := by rw [oi_of_lt h]; exact List.take_succ_eq_append_getElem h
theorem drop_oi {r : List Ho} {k : Nat} (h : k < r.length) : r.drop k = oi r k :: r.drop (k + 1) := by rw [oi_of_lt h]; exact List.drop_eq_getElem_cons h
theorem oi_app (a : List Ho) (x : Ho) {j : Nat} (h : j < a.length) : oi (a ++ [x]) j = oi a j := by unfold oi; simp [List.getD, List.getElem?_append_left h]
theorem oi_new (a : List Ho) (x : Ho) : oi (a ++ [x]) a.length = x := by unfold oi; simp [List.getD]

/-- The slice value v, of capacity c, holds the holes l. -/
def HS (w : World) (v : Value) (c : Nat) (l : List Ho) : Prop :=
  ∃ ao : Option Addr, v = .slice ao l.length c ∧ l.length ≤ c ∧ c ≤ maxLen ∧ (l = [] ∨ ∃ b o, ao = some ⟨b, o, Option.none⟩ ∧ ∀ i, i < l.length → At2 w b (o + i * 2) (oi l i))
theorem HS.ext {w w' : World} {v : Value} {c : Nat} {l : List Ho} (h : HS w v c l) (e : Ext w w') : HS w' v c l := by
  obtain ⟨ao, h1, h2, h3, h4⟩ := h
  refine ⟨ao, h1, h2, h3, ?_⟩
  rcases h4 with h4 | ⟨b, o, h5, h6⟩
  · exact .inl h4
  · exact .inr ⟨b, o, h5, fun i hi => (h6 i hi).ext e⟩
theorem HS.nil (w : World) : HS w (.slice Option.none 0 0) 0 [] := ⟨Option.none, rfl, Nat.le_refl _, by unfold maxLen; omega, .inl rfl⟩
theorem HS.open {w : World} {v : Value} {c : Nat} {l : List Ho} (h : HS w v c l) : ∃ ao n, v = .slice ao n c ∧ n = l.length ∧ n ≤ c ∧ c ≤ maxLen ∧ ∀ i, i < n → ∃ b o, ao = some ⟨b, o, none⟩ ∧ At2 w b (o + i * 2) (oi l i) := by
  obtain ⟨ao, h1, h2, h3, h4⟩ := h
  refine ⟨ao, _, h1, rfl, h2, h3, fun i hi => ?_⟩
  rcases h4 with h4 | ⟨b, o, h5, h6⟩
  · rw [h4] at hi; simp at hi
  · exact ⟨b, o, h5, h6 i hi⟩

def ow (rows : List (List Ho)) (i : Nat) : List Ho := rows.getD i []
theorem ow_of_lt {rows : List (List Ho)} {i : Nat} (h : i < rows.length) : ow rows i = rows[i] := by unfold ow; simp [List.getD, h]
theorem ow_mem {rows : List (List Ho)} {i : Nat} (h : i < rows.length) : ow rows i ∈ rows := by rw [ow_of_lt h]; exact List.getElem_mem h
theorem take_succ_ow {l : List (List Ho)} {k : Nat} (h : k < l.length) : l.take (k + 1) = l.take k ++ [ow l k] := by rw [ow_of_lt h]; exact List.take_succ_eq_append_getElem h
theorem drop_ow {r : List (List Ho)} {k : Nat} (h : k < r.length) : r.drop k = ow r k :: r.drop (k + 1) := by rw [ow_of_lt h]; exact List.drop_eq_getElem_cons h
theorem ow_ext {l m : List (List Ho)} (hl : l.length = m.length) (h : ∀ i, i < l.length → ow l i = ow m i) : l = m := by
  apply List.ext_getElem hl
  intro i h1 h2
  have := h i h1
  rwa [ow_of_lt h1, ow_of_lt h2] at this
/-- The slice value v, of capacity c, holds the rows. -/
def HR (w : World) (v : Value) (c : Nat) (rows : List (List Ho)) : Prop :=
  ∃ (ao : Option Addr) (vs : Nat → Value) (caps : Nat → Nat), v = .slice ao rows.length c ∧ rows.length ≤ c ∧ c ≤ maxLen ∧ (rows = [] ∨ ∃ b o, ao = some ⟨b, o, none⟩ ∧ ∀ i, i < rows.length → w.cell? ⟨b, o + i, none⟩ = some (vs i)) ∧ ∀ i, i < rows.length → HS w (vs i) (caps i) (ow rows i)
theorem HR.ext {w w' : World} {v : Value} {c : Nat} {rows : List (List Ho)} (h : HR w v c rows) (e : Ext w w') : HR w' v c rows := by
  obtain ⟨ao, vs, caps, h1, h2, h3, h4, h5⟩ := h
  refine ⟨ao, vs, caps, h1, h2, h3, ?_, fun i hi => (h5 i hi).ext e⟩
  rcases h4 with h4 | ⟨b, o, h6, h7⟩
  · exact .inl h4
  · exact .inr ⟨b, o, h6, fun i hi => e.cell (h7 i hi)⟩
theorem HR.nil (w : World) : HR w (.slice Option.none 0 0) 0 [] := ⟨Option.none, fun _ => undef, fun _ => 0, rfl, Nat.le_refl _, by unfold maxLen; omega, .inl rfl, fun i hi => by simp at hi⟩
theorem HR.open {w : World} {v : Value} {c : Nat} {rows : List (List Ho)} (h : HR w v c rows) : ∃ ao n, v = .slice ao n c ∧ n = rows.length ∧ n ≤ c ∧ c ≤ maxLen ∧
    ∀ i, i < n → ∃ b o a m d, ao = some ⟨b, o, none⟩ ∧ w.cell? ⟨b, o + i, none⟩ = some (.slice a m d) ∧ HS w (.slice a m d) d (ow rows i) := by
  obtain ⟨ao, vs, caps, h1, h2, h3, h4, h5⟩ := h
  refine ⟨ao, _, h1, rfl, h2, h3, fun i hi => ?_⟩
  rcases h4 with h4 | ⟨b, o, h6, h7⟩
  · rw [h4] at hi; simp at hi
  · obtain ⟨a, m, hv, _⟩ := (h5 i hi).open
    have hr := h5 i hi
    rw [hv] at hr
    exact ⟨b, o, a, m, _, h6, by rw [h7 i hi, hv], hr⟩
/-- The two cells of a hole stand in f from 2 i on. -/
def F2 (f : Nat → Value) (i : Nat) (s : Ho) : Prop := f (i * 2) = .int .i64 s.p ∧ f (i * 2 + 1) = .bool s.l
/-- Block g has room for c holes; the first are l. -/
def HO (w : World) (g c : Nat) (l : List Ho) : Prop := l.length ≤ c ∧ c ≤ maxLen ∧ ∃ f, w.rowIs g 39 (c * 2) f ∧ ∀ i, i < l.length → F2 f i (oi l i)
theorem HO.ext {w w' : World} {g c : Nat} {l : List Ho} (h : HO w g c l) (x : Ext w w') : HO w' g c l := by
  obtain ⟨h1, h2, f, h3, h4⟩ := h
  exact ⟨h1, h2, f, x.row h3, h4⟩
theorem HO.lt {w : World} {g c : Nat} {l : List Ho} (h : HO w g c l) : g < w.heap.size := by
  obtain ⟨_, _, f, h3, _⟩ := h
  exact h3.lt
theorem HO.rs {w : World} {g c : Nat} {l : List Ho} (h : HO w g c l) : HS w (.slice (some ⟨g, 0, none⟩) l.length c) c l := by
  obtain ⟨h1, h2, f, h3, h4⟩ := h
  refine ⟨_, rfl, h1, h2, .inr ⟨g, 0, rfl, fun i hi => ?_⟩⟩
  obtain ⟨a, b⟩ := h4 i hi
  rw [Nat.zero_add]
  refine ⟨?_, ?_⟩
  · rw [h3.cell (by omega), a]
  · rw [h3.cell (by omega), b]
theorem HO.frozen {w : World} {g c : Nat} {l : List Ho} (h : HO w g c l) (o : Nat) : w.frozen? ⟨g, o, none⟩ = false := by
  obtain ⟨_, _, f, h3, _⟩ := h
  exact h3.frozen o
theorem HO.shapeCell {w : World} {g c : Nat} {l : List Ho} (h : HO w g c l) {o : Nat} (ho : o < c * 2) : ∃ v, w.cell? ⟨g, o, none⟩ = some v := by
  obtain ⟨_, _, f, h3, _⟩ := h
  exact ⟨_, h3.cell ho⟩
theorem oi_set {l : List Ho} {i j : Nat} {s : Ho} (hi : i < l.length) : oi (l.set i s) j = if j = i then s else oi l j := by
  unfold oi
  by_cases h : j = i
  · subst h; simp [List.getD, hi]
  · rw [if_neg h]
    simp only [List.getD]
    rw [List.getElem?_set_ne (by omega)]
theorem HO.put2 {w : World} {g c : Nat} {l : List Ho} (h : HO w g c l) {i : Nat} (hi : i < l.length) (s : Ho) : HO ((w.setCell ⟨g, i * 2, none⟩ (.int .i64 s.p)).setCell ⟨g, i * 2 + 1, none⟩ (.bool s.l)) g c (l.set i s) := by
  obtain ⟨h1, h2, f, h3, h4⟩ := h
  refine ⟨by simpa using h1, h2, _, (h3.set (i * 2) _).set (i * 2 + 1) _, fun j hj => ?_⟩
  rw [List.length_set] at hj
  rw [oi_set hi]
  obtain ⟨a, b⟩ := h4 j hj
  by_cases hji : j = i
  · subst hji
    rw [if_pos rfl]
    refine ⟨?_, ?_⟩
    · show (if _ then _ else _) = _
      rw [if_neg (by omega)]; exact if_pos rfl
    · exact if_pos rfl
  · rw [if_neg hji]
    refine ⟨?_, ?_⟩ <;> (show (if _ then _ else _) = _; rw [if_neg (by omega)]; show (if _ then _ else _) = _; rw [if_neg (by omega)]; assumption)
theorem HO.setOther {w : World} {g c : Nat} {l : List Ho} (h : HO w g c l) {a : Addr} (ha : g ≠ a.block) (v : Value) : HO (w.setCell a v) g c l := by
  obtain ⟨h1, h2, f, h3, h4⟩ := h
  exact ⟨h1, h2, f, h3.setOther ha v, h4⟩
theorem oi_rep {n i : Nat} {s : Ho} (hi : i < n) : oi (List.replicate n s) i = s := by unfold oi; simp [List.getD, hi]

/-- The zero cells of a hole. -/
def z2 : Array Value := #[.int .i64 0, .bool false]
theorem HO.made (w : World) (n : Nat) (hn : n ≤ maxLen) : HO (w.alloc (.cells (madeCells z2 (n * 2)) 39)) w.heap.size n (List.replicate n Ho.none) := by
  have hz : ∀ i, i < n * 2 → (madeCells z2 (n * 2))[i]? = some (z2[i % 2]!) := fun i hi => by
    unfold madeCells
    simp [hi]
    rfl
  have hr := World.rowIs_alloc w (madeCells z2 (n * 2)) 39 (fun i => z2[i % 2]!) (fun i hi => hz i (by rw [size_madeCells] at hi; exact hi))
  rw [size_madeCells] at hr
  refine ⟨by simp, hn, _, hr, fun i hi => ?_⟩
  rw [List.length_replicate] at hi
  rw [oi_rep hi]
  refine ⟨?_, ?_⟩
  · show z2[(i * 2) % 2]! = _; rw [show (i * 2) % 2 = 0 by omega]; rfl
  · show z2[(i * 2 + 1) % 2]! = _; rw [show (i * 2 + 1) % 2 = 1 by omega]; rfl
theorem run_make_ho (kl kc : IntKind) (n : Nat) (hn : n ≤ 1000000) (w : World) :
    (Instr.makeSlice 37 (.int kl (n : Int)) (.int kc (n : Int))).run Tryd.prog w = .ok (.slice (some ⟨w.heap.size, 0, none⟩) n n) (w.alloc (.cells (madeCells z2 (n * 2)) 39)) := by
  obtain ⟨i, hi, hzz⟩ := Option.map_eq_some_iff.1 (show (Tryd.prog.info? 39).map (fun i => (i.zero, i.size, i.bytes)) = some (some (.agg z2), 2, 16) by kernel_rfl)
  simp only [Prod.mk.injEq] at hzz
  obtain ⟨hz, hs, hb⟩ := hzz
  have hr := run_make (P := Tryd.prog) w 37 39 i (.agg z2) Tryd.underlying37 hi hz kl kc n n (by omega) (Int.le_refl _) (by rw [hb]; omega) (by omega)
  simp only [Int.toNat_natCast, hs] at hr
  exact hr

def hcells (l : List Ho) : List Value := l.flatMap Ho.cs
theorem hcells_len (l : List Ho) : (hcells l).length = l.length * 2 := by
  induction l with
  | nil => rfl
  | cons s l ih => unfold hcells at ih ⊢; rw [List.flatMap_cons, List.length_append, ih]; simp [Ho.cs]; omega
theorem hcells_app (l m : List Ho) : hcells (l ++ m) = hcells l ++ hcells m := by unfold hcells; rw [List.flatMap_append]
theorem hcells_at : ∀ (l : List Ho) (i : Nat), i < l.length → (hcells l)[i * 2]? = some (.int .i64 (oi l i).p) ∧ (hcells l)[i * 2 + 1]? = some (.bool (oi l i).l)
  | [], i, h => by simp at h
  | s :: l, 0, _ => ⟨rfl, rfl⟩
  | s :: l, i + 1, h => by
    have ih := hcells_at l i (by simpa using h)
    have e : oi (s :: l) (i + 1) = oi l i := by unfold oi; simp [List.getD]
    have c : ∀ d, (hcells (s :: l))[(i + 1) * 2 + d]? = (hcells l)[i * 2 + d]? := fun d => by
      rw [show (i + 1) * 2 + d = (i * 2 + d) + 1 + 1 by omega]; rfl
    rw [e]
    have c0 := c 0
    rw [Nat.add_zero, Nat.add_zero] at c0
    rw [c0, c 1]
    exact ih
/-- The cells in memory. -/
theorem HO.news {w : World} {g c : Nat} {l : List Ho} (h : HO w g c l) : ∀ j u, (hcells l)[j]? = some u → w.cell? ((⟨g, 0, none⟩ : Addr).add j) = some u := by
  intro j u hu
  obtain ⟨h1, h2, f, h3, h4⟩ := h
  have hj : j < l.length * 2 := by rw [← hcells_len]; exact (List.getElem?_eq_some_iff.1 hu).1
  have hadd : (⟨g, 0, none⟩ : Addr).add j = ⟨g, j, none⟩ := by simp [Addr.add]; try exact fun h => h.symm
  rw [hadd, h3.cell (by omega)]
  obtain ⟨a0, a1⟩ := h4 (j / 2) (by omega)
  obtain ⟨b0, b1⟩ := hcells_at l (j / 2) (by omega)
  rcases (show j = j / 2 * 2 ∨ j = j / 2 * 2 + 1 by omega) with e | e <;> rw [e] at hu ⊢
  · rw [a0, ← hu, b0]
  · rw [a1, ← hu, b1]
theorem HO.of_own {w : World} {B n : Nat} {v : Value} {l : List Ho} (h : w.ownsRow B 39 2 v n (hcells l)) (hn : 0 < n) : ∃ g c, v = .slice (some ⟨g, 0, none⟩) n c ∧ n = l.length ∧ B ≤ g ∧ HO w g c l := by
  obtain ⟨hl, h⟩ := h
  rw [hcells_len] at hl
  rcases h with ⟨_, h⟩ | ⟨g, cap, cur, hv, hB, hb, hnc, hm, hsz, htk⟩
  · omega
  refine ⟨g, cap, hv, by omega, hB, by omega, hm, fun i => (cur[i]?).getD undef, ⟨cur, hb, hsz, fun i hi => by simp [Array.getElem?_eq_getElem (show i < cur.size by omega)]⟩, fun i hi => ?_⟩
  have hc : ∀ j, j < n * 2 → cur[j]? = (hcells l)[j]? := fun j hj => by
    rw [← htk, List.getElem?_take, if_pos hj, Array.getElem?_toList]
  obtain ⟨b0, b1⟩ := hcells_at l i hi
  refine ⟨?_, ?_⟩ <;> simp only []
  · rw [hc _ (by omega), b0]; rfl
  · rw [hc _ (by omega), b1]; rfl
theorem hcs_one (l : List Ho) : ∀ u ∈ hcells l, u.oneCell' = true := by
  intro u hu
  obtain ⟨s, _, hs⟩ := List.mem_flatMap.1 hu
  simp [Ho.cs] at hs
  rcases hs with rfl | rfl <;> rfl
theorem ho_info : (Tryd.prog.info? 39).map (fun i => (i.zero, i.size, i.bytes)) = some (some (.agg z2), 2, 16) := by kernel_rfl
/-- 'append(s, x...)' of holes of the call's own. -/
theorem app_ho {w : World} {ops : Array Oper} {rest : List Oper} {o : Oper} {a : Act} {Q : Exit → Act → World → Prop}
    (hg : o.guard = none) (s x : Operand) (hop : o.op = Op.call { callee := Callee.builtin Builtin.append, args := #[s, x], argTypes := #[37, 37] })
    (B : Nat) (v : Value) (n : Nat) (xs : List Value) (hs : a.eval s = v) (hown : w.ownsRow B 39 2 v n xs)
    (g c m : Nat) (l : List Ho) (hx : a.eval x = .slice (some ⟨g, 0, none⟩) m c) (hm : m = l.length) (hR : HO w g c l)
    (hlen : n + m ≤ 1000000) (hB : B ≤ w.heap.size)
    (hK : ∀ v' w', w'.ownsRow B 39 2 v' (n + m) (xs ++ hcells l) → Below B w w' → w.grownBy w' v.ownBlock → wpList Tryd.prog ops Q rest (a.put o.dst v') w') :
    wpList Tryd.prog ops Q (o :: rest) a w := by
  obtain ⟨i, hi, hzz⟩ := Option.map_eq_some_iff.1 ho_info
  simp only [Prod.mk.injEq] at hzz
  obtain ⟨hz, hsz, hb⟩ := hzz
  refine wpList_append_own w hg s x 37 hop B 39 i (.agg z2) 2 16 Tryd.underlying37 hi hz hsz hb rfl (by decide) v n xs hs hown ⟨g, 0, none⟩ m c (hcells l) hx (by rw [hcells_len, hm]) hR.news (hcs_one l) (by unfold maxLen; omega) (by omega) hB ?_
  intro v' w' h2 h3 _
  refine hK v' w' h2 ?_ h3
  refine (Below.refl B w).grown h3 hB fun k hk => ?_
  obtain ⟨_, hv | ⟨g', cap, cur, hv, hBg, _⟩⟩ := hown
  · rw [hv.1] at hk; cases hk
  · rw [hv] at hk; injection hk with hk; rw [← hk]; exact hBg
/-- Holes written out in a block. -/
theorem HO.of_blk {w : World} {g : Nat} {l : List Ho} {arr : Array Value} (hb : w.heap[g]? = some (.cells arr 39 (0, 0))) (ha : arr = (hcells l).toArray) (hl : l.length ≤ 1000) : HO w g l.length l := by
  have hsz : arr.size = l.length * 2 := by rw [ha]; simp [hcells_len]
  refine ⟨Nat.le_refl _, by unfold maxLen; omega, fun i => ((hcells l)[i]?).getD undef, ⟨arr, hb, by omega, fun i hi => ?_⟩, fun i hi => ?_⟩
  · rw [ha, List.getElem?_toArray]
    have : i < (hcells l).length := by rw [hcells_len]; exact hi
    simp [this]
  · obtain ⟨b0, b1⟩ := hcells_at l i hi
    refine ⟨?_, ?_⟩ <;> simp only []
    · rw [b0]; rfl
    · rw [b1]; rfl
/-- Block R has room for N rows; the first k are laid: rows i in block q i, of capacity cp i. -/
structure HK (w wr : World) (R N k : Nat) (rows : Nat → List Ho) (q cp : Nat → Nat) : Prop where
  x : Ext w wr
  r0 : w.heap.size ≤ R
  nm : N ≤ maxLen
  row : ∃ f, wr.rowIs R 37 N f ∧ ∀ i, i < k → f i = .slice (some ⟨q i, 0, none⟩) (rows i).length (cp i)
  ro : ∀ i, i < k → HO wr (q i) (cp i) (rows i) ∧ w.heap.size ≤ q i ∧ q i ≠ R
  inj : ∀ i j, i < k → j < k → q i = q j → i = j
theorem HK.start {w wr : World} {R N : Nat} {f : Nat → Value} {rows : Nat → List Ho} {q cp : Nat → Nat} (x : Ext w wr) (h : w.heap.size ≤ R) (hN : N ≤ maxLen) (hr : wr.rowIs R 37 N f) : HK w wr R N 0 rows q cp :=
  ⟨x, h, hN, ⟨f, hr, fun i hi => by omega⟩, fun i hi => by omega, fun i j hi => by omega⟩
theorem HK.later {w wr w' : World} {R N k : Nat} {rows : Nat → List Ho} {q cp : Nat → Nat} (h : HK w wr R N k rows q cp) (x : Ext wr w') : HK w w' R N k rows q cp := by
  obtain ⟨h1, h2, h3, ⟨f, h4, h5⟩, h6, h7⟩ := h
  exact ⟨h1.trans x, h2, h3, ⟨f, x.row h4, h5⟩, fun i hi => ⟨(h6 i hi).1.ext x, (h6 i hi).2⟩, h7⟩
theorem HK.cell {w wr : World} {R N k : Nat} {rows : Nat → List Ho} {q cp : Nat → Nat} (h : HK w wr R N k rows q cp) {i : Nat} (hi : i < k) (hk : k ≤ N) : wr.cell? ⟨R, i, none⟩ = some (.slice (some ⟨q i, 0, none⟩) (rows i).length (cp i)) := by
  obtain ⟨f, h4, h5⟩ := h.row
  rw [h4.cell (by omega), h5 i hi]
theorem HK.ex {w wr : World} {R N k : Nat} {rows : Nat → List Ho} {q cp : Nat → Nat} (h : HK w wr R N k rows q cp) {i : Nat} (hi : i < N) : ∃ v, wr.cell? ⟨R, i, none⟩ = some v := by
  obtain ⟨f, h4, h5⟩ := h.row
  exact ⟨_, h4.cell hi⟩
theorem HK.frozen {w wr : World} {R N k : Nat} {rows : Nat → List Ho} {q cp : Nat → Nat} (h : HK w wr R N k rows q cp) (i : Nat) : wr.frozen? ⟨R, i, none⟩ = false := by
  obtain ⟨f, h4, h5⟩ := h.row
  exact h4.frozen i
theorem HK.lt {w wr : World} {R N k : Nat} {rows : Nat → List Ho} {q cp : Nat → Nat} (h : HK w wr R N k rows q cp) : R < wr.heap.size := by
  obtain ⟨f, h4, h5⟩ := h.row
  exact h4.lt
theorem HK.congr {w wr : World} {R N k : Nat} {rows rows' : Nat → List Ho} {q cp : Nat → Nat} (h : HK w wr R N k rows q cp) (e : ∀ i, i < k → rows i = rows' i) : HK w wr R N k rows' q cp := by
  obtain ⟨h1, h2, h3, ⟨f, h4, h5⟩, h6, h7⟩ := h
  exact ⟨h1, h2, h3, ⟨f, h4, fun i hi => by rw [h5 i hi, e i hi]⟩, fun i hi => by rw [← e i hi]; exact h6 i hi, h7⟩
/-- A row is laid behind the others. -/
theorem HK.put {w wr : World} {R N k g c : Nat} {rows : Nat → List Ho} {q cp : Nat → Nat} {l : List Ho} (h : HK w wr R N k rows q cp) (hk : k < N) (hg : HO wr g c l) (hw : w.heap.size ≤ g) (hR : g ≠ R) (hd : ∀ i, i < k → q i ≠ g) :
    HK w (wr.setCell ⟨R, k, none⟩ (.slice (some ⟨g, 0, none⟩) l.length c)) R N (k + 1) (up rows k l) (up q k g) (up cp k c) := by
  obtain ⟨h1, h2, h3, ⟨f, h4, h5⟩, h6, h7⟩ := h
  refine ⟨h1.setCell h2 _, h2, h3, ⟨_, h4.set k _, fun i hi => ?_⟩, fun i hi => ?_, fun i j hi hj e => ?_⟩
  · by_cases e : i = k
    · subst e; simp [up]
    · rw [up_ne _ _ e, up_ne _ _ e, up_ne _ _ e, ← h5 i (by omega)]
      exact if_neg e
  · by_cases e : i = k
    · subst e; rw [up_at, up_at, up_at]
      exact ⟨hg.setOther hR _, hw, hR⟩
    · rw [up_ne _ _ e, up_ne _ _ e, up_ne _ _ e]
      obtain ⟨a, b, c'⟩ := h6 i (by omega)
      exact ⟨a.setOther c' _, b, c'⟩
  · by_cases ei : i = k
    · by_cases ej : j = k
      · omega
      · subst ei; rw [up_at, up_ne _ _ ej] at e
        exact absurd e.symm (hd j (by omega))
    · by_cases ej : j = k
      · subst ej; rw [up_at, up_ne _ _ ei] at e
        exact absurd e (hd i (by omega))
      · rw [up_ne _ _ ei, up_ne _ _ ej] at e
        exact h7 i j (by omega) (by omega) e
/-- A cell of row j is written. -/
theorem HK.set {w wr : World} {R N k j o : Nat} {rows : Nat → List Ho} {q cp : Nat → Nat} {v : Value} {l' : List Ho} (h : HK w wr R N k rows q cp) (hj : j < k) (hl : HO (wr.setCell ⟨q j, o, none⟩ v) (q j) (cp j) l') (hlen : l'.length = (rows j).length) :
    HK w (wr.setCell ⟨q j, o, none⟩ v) R N k (up rows j l') q cp := by
  obtain ⟨h1, h2, h3, ⟨f, h4, h5⟩, h6, h7⟩ := h
  refine ⟨h1.setCell (h6 j hj).2.1 _, h2, h3, ⟨f, h4.setOther (fun e => (h6 j hj).2.2 e.symm) _, fun i hi => ?_⟩, fun i hi => ?_, h7⟩
  · by_cases e : i = j
    · subst e; rw [up_at, hlen]; exact h5 i hi
    · rw [up_ne _ _ e]; exact h5 i hi
  · by_cases e : i = j
    · subst e; rw [up_at]; exact ⟨hl, (h6 i hi).2⟩
    · rw [up_ne _ _ e]
      exact ⟨(h6 i hi).1.setOther (fun c => e (h7 i j hi hj c)) _, (h6 i hi).2⟩
/-- All rows are laid. -/
theorem HK.rr {w wr : World} {R N : Nat} {rows : Nat → List Ho} {q cp : Nat → Nat} (h : HK w wr R N N rows q cp) : HR wr (.slice (some ⟨R, 0, none⟩) N N) N ((List.range N).map rows) := by
  have hl : ((List.range N).map rows).length = N := by simp
  have hs : ∀ i, i < N → ow ((List.range N).map rows) i = rows i := fun i hi => by rw [ow_of_lt (by rw [hl]; exact hi)]; simp
  refine ⟨_, fun i => .slice (some ⟨q i, 0, none⟩) (rows i).length (cp i), cp, by rw [hl], by omega, h.nm, .inr ⟨R, 0, rfl, fun i hi => ?_⟩, fun i hi => ?_⟩
  · rw [hl] at hi; rw [Nat.zero_add]; exact h.cell hi (Nat.le_refl _)
  · rw [hl] at hi; rw [hs i hi]; exact (h.ro i hi).1.rs
theorem ow_range {N : Nat} {rows : Nat → List Ho} {l : List (List Ho)} (hl : l.length = N) (h : ∀ i, i < N → rows i = ow l i) : (List.range N).map rows = l := by
  apply List.ext_getElem (by simpa using hl.symm)
  intro i h1 h2
  have hi : i < N := by simpa using h1
  rw [List.getElem_map, List.getElem_range, h i hi, ow_of_lt h2]
theorem eiHows : EI Tryd.prog 22 37 (.slice Option.none 0 0) 24 := ⟨Tryd.underlying22, by kernel_rfl, rfl⟩
theorem HO.block {w : World} {g c : Nat} {l : List Ho} (h : HO w g c l) : ∃ cs, w.heap[g]? = some (.cells cs 39 (0, 0)) := by
  obtain ⟨_, _, f, ⟨cur, h3, _⟩, _⟩ := h
  exact ⟨cur, h3⟩
theorem HO.of_block {w w' : World} {g c : Nat} {l : List Ho} (h : HO w g c l) (e : w'.heap[g]? = w.heap[g]?) : HO w' g c l := by
  obtain ⟨h1, h2, f, h3, h4⟩ := h
  exact ⟨h1, h2, f, h3.of_block e, h4⟩
theorem HO.grown {w w' : World} {g c B n : Nat} {e : TypeId} {l : List Ho} {v : Value} {xs : List Value} {z : Nat} (h : HO w g c l) (ho : w.ownsRow B e z v n xs) (hg : w.grownBy w' v.ownBlock) (ht : 39 ≠ e) : HO w' g c l := by
  obtain ⟨cs, hb⟩ := h.block
  exact h.of_block ((blk_grown ho hg hb ht).trans hb.symm)

/-- A row of stitches of the call's own, or nil. -/
def HV (w : World) (u : Value) (l : List Ho) : Prop := (u = .slice Option.none 0 0 ∧ l = []) ∨ ∃ q c, u = .slice (some ⟨q, 0, Option.none⟩) l.length c ∧ HO w q c l
theorem HV.ext {w w' : World} {u : Value} {l : List Ho} (h : HV w u l) (x : Ext w w') : HV w' u l := by
  rcases h with h | ⟨q, c, h1, h2⟩
  · exact .inl h
  · exact .inr ⟨q, c, h1, h2.ext x⟩
theorem HV.grown {w w' : World} {B n : Nat} {e : TypeId} {u : Value} {l : List Ho} {v : Value} {xs : List Value} {z : Nat} (h : HV w u l) (ho : w.ownsRow B e z v n xs) (hg : w.grownBy w' v.ownBlock) (ht : 39 ≠ e) : HV w' u l := by
  rcases h with h | ⟨q, c, h1, h2⟩
  · exact .inl h
  · exact .inr ⟨q, c, h1, h2.grown ho hg ht⟩
theorem HV.setOther {w : World} {u u' : Value} {l : List Ho} (h : HV w u l) {a : Addr} {cs : Array Value} {t : TypeId} {q : Nat × Nat} (hb : w.heap[a.block]? = some (.cells cs t q)) (ht : 39 ≠ t) : HV (w.setCell a u') u l := by
  rcases h with h | ⟨g, c, h1, h2⟩
  · exact .inl h
  · refine .inr ⟨g, c, h1, h2.setOther (fun e => ?_) _⟩
    obtain ⟨cs', hb2⟩ := h2.block
    rw [e, hb] at hb2
    simp only [Option.some.injEq, Obj.cells.injEq] at hb2
    exact ht hb2.2.1.symm
theorem HV.rs {w : World} {u : Value} {l : List Ho} (h : HV w u l) : ∃ c, HS w u c l := by
  rcases h with ⟨rfl, rfl⟩ | ⟨q, c, rfl, h2⟩
  · exact ⟨0, HS.nil w⟩
  · exact ⟨c, h2.rs⟩
theorem HV.form {w : World} {u : Value} {l : List Ho} (h : HV w u l) : ∃ a n c, u = .slice a n c ∧ n = l.length := by
  rcases h with ⟨rfl, rfl⟩ | ⟨q, c, rfl, h2⟩
  · exact ⟨_, _, _, rfl, rfl⟩
  · exact ⟨_, _, _, rfl, rfl⟩
theorem HV.of_own {w : World} {B n : Nat} {v : Value} {l : List Ho} (h : w.ownsRow B 39 2 v n (hcells l)) : HV w v l ∧ n = l.length := by
  have hl := h.1
  rw [hcells_len] at hl
  by_cases h0 : 0 < n
  · obtain ⟨g, c, hv, hn, _, hr⟩ := HO.of_own h h0
    rw [hn] at hv
    exact ⟨.inr ⟨g, c, hv, hr⟩, hn⟩
  · have hnl : l = [] := List.eq_nil_of_length_eq_zero (by omega)
    subst hnl
    have hn0 : n = 0 := by omega
    subst hn0
    refine ⟨?_, rfl⟩
    obtain ⟨_, ⟨hv, _⟩ | ⟨g, cap, cur, hv, hB, hb, hnc, hm, hsz, htk⟩⟩ := h
    · exact .inl ⟨hv, rfl⟩
    · exact .inr ⟨g, cap, hv, by simp, hm, fun i => (cur[i]?).getD undef, ⟨cur, hb, by omega, fun i hi => by simp [Array.getElem?_eq_getElem (show i < cur.size by omega)]⟩, fun i hi => by simp at hi⟩

/-- The rows that were appended so far. -/
def HC (w wr : World) (v : Value) (rows : List (List Ho)) : Prop :=
  Ext w wr ∧ ∃ vs : List Value, wr.ownsRow w.heap.size 37 1 v rows.length vs ∧ ∀ i, i < rows.length → ∃ u, vs[i]? = some u ∧ HV wr u (ow rows i)
theorem HC.nil {w wr : World} (x : Ext w wr) : HC w wr (.slice Option.none 0 0) [] := ⟨x, [], World.ownsRow_nil _ _ _ _, fun i hi => by simp at hi⟩
theorem HC.later {w wr w' : World} {v : Value} {rows : List (List Ho)} (h : HC w wr v rows) (x : Ext wr w') : HC w w' v rows := by
  obtain ⟨h1, vs, h2, h3⟩ := h
  exact ⟨h1.trans x, vs, own_ext h2 x, fun i hi => by obtain ⟨u, a, b⟩ := h3 i hi; exact ⟨u, a, b.ext x⟩⟩
theorem HC.setOther {w wr : World} {v u' : Value} {rows : List (List Ho)} (h : HC w wr v rows) {a : Addr} {cs : Array Value} {t : TypeId} {q : Nat × Nat} (hb : wr.heap[a.block]? = some (.cells cs t q)) (ht1 : 39 ≠ t) (ht2 : t ≠ 37) (hw : w.heap.size ≤ a.block) : HC w (wr.setCell a u') v rows := by
  obtain ⟨h1, vs, h2, h3⟩ := h
  exact ⟨h1.setCell hw _, vs, own_setOther h2 (own_ne h2 hb ht2), fun i hi => by obtain ⟨u, a', b⟩ := h3 i hi; exact ⟨u, a', b.setOther hb ht1⟩⟩
theorem HC.form {w wr : World} {v : Value} {rows : List (List Ho)} (h : HC w wr v rows) : ∃ a n c, v = .slice a n c ∧ n = rows.length := by
  obtain ⟨_, vs, ⟨_, ⟨hv, hn⟩ | ⟨g, cap, cur, hv, _⟩⟩, _⟩ := h
  · exact ⟨_, _, _, hv, hn.symm⟩
  · exact ⟨_, _, _, hv, rfl⟩
theorem ow_app (a : List (List Ho)) (x : List Ho) {j : Nat} (h : j < a.length) : ow (a ++ [x]) j = ow a j := by unfold ow; simp [List.getD, List.getElem?_append_left h]
theorem ow_new (a : List (List Ho)) (x : List Ho) : ow (a ++ [x]) a.length = x := by unfold ow; simp [List.getD]
theorem HC.rr {w wr : World} {v : Value} {rows : List (List Ho)} (h : HC w wr v rows) : ∃ c, HR wr v c rows := by
  obtain ⟨h1, vs, h2, h3⟩ := h
  obtain ⟨c, ao, hv, hl, hm, hno, hc⟩ := VS.of_own h2
  have hlen : vs.length = rows.length := by have := h2.1; omega
  have hcap : ∀ i, ∃ c', i < rows.length → HS wr (vs.getD i undef) c' (ow rows i) := fun i => by
    by_cases hi : i < rows.length
    · obtain ⟨u, a, b⟩ := h3 i hi
      obtain ⟨c', hr⟩ := b.rs
      exact ⟨c', fun _ => by rw [show vs.getD i undef = u by simp [List.getD, a]]; exact hr⟩
    · exact ⟨0, fun h => absurd h hi⟩
  refine ⟨c, ao, fun i => vs.getD i undef, fun i => (hcap i).choose, by rw [hv, hlen], by omega, hm, ?_, fun i hi => (hcap i).choose_spec hi⟩
  by_cases h0 : rows.length = 0
  · exact .inl (List.eq_nil_of_length_eq_zero h0)
  · cases ao with
    | none => have := hno rfl; omega
    | some a =>
      obtain ⟨b, o, s⟩ := a
      obtain ⟨hs, hcell⟩ := hc _ rfl
      have hs' : s = Option.none := hs (by omega)
      subst hs'
      exact .inr ⟨b, o, rfl, fun i hi => hcell i _ (by obtain ⟨u, a, _⟩ := h3 i hi; rw [a]; simp [List.getD, a])⟩
/-- 'c.Rows = append(c.Rows, row)'. -/
theorem app_how {w : World} {ops : Array Oper} {rest : List Oper} {o : Oper} {a : Act} {Q : Exit → Act → World → Prop}
    (hg : o.guard = Option.none) (s x : Operand) (hop : o.op = Op.call { callee := Callee.builtin Builtin.append, args := #[s, x], argTypes := #[22, 22] })
    (wb : World) (v : Value) (rows : List (List Ho)) (hs : a.eval s = v) (hco : HC wb w v rows) (u : Value) (l : List Ho) (hu : HV w u l)
    (g : Nat) (hx : a.eval x = .slice (some ⟨g, 0, Option.none⟩) 1 1) (hgw : g = w.heap.size) (hlen : rows.length ≤ 100000)
    (hK : ∀ v' w', HC wb w' v' (rows ++ [l]) → (∀ (b : Nat) (cs : Array Value) (t : TypeId) (q : Nat × Nat), w.heap[b]? = some (Obj.cells cs t q) → t ≠ 37 → w'.heap[b]? = some (Obj.cells cs t q)) → wpList Tryd.prog ops Q rest (a.put o.dst v') w') :
    wpList Tryd.prog ops Q (o :: rest) a (w.alloc (.cells #[u] 37)) := by
  obtain ⟨h1, vs, h2, h3⟩ := hco
  subst hgw
  have hvl : vs.length = rows.length := by have := h2.1; omega
  have h1u : ∀ y ∈ [u], y.oneCell' = true := by
    intro y hy
    obtain rfl := List.mem_singleton.1 hy
    obtain ⟨a', n', c', rfl, _⟩ := hu.form
    rfl
  have xa : Ext w (w.alloc (.cells #[u] 37)) := (Ext.refl w).alloc _
  refine app_own_g eiHows hg s x hop wb.heap.size v rows.length vs hs (own_ext h2 xa) _ 1 [u] hx (VS.one _ _ _) h1u (by simp; omega) (by simp; omega) (Nat.le_trans h1.size xa.size) ?_
  intro v' w' ho hgr
  have hst : 39 ≠ 37 := by decide
  refine hK v' w' ⟨?_, vs ++ [u], by simpa using ho, fun i hi => ?_⟩ (fun b cs t q hb ht => blk_grown (own_ext h2 xa) hgr (xa.block hb) ht)
  · refine (h1.trans xa).grown hgr fun k hk => ?_
    obtain ⟨_, ⟨hv, _⟩ | ⟨g', cap, cur, hv, hBg, _⟩⟩ := h2
    · rw [hv] at hk; cases hk
    · rw [hv] at hk; have : g' = k := by simpa [Value.ownBlock] using hk
      omega
  · rw [List.length_append, List.length_singleton] at hi
    by_cases e : i < rows.length
    · obtain ⟨u', a', b'⟩ := h3 i e
      rw [ow_app _ _ e]
      exact ⟨u', by rw [List.getElem?_append_left (by omega)]; exact a', (b'.ext xa).grown (own_ext h2 xa) hgr hst⟩
    · obtain rfl : i = rows.length := by omega
      rw [ow_new]
      exact ⟨u, by rw [List.getElem?_append_right (by omega)]; simp [hvl], (hu.ext xa).grown (own_ext h2 xa) hgr hst⟩

end Go.Proofs.YthllbcjglcplhaaDoor
