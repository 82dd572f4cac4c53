/- Texts of this claim in one file: libraries and walks. -/
import Derived.Test.YtinijapkipeamaaDoorMOf3
import Derived.Test.YtinijapkipeamaaDoorMOf4
import Derived.Test.YtinijapkipeamaaDoorMOf5
/- Rows of stitches of the call's own: their cells; append. -/
namespace Go.Proofs.YtinijapkipeamaaDoor
set_option linter.unusedVariables false
set_option linter.unusedSimpArgs false
set_option maxRecDepth 8000
open Go Go.RowKit

def cells (l : List St) : List Value := l.flatMap St.cs
theorem cells_len (l : List St) : (cells l).length = l.length * 5 := by
  induction l with
  | nil => rfl
  | cons s l ih => unfold cells at ih ⊢; rw [List.flatMap_cons, List.length_append, ih]; simp [St.cs]; omega
theorem cells_app (l m : List St) : cells (l ++ m) = cells l ++ cells m := by unfold cells; rw [List.flatMap_append]
theorem cells_at : ∀ (l : List St) (i : Nat), i < l.length → (cells l)[i * 5]? = some (.int .u8 (si l i).k) ∧ (cells l)[i * 5 + 1]? = some (.int .u8 (si l i).y) ∧ (cells l)[i * 5 + 2]? = some (.int .i64 (si l i).a) ∧ (cells l)[i * 5 + 3]? = some (.int .i64 (si l i).b) ∧ (cells l)[i * 5 + 4]? = some (.bool (si l i).f)
  | [], i, h => by simp at h
  | s :: l, 0, _ => ⟨rfl, rfl, rfl, rfl, rfl⟩
  | s :: l, i + 1, h => by
    have ih := cells_at l i (by simpa using h)
    have e : si (s :: l) (i + 1) = si l i := by unfold si; simp [List.getD]
    have c : ∀ d, (cells (s :: l))[(i + 1) * 5 + d]? = (cells l)[i * 5 + d]? := fun d => by
      rw [show (i + 1) * 5 + d = (i * 5 + d) + 1 + 1 + 1 + 1 + 1 by omega]; rfl
    rw [e]
    have c0 := c 0
    rw [Nat.add_zero, Nat.add_zero] at c0
    rw [c0, c 1, c 2, c 3, c 4]
    exact ih
/-- The cells in memory. -/
theorem RO.news {w : World} {g c : Nat} {l : List St} (h : RO w g c l) : ∀ j u, (cells l)[j]? = some u → w.cell? ((⟨g, 0, none⟩ : Addr).add j) = some u := by
  intro j u hu
  obtain ⟨h1, h2, f, h3, h4⟩ := h
  have hj : j < l.length * 5 := by rw [← cells_len]; exact (List.getElem?_eq_some_iff.1 hu).1
  have hadd : (⟨g, 0, none⟩ : Addr).add j = ⟨g, j, none⟩ := by simp [Addr.add]; try exact fun h => h.symm
  rw [hadd, h3.cell (by omega)]
  obtain ⟨a0, a1, a2, a3, a4⟩ := h4 (j / 5) (by omega)
  obtain ⟨b0, b1, b2, b3, b4⟩ := cells_at l (j / 5) (by omega)
  rcases (show j = j / 5 * 5 ∨ j = j / 5 * 5 + 1 ∨ j = j / 5 * 5 + 2 ∨ j = j / 5 * 5 + 3 ∨ j = j / 5 * 5 + 4 by omega) with e | e | e | e | e <;> rw [e] at hu ⊢
  · rw [a0, ← hu, b0]
  · rw [a1, ← hu, b1]
  · rw [a2, ← hu, b2]
  · rw [a3, ← hu, b3]
  · rw [a4, ← hu, b4]
theorem RO.of_own {w : World} {B n : Nat} {v : Value} {l : List St} (h : w.ownsRow B 52 5 v n (cells l)) (hn : 0 < n) : ∃ g c, v = .slice (some ⟨g, 0, none⟩) n c ∧ n = l.length ∧ B ≤ g ∧ RO w g c l := by
  obtain ⟨hl, h⟩ := h
  rw [cells_len] at hl
  rcases h with ⟨_, h⟩ | ⟨g, cap, cur, hv, hB, hb, hnc, hm, hsz, htk⟩
  · omega
  refine ⟨g, cap, hv, by omega, hB, by omega, hm, fun i => (cur[i]?).getD undef, ⟨cur, hb, hsz, fun i hi => by simp [Array.getElem?_eq_getElem (show i < cur.size by omega)]⟩, fun i hi => ?_⟩
  have hc : ∀ j, j < n * 5 → cur[j]? = (cells l)[j]? := fun j hj => by
    rw [← htk, List.getElem?_take, if_pos hj, Array.getElem?_toList]
  obtain ⟨b0, b1, b2, b3, b4⟩ := cells_at l i hi
  refine ⟨?_, ?_, ?_, ?_, ?_⟩ <;> simp only []
  · rw [hc _ (by omega), b0]; rfl
  · rw [hc _ (by omega), b1]; rfl
  · rw [hc _ (by omega), b2]; rfl
  · rw [hc _ (by omega), b3]; rfl
  · rw [hc _ (by omega), b4]; rfl
theorem cs_one (l : List St) : ∀ u ∈ cells l, u.oneCell' = true := by
  intro u hu
  obtain ⟨s, _, hs⟩ := List.mem_flatMap.1 hu
  simp [St.cs] at hs
  rcases hs with rfl | rfl | rfl | rfl | rfl <;> rfl
/-- 'append(s, x...)' of stitches of the call's own. -/
theorem app_st {w : World} {ops : Array Oper} {rest : List Oper} {o : Oper} {a : Act} {Q : Exit → Act → World → Prop}
    (hg : o.guard = none) (s x : Operand) (hop : o.op = Op.call { callee := Callee.builtin Builtin.append, args := #[s, x], argTypes := #[48, 48] })
    (B : Nat) (v : Value) (n : Nat) (xs : List Value) (hs : a.eval s = v) (hown : w.ownsRow B 52 5 v n xs)
    (g c m : Nat) (l : List St) (hx : a.eval x = .slice (some ⟨g, 0, none⟩) m c) (hm : m = l.length) (hR : RO w g c l)
    (hlen : n + m ≤ 1000000) (hB : B ≤ w.heap.size)
    (hK : ∀ v' w', w'.ownsRow B 52 5 v' (n + m) (xs ++ cells l) → Below B w w' → wpList Tryd.prog ops Q rest (a.put o.dst v') w') :
    wpList Tryd.prog ops Q (o :: rest) a w := by
  obtain ⟨i, hi, hzz⟩ := Option.map_eq_some_iff.1 (show (Tryd.prog.info? 52).map (fun i => (i.zero, i.size, i.bytes)) = some (some (.agg z5), 5, 32) by kernel_rfl)
  simp only [Prod.mk.injEq] at hzz
  obtain ⟨hz, hsz, hb⟩ := hzz
  refine wpList_append_own w hg s x 48 hop B 52 i (.agg z5) 5 32 Tryd.underlying48 hi hz hsz hb rfl (by decide) v n xs hs hown ⟨g, 0, none⟩ m c (cells l) hx (by rw [cells_len, hm]) hR.news (cs_one l) (by unfold maxLen; omega) (by omega) hB ?_
  intro v' w' h2 h3 _
  refine hK v' w' h2 ?_
  refine (Below.refl B w).grown h3 hB fun k hk => ?_
  obtain ⟨_, hv | ⟨g', cap, cur, hv, hBg, _⟩⟩ := hown
  · rw [hv.1] at hk; cases hk
  · rw [hv] at hk; injection hk with hk; rw [← hk]; exact hBg
end Go.Proofs.YtinijapkipeamaaDoor
/- Charts that a call builds by appending rows. -/
namespace Go.Proofs.YtinijapkipeamaaDoor
set_option linter.unusedVariables false
set_option linter.unusedSimpArgs false
set_option maxRecDepth 8000
open Go Go.RowKit

/-- 'append(s, x...)', s the call's own, x any slice: with all that is known of the new world. -/
theorem app_own_g {P : Program} {t e : TypeId} {z : Value} {bytes : Nat} (ei : EI P t e z bytes) {w : World} {ops : Array Oper} {rest : List Oper} {o : Oper} {a : Act} {Q : Exit → Act → World → Prop}
    (hg : o.guard = none) (s x : Operand) (hop : o.op = Op.call { callee := Callee.builtin Builtin.append, args := #[s, x], argTypes := #[t, t] })
    (B : Nat) (v : Value) (n : Nat) (xs : List Value) (hs : a.eval s = v) (hown : w.ownsRow B e 1 v n xs)
    (y : Value) (c : Nat) (ys : List Value) (hx : a.eval x = y) (hy : VS w y c ys) (h1 : ∀ u ∈ ys, u.oneCell' = true)
    (hbytes : (n + ys.length) * bytes ≤ 140737488355328) (hlen : n + ys.length ≤ 140737488355328) (hB : B ≤ w.heap.size)
    (hK : ∀ v' w', w'.ownsRow B e 1 v' (n + ys.length) (xs ++ ys) → w.grownBy w' v.ownBlock → wpList P ops Q rest (a.put o.dst v') w') :
    wpList P ops Q (o :: rest) a w := by
  obtain ⟨i, hi, hz0, hz1, hz2⟩ := info_parts ei.info
  obtain ⟨ao, rfl, hl, hm, hno, hc⟩ := hy
  have hzs : z.cells.size = 1 := by rw [ei.cell]; rfl
  cases ao with
  | none =>
    have hc0 := hno rfl
    have hys : ys = [] := List.eq_nil_of_length_eq_zero (by omega)
    subst hys
    subst hc0
    exact wpList_append_own_none hg s x t hop B e i 1 ei.und hi v n xs hs hown hx (hK v w (by simpa using hown) (World.grownBy.refl _ _))
  | some ad =>
    refine wpList_append_own w hg s x t hop B e i z 1 bytes ei.und hi hz0 hz1 hz2 hzs (by decide) v n xs hs hown ad ys.length c ys hx (by simp) (VS.cells hl hc ad rfl) h1 (by unfold maxLen; omega) hbytes hB ?_
    intro v' w' h2 h3 _
    exact hK v' w' h2 h3

/-- A block of another type is no row of the call's own. -/
theorem own_ne {w : World} {B n : Nat} {e t : TypeId} {v : Value} {xs : List Value} {z : Nat} (ho : w.ownsRow B e z v n xs) {b : Nat} {cs : Array Value} {q : Nat × Nat} (hb : w.heap[b]? = some (.cells cs t q)) (ht : t ≠ e) : v.ownBlock ≠ some b := by
  intro he
  obtain ⟨_, ⟨hv, _⟩ | ⟨g, cap, cur, hv, hB, hb2, _⟩⟩ := ho
  · rw [hv] at he; cases he
  · rw [hv] at he
    have : g = b := by simpa [Value.ownBlock] using he
    subst this
    rw [hb2] at hb
    simp only [Option.some.injEq, Obj.cells.injEq] at hb
    exact ht hb.2.1.symm
theorem blk_grown {w w' : World} {B n : Nat} {e t : TypeId} {v : Value} {xs : List Value} {z : Nat} (ho : w.ownsRow B e z v n xs) (hg : w.grownBy w' v.ownBlock) {b : Nat} {cs : Array Value} {q : Nat × Nat} (hb : w.heap[b]? = some (.cells cs t q)) (ht : t ≠ e) : w'.heap[b]? = some (.cells cs t q) := by
  have hlt : b < w.heap.size := (Array.getElem?_eq_some_iff.1 hb).1
  rw [hg.block b hlt (fun e => own_ne ho hb ht e.symm)]; exact hb
/-- A store elsewhere keeps a row of the call's own. -/
theorem own_setOther {w : World} {B n : Nat} {e : TypeId} {v u : Value} {xs : List Value} {z : Nat} (ho : w.ownsRow B e z v n xs) {a : Addr} (hne : v.ownBlock ≠ some a.block) : (w.setCell a u).ownsRow B e z v n xs := by
  obtain ⟨h1, ⟨hv, h2⟩ | ⟨g, cap, cur, hv, hB, hb2, h3⟩⟩ := ho
  · exact ⟨h1, .inl ⟨hv, h2⟩⟩
  · refine ⟨h1, .inr ⟨g, cap, cur, hv, hB, ?_, h3⟩⟩
    rw [Deep.blk_setCell_other _ _ _ _ (fun e => hne (by rw [hv, ← e]; rfl))]; exact hb2

theorem RO.block {w : World} {g c : Nat} {l : List St} (h : RO w g c l) : ∃ cs, w.heap[g]? = some (.cells cs 52 (0, 0)) := by
  obtain ⟨_, _, f, ⟨cur, h3, _⟩, _⟩ := h
  exact ⟨cur, h3⟩
theorem RO.of_block {w w' : World} {g c : Nat} {l : List St} (h : RO w g c l) (e : w'.heap[g]? = w.heap[g]?) : RO w' g c l := by
  obtain ⟨h1, h2, f, h3, h4⟩ := h
  exact ⟨h1, h2, f, h3.of_block e, h4⟩
theorem RO.grown {w w' : World} {g c B n : Nat} {e : TypeId} {l : List St} {v : Value} {xs : List Value} {z : Nat} (h : RO w g c l) (ho : w.ownsRow B e z v n xs) (hg : w.grownBy w' v.ownBlock) (ht : 52 ≠ e) : RO w' g c l := by
  obtain ⟨cs, hb⟩ := h.block
  exact h.of_block ((blk_grown ho hg hb ht).trans hb.symm)

/-- A row of stitches of the call's own, or nil. -/
def RV (w : World) (u : Value) (l : List St) : Prop := (u = .slice Option.none 0 0 ∧ l = []) ∨ ∃ q c, u = .slice (some ⟨q, 0, Option.none⟩) l.length c ∧ RO w q c l
theorem RV.ext {w w' : World} {u : Value} {l : List St} (h : RV w u l) (x : Ext w w') : RV w' u l := by
  rcases h with h | ⟨q, c, h1, h2⟩
  · exact .inl h
  · exact .inr ⟨q, c, h1, h2.ext x⟩
theorem RV.grown {w w' : World} {B n : Nat} {e : TypeId} {u : Value} {l : List St} {v : Value} {xs : List Value} {z : Nat} (h : RV w u l) (ho : w.ownsRow B e z v n xs) (hg : w.grownBy w' v.ownBlock) (ht : 52 ≠ e) : RV w' u l := by
  rcases h with h | ⟨q, c, h1, h2⟩
  · exact .inl h
  · exact .inr ⟨q, c, h1, h2.grown ho hg ht⟩
theorem RV.setOther {w : World} {u u' : Value} {l : List St} (h : RV w u l) {a : Addr} {cs : Array Value} {t : TypeId} {q : Nat × Nat} (hb : w.heap[a.block]? = some (.cells cs t q)) (ht : 52 ≠ t) : RV (w.setCell a u') u l := by
  rcases h with h | ⟨g, c, h1, h2⟩
  · exact .inl h
  · refine .inr ⟨g, c, h1, h2.setOther (fun e => ?_) _⟩
    obtain ⟨cs', hb2⟩ := h2.block
    rw [e, hb] at hb2
    simp only [Option.some.injEq, Obj.cells.injEq] at hb2
    exact ht hb2.2.1.symm
theorem RV.rs {w : World} {u : Value} {l : List St} (h : RV w u l) : ∃ c, RS w u c l := by
  rcases h with ⟨rfl, rfl⟩ | ⟨q, c, rfl, h2⟩
  · exact ⟨0, RS.nil w⟩
  · exact ⟨c, h2.rs⟩
theorem RV.form {w : World} {u : Value} {l : List St} (h : RV w u l) : ∃ a n c, u = .slice a n c ∧ n = l.length := by
  rcases h with ⟨rfl, rfl⟩ | ⟨q, c, rfl, h2⟩
  · exact ⟨_, _, _, rfl, rfl⟩
  · exact ⟨_, _, _, rfl, rfl⟩
theorem RV.of_own {w : World} {B n : Nat} {v : Value} {l : List St} (h : w.ownsRow B 52 5 v n (cells l)) : RV w v l ∧ n = l.length := by
  have hl := h.1
  rw [cells_len] at hl
  by_cases h0 : 0 < n
  · obtain ⟨g, c, hv, hn, _, hr⟩ := RO.of_own h h0
    rw [hn] at hv
    exact ⟨.inr ⟨g, c, hv, hr⟩, hn⟩
  · have hnl : l = [] := List.eq_nil_of_length_eq_zero (by omega)
    subst hnl
    have hn0 : n = 0 := by omega
    subst hn0
    refine ⟨?_, rfl⟩
    obtain ⟨_, ⟨hv, _⟩ | ⟨g, cap, cur, hv, hB, hb, hnc, hm, hsz, htk⟩⟩ := h
    · exact .inl ⟨hv, rfl⟩
    · exact .inr ⟨g, cap, hv, by simp, hm, fun i => (cur[i]?).getD undef, ⟨cur, hb, by omega, fun i hi => by simp [Array.getElem?_eq_getElem (show i < cur.size by omega)]⟩, fun i hi => by simp at hi⟩

/-- The rows that were appended so far. -/
def CO (w wr : World) (v : Value) (rows : List (List St)) : Prop :=
  Ext w wr ∧ ∃ vs : List Value, wr.ownsRow w.heap.size 48 1 v rows.length vs ∧ ∀ i, i < rows.length → ∃ u, vs[i]? = some u ∧ RV wr u (sw rows i)
theorem CO.nil {w wr : World} (x : Ext w wr) : CO w wr (.slice Option.none 0 0) [] := ⟨x, [], World.ownsRow_nil _ _ _ _, fun i hi => by simp at hi⟩
theorem CO.later {w wr w' : World} {v : Value} {rows : List (List St)} (h : CO w wr v rows) (x : Ext wr w') : CO w w' v rows := by
  obtain ⟨h1, vs, h2, h3⟩ := h
  exact ⟨h1.trans x, vs, own_ext h2 x, fun i hi => by obtain ⟨u, a, b⟩ := h3 i hi; exact ⟨u, a, b.ext x⟩⟩
theorem CO.setOther {w wr : World} {v u' : Value} {rows : List (List St)} (h : CO w wr v rows) {a : Addr} {cs : Array Value} {t : TypeId} {q : Nat × Nat} (hb : wr.heap[a.block]? = some (.cells cs t q)) (ht1 : 52 ≠ t) (ht2 : t ≠ 48) (hw : w.heap.size ≤ a.block) : CO w (wr.setCell a u') v rows := by
  obtain ⟨h1, vs, h2, h3⟩ := h
  exact ⟨h1.setCell hw _, vs, own_setOther h2 (own_ne h2 hb ht2), fun i hi => by obtain ⟨u, a', b⟩ := h3 i hi; exact ⟨u, a', b.setOther hb ht1⟩⟩
theorem CO.form {w wr : World} {v : Value} {rows : List (List St)} (h : CO w wr v rows) : ∃ a n c, v = .slice a n c ∧ n = rows.length := by
  obtain ⟨_, vs, ⟨_, ⟨hv, hn⟩ | ⟨g, cap, cur, hv, _⟩⟩, _⟩ := h
  · exact ⟨_, _, _, hv, hn.symm⟩
  · exact ⟨_, _, _, hv, rfl⟩
theorem sw_app (a : List (List St)) (x : List St) {j : Nat} (h : j < a.length) : sw (a ++ [x]) j = sw a j := by unfold sw; simp [List.getD, List.getElem?_append_left h]
theorem sw_new (a : List (List St)) (x : List St) : sw (a ++ [x]) a.length = x := by unfold sw; simp [List.getD]
theorem CO.rr {w wr : World} {v : Value} {rows : List (List St)} (h : CO w wr v rows) : ∃ c, RR wr v c rows := by
  obtain ⟨h1, vs, h2, h3⟩ := h
  obtain ⟨c, ao, hv, hl, hm, hno, hc⟩ := VS.of_own h2
  have hlen : vs.length = rows.length := by have := h2.1; omega
  have hcap : ∀ i, ∃ c', i < rows.length → RS wr (vs.getD i undef) c' (sw rows i) := fun i => by
    by_cases hi : i < rows.length
    · obtain ⟨u, a, b⟩ := h3 i hi
      obtain ⟨c', hr⟩ := b.rs
      exact ⟨c', fun _ => by rw [show vs.getD i undef = u by simp [List.getD, a]]; exact hr⟩
    · exact ⟨0, fun h => absurd h hi⟩
  refine ⟨c, ao, fun i => vs.getD i undef, fun i => (hcap i).choose, by rw [hv, hlen], by omega, hm, ?_, fun i hi => (hcap i).choose_spec hi⟩
  by_cases h0 : rows.length = 0
  · exact .inl (List.eq_nil_of_length_eq_zero h0)
  · cases ao with
    | none => have := hno rfl; omega
    | some a =>
      obtain ⟨b, o, s⟩ := a
      obtain ⟨hs, hcell⟩ := hc _ rfl
      have hs' : s = Option.none := hs (by omega)
      subst hs'
      exact .inr ⟨b, o, rfl, fun i hi => hcell i _ (by obtain ⟨u, a, _⟩ := h3 i hi; rw [a]; simp [List.getD, a])⟩
/-- 'c.Rows = append(c.Rows, row)'. -/
theorem app_row {w : World} {ops : Array Oper} {rest : List Oper} {o : Oper} {a : Act} {Q : Exit → Act → World → Prop}
    (hg : o.guard = Option.none) (s x : Operand) (hop : o.op = Op.call { callee := Callee.builtin Builtin.append, args := #[s, x], argTypes := #[24, 24] })
    (wb : World) (v : Value) (rows : List (List St)) (hs : a.eval s = v) (hco : CO wb w v rows) (u : Value) (l : List St) (hu : RV w u l)
    (g : Nat) (hx : a.eval x = .slice (some ⟨g, 0, Option.none⟩) 1 1) (hgw : g = w.heap.size) (hlen : rows.length ≤ 100000)
    (hK : ∀ v' w', CO wb w' v' (rows ++ [l]) → (∀ (b : Nat) (cs : Array Value) (t : TypeId) (q : Nat × Nat), w.heap[b]? = some (Obj.cells cs t q) → t ≠ 48 → w'.heap[b]? = some (Obj.cells cs t q)) → wpList Tryd.prog ops Q rest (a.put o.dst v') w') :
    wpList Tryd.prog ops Q (o :: rest) a (w.alloc (.cells #[u] 48)) := by
  obtain ⟨h1, vs, h2, h3⟩ := hco
  subst hgw
  have hvl : vs.length = rows.length := by have := h2.1; omega
  have h1u : ∀ y ∈ [u], y.oneCell' = true := by
    intro y hy
    obtain rfl := List.mem_singleton.1 hy
    obtain ⟨a', n', c', rfl, _⟩ := hu.form
    rfl
  have xa : Ext w (w.alloc (.cells #[u] 48)) := (Ext.refl w).alloc _
  refine app_own_g eiRows hg s x hop wb.heap.size v rows.length vs hs (own_ext h2 xa) _ 1 [u] hx (VS.one _ _ _) h1u (by simp; omega) (by simp; omega) (Nat.le_trans h1.size xa.size) ?_
  intro v' w' ho hgr
  have hst : 52 ≠ 48 := by decide
  refine hK v' w' ⟨?_, vs ++ [u], by simpa using ho, fun i hi => ?_⟩ (fun b cs t q hb ht => blk_grown (own_ext h2 xa) hgr (xa.block hb) ht)
  · refine (h1.trans xa).grown hgr fun k hk => ?_
    obtain ⟨_, ⟨hv, _⟩ | ⟨g', cap, cur, hv, hBg, _⟩⟩ := h2
    · rw [hv] at hk; cases hk
    · rw [hv] at hk; have : g' = k := by simpa [Value.ownBlock] using hk
      omega
  · rw [List.length_append, List.length_singleton] at hi
    by_cases e : i < rows.length
    · obtain ⟨u', a', b'⟩ := h3 i e
      rw [sw_app _ _ e]
      exact ⟨u', by rw [List.getElem?_append_left (by omega)]; exact a', (b'.ext xa).grown (own_ext h2 xa) hgr hst⟩
    · obtain rfl : i = rows.length := by omega
      rw [sw_new]
      exact ⟨u, by rw [List.getElem?_append_right (by omega)]; simp [hvl], (hu.ext xa).grown (own_ext h2 xa) hgr hst⟩
/-- A chart is returned. -/
def RetCC (w0 : World) (rows : List (List St)) (e : Ending) (w' : World) : Prop := ∃ v c, e = .returned (.agg #[v]) ∧ RR w' v c rows ∧ Ext w0 w'
/-- Stitches written out in a block. -/
theorem RO.lit {w : World} {l : List St} {arr : Array Value} (ha : arr = (cells l).toArray) (hl : l.length ≤ 1000) : RO (w.alloc (.cells arr 52)) w.heap.size l.length l := by
  have hr := World.rowIs_alloc w arr 52 (fun i => ((cells l)[i]?).getD undef) (fun i hi => by
    rw [ha] at hi ⊢
    rw [List.getElem?_toArray]
    have : i < (cells l).length := by simpa using hi
    simp [this])
  have hsz : arr.size = l.length * 5 := by rw [ha]; simp [cells_len]
  rw [hsz] at hr
  refine ⟨Nat.le_refl _, by unfold maxLen; omega, _, hr, fun i hi => ?_⟩
  obtain ⟨b0, b1, b2, b3, b4⟩ := cells_at l i hi
  refine ⟨?_, ?_, ?_, ?_, ?_⟩ <;> simp only []
  · rw [b0]; rfl
  · rw [b1]; rfl
  · rw [b2]; rfl
  · rw [b3]; rfl
  · rw [b4]; rfl
end Go.Proofs.YtinijapkipeamaaDoor
/- Lists of lists of numbers that a call builds by appending. -/
namespace Go.Proofs.YtinijapkipeamaaDoor
set_option linter.unusedVariables false
set_option linter.unusedSimpArgs false
set_option maxRecDepth 8000
open Go Go.RowKit

/-- A row of numbers of the call's own, or nil. -/
def IV (w : World) (u : Value) (l : List Int) : Prop := (u = .slice Option.none 0 0 ∧ l = []) ∨ ∃ q c f, u = .slice (some ⟨q, 0, Option.none⟩) l.length c ∧ l.length ≤ c ∧ c ≤ maxLen ∧ w.rowIs q 3 c f ∧ ∀ i, i < l.length → f i = .int .i64 (gi l i)
theorem IV.ext {w w' : World} {u : Value} {l : List Int} (h : IV w u l) (x : Ext w w') : IV w' u l := by
  rcases h with h | ⟨q, c, f, h1, h2, h3, h4, h5⟩
  · exact .inl h
  · exact .inr ⟨q, c, f, h1, h2, h3, x.row h4, h5⟩
theorem IV.grown {w w' : World} {B n z : Nat} {e : TypeId} {u : Value} {l : List Int} {v : Value} {xs : List Value} (h : IV w u l) (ho : w.ownsRow B e z v n xs) (hg : w.grownBy w' v.ownBlock) (ht : 3 ≠ e) : IV w' u l := by
  rcases h with h | ⟨q, c, f, h1, h2, h3, h4, h5⟩
  · exact .inl h
  · obtain ⟨cur, hb, _⟩ := id h4
    exact .inr ⟨q, c, f, h1, h2, h3, h4.of_block ((blk_grown ho hg hb ht).trans hb.symm), h5⟩
theorem IV.is {w : World} {u : Value} {l : List Int} (h : IV w u l) : ∃ c, IS .i64 w u c l := by
  rcases h with ⟨rfl, rfl⟩ | ⟨q, c, f, rfl, h2, h3, h4, h5⟩
  · exact ⟨0, IS.nil _ _⟩
  · exact ⟨c, IS.mk rfl h2 h3 fun i hi => by rw [Nat.zero_add, h4.cell (by omega), h5 i hi]⟩
theorem IV.form {w : World} {u : Value} {l : List Int} (h : IV w u l) : ∃ a n c, u = .slice a n c ∧ n = l.length := by
  rcases h with ⟨rfl, rfl⟩ | ⟨q, c, f, rfl, _⟩
  · exact ⟨_, _, _, rfl, rfl⟩
  · exact ⟨_, _, _, rfl, rfl⟩
theorem IV.of_own {w : World} {B n : Nat} {v : Value} {l : List Int} (h : w.ownsRow B 3 1 v n (l.map (Value.int .i64))) : IV w v l ∧ n = l.length := by
  obtain ⟨hl, h⟩ := h
  rw [List.length_map, Nat.mul_one] at hl
  refine ⟨?_, hl.symm⟩
  rcases h with ⟨hv, hn⟩ | ⟨g, cap, cur, hv, hB, hb, hnc, hm, hsz, htk⟩
  · exact .inl ⟨hv, List.eq_nil_of_length_eq_zero (by omega)⟩
  · rw [Nat.mul_one] at hsz htk
    refine .inr ⟨g, cap, fun i => (cur[i]?).getD undef, by rw [hv, hl], by omega, hm, ⟨cur, hb, by omega, fun i hi => by simp [Array.getElem?_eq_getElem (show i < cur.size by omega)]⟩, fun i hi => ?_⟩
    have : cur[i]? = (l.map (Value.int .i64))[i]? := by rw [← htk, List.getElem?_take, if_pos (by omega), Array.getElem?_toList]
    show (cur[i]?).getD undef = _
    rw [this, List.getElem?_map, gi_some hi]; rfl

/-- The lists that were appended so far. -/
def OI (w wr : World) (v : Value) (rows : List (List Int)) : Prop :=
  Ext w wr ∧ ∃ vs : List Value, wr.ownsRow w.heap.size 22 1 v rows.length vs ∧ ∀ i, i < rows.length → ∃ u, vs[i]? = some u ∧ IV wr u (ri rows i)
theorem OI.later {w wr w' : World} {v : Value} {rows : List (List Int)} (h : OI w wr v rows) (x : Ext wr w') : OI w w' v rows := by
  obtain ⟨h1, vs, h2, h3⟩ := h
  exact ⟨h1.trans x, vs, own_ext h2 x, fun i hi => by obtain ⟨u, a, b⟩ := h3 i hi; exact ⟨u, a, b.ext x⟩⟩
theorem OI.form {w wr : World} {v : Value} {rows : List (List Int)} (h : OI w wr v rows) : ∃ a n c, v = .slice a n c ∧ n = rows.length := by
  obtain ⟨_, vs, ⟨_, ⟨hv, hn⟩ | ⟨g, cap, cur, hv, _⟩⟩, _⟩ := h
  · exact ⟨_, _, _, hv, hn.symm⟩
  · exact ⟨_, _, _, hv, rfl⟩
/-- A list written out in a block of its own. -/
theorem OI.one {w wr : World} {u : Value} {l : List Int} (x : Ext w wr) (hu : IV wr u l) : OI w (wr.alloc (.cells #[u] 22)) (.slice (some ⟨wr.heap.size, 0, Option.none⟩) 1 1) [l] := by
  have hr := World.rowIs_alloc wr #[u] 22 (fun _ => u) (fun i hi => by simp at hi; subst hi; rfl)
  have := own_of_row hr (m := 1) (Nat.le_refl _) (by unfold maxLen; simp)
  obtain ⟨h1, h2⟩ := this
  refine ⟨x.alloc _, [u], ⟨h1, ?_⟩, fun i hi => ?_⟩
  · rcases h2 with ⟨hv, _⟩ | ⟨g, cap, cur, hv, hB, hrest⟩
    · cases hv
    · exact .inr ⟨g, cap, cur, hv, Nat.le_trans x.size hB, hrest⟩
  · obtain rfl : i = 0 := by simpa using hi
    exact ⟨u, rfl, hu.ext ((Ext.refl wr).alloc _)⟩
theorem OI.iss {w wr : World} {v : Value} {rows : List (List Int)} (h : OI w wr v rows) : ∃ c, ISS .i64 wr v c rows := by
  obtain ⟨h1, vs, h2, h3⟩ := h
  obtain ⟨c, hV⟩ := VS.of_own h2
  have hlen : vs.length = rows.length := by have := h2.1; omega
  have hcap : ∀ i, ∃ c', i < rows.length → IS .i64 wr (vs.getD i undef) c' (ri rows i) := fun i => by
    by_cases hi : i < rows.length
    · obtain ⟨u, a, b⟩ := h3 i hi
      obtain ⟨c', hr⟩ := b.is
      exact ⟨c', fun _ => by rw [show vs.getD i undef = u by simp [List.getD, a]]; exact hr⟩
    · exact ⟨0, fun h => absurd h hi⟩
  refine ⟨c, fun i => vs.getD i undef, fun i => (hcap i).choose, ?_, fun i hi => (hcap i).choose_spec hi⟩
  have : (List.range rows.length).map (fun i => vs.getD i undef) = vs := by
    apply List.ext_getElem (by simp [hlen])
    intro i h1 h2
    simp [List.getD, h2]
  rw [this]; exact hV
theorem ri_snoc (a : List (List Int)) (x : List Int) {j : Nat} (h : j < a.length) : ri (a ++ [x]) j = ri a j := by unfold ri; simp [List.getD, List.getElem?_append_left h]
theorem ri_last (a : List (List Int)) (x : List Int) : ri (a ++ [x]) a.length = x := by unfold ri; simp [List.getD]
/-- 'out = append(out, next)'. -/
theorem app_list {w : World} {ops : Array Oper} {rest : List Oper} {o : Oper} {a : Act} {Q : Exit → Act → World → Prop}
    (hg : o.guard = Option.none) (s x : Operand) (hop : o.op = Op.call { callee := Callee.builtin Builtin.append, args := #[s, x], argTypes := #[54, 54] })
    (wb : World) (v : Value) (rows : List (List Int)) (hs : a.eval s = v) (hco : OI wb w v rows) (u : Value) (l : List Int) (hu : IV w u l)
    (g : Nat) (hx : a.eval x = .slice (some ⟨g, 0, Option.none⟩) 1 1) (hgw : g = w.heap.size) (hlen : rows.length ≤ 100000)
    (hK : ∀ v' w', OI wb w' v' (rows ++ [l]) → IV w' u l → wpList Tryd.prog ops Q rest (a.put o.dst v') w') :
    wpList Tryd.prog ops Q (o :: rest) a (w.alloc (.cells #[u] 22)) := by
  obtain ⟨h1, vs, h2, h3⟩ := hco
  subst hgw
  have hvl : vs.length = rows.length := by have := h2.1; omega
  have h1u : ∀ y ∈ [u], y.oneCell' = true := by
    intro y hy
    obtain rfl := List.mem_singleton.1 hy
    obtain ⟨a', n', c', rfl, _⟩ := hu.form
    rfl
  have xa : Ext w (w.alloc (.cells #[u] 22)) := (Ext.refl w).alloc _
  refine app_own_g eiRow hg s x hop wb.heap.size v rows.length vs hs (own_ext h2 xa) _ 1 [u] hx (VS.one _ _ _) h1u (by simp; omega) (by simp; omega) (Nat.le_trans h1.size xa.size) ?_
  intro v' w' ho hgr
  have hst : 3 ≠ 22 := by decide
  refine hK v' w' ⟨?_, vs ++ [u], by simpa using ho, fun i hi => ?_⟩ ((hu.ext xa).grown (own_ext h2 xa) hgr hst)
  · refine (h1.trans xa).grown hgr fun k hk => ?_
    obtain ⟨_, ⟨hv, _⟩ | ⟨g', cap, cur, hv, hBg, _⟩⟩ := h2
    · rw [hv] at hk; cases hk
    · rw [hv] at hk; have : g' = k := by simpa [Value.ownBlock] using hk
      omega
  · rw [List.length_append, List.length_singleton] at hi
    by_cases e : i < rows.length
    · obtain ⟨u', a', b'⟩ := h3 i e
      rw [ri_snoc _ _ e]
      exact ⟨u', by rw [List.getElem?_append_left (by omega)]; exact a', (b'.ext xa).grown (own_ext h2 xa) hgr hst⟩
    · obtain rfl : i = rows.length := by omega
      rw [ri_last]
      exact ⟨u, by rw [List.getElem?_append_right (by omega)]; simp [hvl], (hu.ext xa).grown (own_ext h2 xa) hgr hst⟩
end Go.Proofs.YtinijapkipeamaaDoor
