/- Texts of this claim in one file: libraries and walks. -/
import Derived.Deep.RegionHeld3
import Derived.Test.YtinijapkipeamaaDoorMKnown1
import Derived.Test.YtinijapkipeamaaDoorMKnown2
import Derived.Test.YtinijapkipeamaaDoorMKnown3
/- Charts that a call builds by appending rows. -/
namespace Go.Proofs.YtinijapkipeamaaDoor
set_option linter.unusedVariables false
set_option linter.unusedSimpArgs false
set_option maxRecDepth 8000
open Go Go.RowKit

/-- 'append(s, x...)', s the call's own, x any slice: with all that is known of the new world. -/
theorem app_own_g {P : Program} {t e : TypeId} {z : Value} {bytes : Nat} (ei : EI P t e z bytes) {w : World} {ops : Array Oper} {rest : List Oper} {o : Oper} {a : Act} {Q : Exit → Act → World → Prop}
    (hg : o.guard = none) (s x : Operand) (hop : o.op = Op.call { callee := Callee.builtin Builtin.append, args := #[s, x], argTypes := #[t, t] })
    (B : Nat) (v : Value) (n : Nat) (xs : List Value) (hs : a.eval s = v) (hown : w.ownsRow B e 1 v n xs)
    (y : Value) (c : Nat) (ys : List Value) (hx : a.eval x = y) (hy : VS w y c ys) (h1 : ∀ u ∈ ys, u.oneCell' = true)
    (hbytes : (n + ys.length) * bytes ≤ 140737488355328) (hlen : n + ys.length ≤ 140737488355328) (hB : B ≤ w.heap.size)
    (hK : ∀ v' w', w'.ownsRow B e 1 v' (n + ys.length) (xs ++ ys) → w.grownBy w' v.ownBlock → wpList P ops Q rest (a.put o.dst v') w') :
    wpList P ops Q (o :: rest) a w := by
  obtain ⟨i, hi, hz0, hz1, hz2⟩ := info_parts ei.info
  obtain ⟨ao, rfl, hl, hm, hno, hc⟩ := hy
  have hzs : z.cells.size = 1 := by rw [ei.cell]; rfl
  cases ao with
  | none =>
    have hc0 := hno rfl
    have hys : ys = [] := List.eq_nil_of_length_eq_zero (by omega)
    subst hys
    subst hc0
    exact wpList_append_own_none hg s x t hop B e i 1 ei.und hi v n xs hs hown hx (hK v w (by simpa using hown) (World.grownBy.refl _ _))
  | some ad =>
    refine wpList_append_own w hg s x t hop B e i z 1 bytes ei.und hi hz0 hz1 hz2 hzs (by decide) v n xs hs hown ad ys.length c ys hx (by simp) (VS.cells hl hc ad rfl) h1 (by unfold maxLen; omega) hbytes hB ?_
    intro v' w' h2 h3 _
    exact hK v' w' h2 h3

/-- A block of another type is no row of the call's own. -/
theorem own_ne {w : World} {B n : Nat} {e t : TypeId} {v : Value} {xs : List Value} {z : Nat} (ho : w.ownsRow B e z v n xs) {b : Nat} {cs : Array Value} {q : Nat × Nat} (hb : w.heap[b]? = some (.cells cs t q)) (ht : t ≠ e) : v.ownBlock ≠ some b := by
  intro he
  obtain ⟨_, ⟨hv, _⟩ | ⟨g, cap, cur, hv, hB, hb2, _⟩⟩ := ho
  · rw [hv] at he; cases he
  · rw [hv] at he
    have : g = b := by simpa [Value.ownBlock] using he
    subst this
    rw [hb2] at hb
    simp only [Option.some.injEq, Obj.cells.injEq] at hb
    exact ht hb.2.1.symm
theorem blk_grown {w w' : World} {B n : Nat} {e t : TypeId} {v : Value} {xs : List Value} {z : Nat} (ho : w.ownsRow B e z v n xs) (hg : w.grownBy w' v.ownBlock) {b : Nat} {cs : Array Value} {q : Nat × Nat} (hb : w.heap[b]? = some (.cells cs t q)) (ht : t ≠ e) : w'.heap[b]? = some (.cells cs t q) := by
  have hlt : b < w.heap.size := (Array.getElem?_eq_some_iff.1 hb).1
  rw [hg.block b hlt (fun e => own_ne ho hb ht e.symm)]; exact hb
/-- A store elsewhere keeps a row of the call's own. -/
theorem own_setOther {w : World} {B n : Nat} {e : TypeId} {v u : Value} {xs : List Value} {z : Nat} (ho : w.ownsRow B e z v n xs) {a : Addr} (hne : v.ownBlock ≠ some a.block) : (w.setCell a u).ownsRow B e z v n xs := by
  obtain ⟨h1, ⟨hv, h2⟩ | ⟨g, cap, cur, hv, hB, hb2, h3⟩⟩ := ho
  · exact ⟨h1, .inl ⟨hv, h2⟩⟩
  · refine ⟨h1, .inr ⟨g, cap, cur, hv, hB, ?_, h3⟩⟩
    rw [Deep.blk_setCell_other _ _ _ _ (fun e => hne (by rw [hv, ← e]; rfl))]; exact hb2

theorem RO.block {w : World} {g c : Nat} {l : List St} (h : RO w g c l) : ∃ cs, w.heap[g]? = some (.cells cs 52 (0, 0)) := by
  obtain ⟨_, _, f, ⟨cur, h3, _⟩, _⟩ := h
  exact ⟨cur, h3⟩
theorem RO.of_block {w w' : World} {g c : Nat} {l : List St} (h : RO w g c l) (e : w'.heap[g]? = w.heap[g]?) : RO w' g c l := by
  obtain ⟨h1, h2, f, h3, h4⟩ := h
  exact ⟨h1, h2, f, h3.of_block e, h4⟩
theorem RO.grown {w w' : World} {g c B n : Nat} {e : TypeId} {l : List St} {v : Value} {xs : List Value} {z : Nat} (h : RO w g c l) (ho : w.ownsRow B e z v n xs) (hg : w.grownBy w' v.ownBlock) (ht : 52 ≠ e) : RO w' g c l := by
  obtain ⟨cs, hb⟩ := h.block
  exact h.of_block ((blk_grown ho hg hb ht).trans hb.symm)

/-- A row of stitches of the call's own, or nil. -/
def RV (w : World) (u : Value) (l : List St) : Prop := (u = .slice Option.none 0 0 ∧ l = []) ∨ ∃ q c, u = .slice (some ⟨q, 0, Option.none⟩) l.length c ∧ RO w q c l
theorem RV.ext {w w' : World} {u : Value} {l : List St} (h : RV w u l) (x : Ext w w') : RV w' u l := by
  rcases h with h | ⟨q, c, h1, h2⟩
  · exact .inl h
  · exact .inr ⟨q, c, h1, h2.ext x⟩
theorem RV.grown {w w' : World} {B n : Nat} {e : TypeId} {u : Value} {l : List St} {v : Value} {xs : List Value} {z : Nat} (h : RV w u l) (ho : w.ownsRow B e z v n xs) (hg : w.grownBy w' v.ownBlock) (ht : 52 ≠ e) : RV w' u l := by
  rcases h with h | ⟨q, c, h1, h2⟩
  · exact .inl h
  · exact .inr ⟨q, c, h1, h2.grown ho hg ht⟩
theorem RV.setOther {w : World} {u u' : Value} {l : List St} (h : RV w u l) {a : Addr} {cs : Array Value} {t : TypeId} {q : Nat × Nat} (hb : w.heap[a.block]? = some (.cells cs t q)) (ht : 52 ≠ t) : RV (w.setCell a u') u l := by
  rcases h with h | ⟨g, c, h1, h2⟩
  · exact .inl h
  · refine .inr ⟨g, c, h1, h2.setOther (fun e => ?_) _⟩
    obtain ⟨cs', hb2⟩ := h2.block
    rw [e, hb] at hb2
    simp only [Option.some.injEq, Obj.cells.injEq] at hb2
    exact ht hb2.2.1.symm
theorem RV.rs {w : World} {u : Value} {l : List St} (h : RV w u l) : ∃ c, RS w u c l := by
  rcases h with ⟨rfl, rfl⟩ | ⟨q, c, rfl, h2⟩
  · exact ⟨0, RS.nil w⟩
  · exact ⟨c, h2.rs⟩
theorem RV.form {w : World} {u : Value} {l : List St} (h : RV w u l) : ∃ a n c, u = .slice a n c ∧ n = l.length := by
  rcases h with ⟨rfl, rfl⟩ | ⟨q, c, rfl, h2⟩
  · exact ⟨_, _, _, rfl, rfl⟩
  · exact ⟨_, _, _, rfl, rfl⟩
theorem RV.of_own {w : World} {B n : Nat} {v : Value} {l : List St} (h : w.ownsRow B 52 5 v n (cells l)) : RV w v l ∧ n = l.length := by
  have hl := h.1
  rw [cells_len] at hl
  by_cases h0 : 0 < n
  · obtain ⟨g, c, hv, hn, _, hr⟩ := RO.of_own h h0
    rw [hn] at hv
    exact ⟨.inr ⟨g, c, hv, hr⟩, hn⟩
  · have hnl : l = [] := List.eq_nil_of_length_eq_zero (by omega)
    subst hnl
    have hn0 : n = 0 := by omega
    subst hn0
    refine ⟨?_, rfl⟩
    obtain ⟨_, ⟨hv, _⟩ | ⟨g, cap, cur, hv, hB, hb, hnc, hm, hsz, htk⟩⟩ := h
    · exact .inl ⟨hv, rfl⟩
    · exact .inr ⟨g, cap, hv, by simp, hm, fun i => (cur[i]?).getD undef, ⟨cur, hb, by omega, fun i hi => by simp [Array.getElem?_eq_getElem (show i < cur.size by omega)]⟩, fun i hi => by simp at hi⟩

/-- The rows that were appended so far. -/
def CO (w wr : World) (v : Value) (rows : List (List St)) : Prop :=
  Ext w wr ∧ ∃ vs : List Value, wr.ownsRow w.heap.size 48 1 v rows.length vs ∧ ∀ i, i < rows.length → ∃ u, vs[i]? = some u ∧ RV wr u (sw rows i)
theorem CO.nil {w wr : World} (x : Ext w wr) : CO w wr (.slice Option.none 0 0) [] := ⟨x, [], World.ownsRow_nil _ _ _ _, fun i hi => by simp at hi⟩
theorem CO.later {w wr w' : World} {v : Value} {rows : List (List St)} (h : CO w wr v rows) (x : Ext wr w') : CO w w' v rows := by
  obtain ⟨h1, vs, h2, h3⟩ := h
  exact ⟨h1.trans x, vs, own_ext h2 x, fun i hi => by obtain ⟨u, a, b⟩ := h3 i hi; exact ⟨u, a, b.ext x⟩⟩
theorem CO.setOther {w wr : World} {v u' : Value} {rows : List (List St)} (h : CO w wr v rows) {a : Addr} {cs : Array Value} {t : TypeId} {q : Nat × Nat} (hb : wr.heap[a.block]? = some (.cells cs t q)) (ht1 : 52 ≠ t) (ht2 : t ≠ 48) (hw : w.heap.size ≤ a.block) : CO w (wr.setCell a u') v rows := by
  obtain ⟨h1, vs, h2, h3⟩ := h
  exact ⟨h1.setCell hw _, vs, own_setOther h2 (own_ne h2 hb ht2), fun i hi => by obtain ⟨u, a', b⟩ := h3 i hi; exact ⟨u, a', b.setOther hb ht1⟩⟩
theorem CO.form {w wr : World} {v : Value} {rows : List (List St)} (h : CO w wr v rows) : ∃ a n c, v = .slice a n c ∧ n = rows.length := by
  obtain ⟨_, vs, ⟨_, ⟨hv, hn⟩ | ⟨g, cap, cur, hv, _⟩⟩, _⟩ := h
  · exact ⟨_, _, _, hv, hn.symm⟩
  · exact ⟨_, _, _, hv, rfl⟩
theorem sw_app (a : List (List St)) (x : List St) {j : Nat} (h : j < a.length) : sw (a ++ [x]) j = sw a j := by unfold sw; simp [List.getD, List.getElem?_append_left h]
theorem sw_new (a : List (List St)) (x : List St) : sw (a ++ [x]) a.length = x := by unfold sw; simp [List.getD]
theorem CO.rr {w wr : World} {v : Value} {rows : List (List St)} (h : CO w wr v rows) : ∃ c, RR wr v c rows := by
  obtain ⟨h1, vs, h2, h3⟩ := h
  obtain ⟨c, ao, hv, hl, hm, hno, hc⟩ := VS.of_own h2
  have hlen : vs.length = rows.length := by have := h2.1; omega
  have hcap : ∀ i, ∃ c', i < rows.length → RS wr (vs.getD i undef) c' (sw rows i) := fun i => by
    by_cases hi : i < rows.length
    · obtain ⟨u, a, b⟩ := h3 i hi
      obtain ⟨c', hr⟩ := b.rs
      exact ⟨c', fun _ => by rw [show vs.getD i undef = u by simp [List.getD, a]]; exact hr⟩
    · exact ⟨0, fun h => absurd h hi⟩
  refine ⟨c, ao, fun i => vs.getD i undef, fun i => (hcap i).choose, by rw [hv, hlen], by omega, hm, ?_, fun i hi => (hcap i).choose_spec hi⟩
  by_cases h0 : rows.length = 0
  · exact .inl (List.eq_nil_of_length_eq_zero h0)
  · cases ao with
    | none => have := hno rfl; omega
    | some a =>
      obtain ⟨b, o, s⟩ := a
      obtain ⟨hs, hcell⟩ := hc _ rfl
      have hs' : s = Option.none := hs (by omega)
      subst hs'
      exact .inr ⟨b, o, rfl, fun i hi => hcell i _ (by obtain ⟨u, a, _⟩ := h3 i hi; rw [a]; simp [List.getD, a])⟩
/-- 'c.Rows = append(c.Rows, row)'. -/
theorem app_row {w : World} {ops : Array Oper} {rest : List Oper} {o : Oper} {a : Act} {Q : Exit → Act → World → Prop}
    (hg : o.guard = Option.none) (s x : Operand) (hop : o.op = Op.call { callee := Callee.builtin Builtin.append, args := #[s, x], argTypes := #[24, 24] })
    (wb : World) (v : Value) (rows : List (List St)) (hs : a.eval s = v) (hco : CO wb w v rows) (u : Value) (l : List St) (hu : RV w u l)
    (g : Nat) (hx : a.eval x = .slice (some ⟨g, 0, Option.none⟩) 1 1) (hgw : g = w.heap.size) (hlen : rows.length ≤ 100000)
    (hK : ∀ v' w', CO wb w' v' (rows ++ [l]) → (∀ (b : Nat) (cs : Array Value) (t : TypeId) (q : Nat × Nat), w.heap[b]? = some (Obj.cells cs t q) → t ≠ 48 → w'.heap[b]? = some (Obj.cells cs t q)) → wpList Tryd.prog ops Q rest (a.put o.dst v') w') :
    wpList Tryd.prog ops Q (o :: rest) a (w.alloc (.cells #[u] 48)) := by
  obtain ⟨h1, vs, h2, h3⟩ := hco
  subst hgw
  have hvl : vs.length = rows.length := by have := h2.1; omega
  have h1u : ∀ y ∈ [u], y.oneCell' = true := by
    intro y hy
    obtain rfl := List.mem_singleton.1 hy
    obtain ⟨a', n', c', rfl, _⟩ := hu.form
    rfl
  have xa : Ext w (w.alloc (.cells #[u] 48)) := (Ext.refl w).alloc _
  refine app_own_g eiRows hg s x hop wb.heap.size v rows.length vs hs (own_ext h2 xa) _ 1 [u] hx (VS.one _ _ _) h1u (by simp; omega) (by simp; omega) (Nat.le_trans h1.size xa.size) ?_
  intro v' w' ho hgr
  have hst : 52 ≠ 48 := by decide
  refine hK v' w' ⟨?_, vs ++ [u], by simpa using ho, fun i hi => ?_⟩ (fun b cs t q hb ht => blk_grown (own_ext h2 xa) hgr (xa.block hb) ht)
  · refine (h1.trans xa).grown hgr fun k hk => ?_
    obtain ⟨_, ⟨hv, _⟩ | ⟨g', cap, cur, hv, hBg, _⟩⟩ := h2
    · rw [hv] at hk; cases hk
    · rw [hv] at hk; have : g' = k := by simpa [Value.ownBlock] using hk
      omega
  · rw [List.length_append, List.length_singleton] at hi
    by_cases e : i < rows.length
    · obtain ⟨u', a', b'⟩ := h3 i e
      rw [sw_app _ _ e]
      exact ⟨u', by rw [List.getElem?_append_left (by omega)]; exact a', (b'.ext xa).grown (own_ext h2 xa) hgr hst⟩
    · obtain rfl : i = rows.length := by omega
      rw [sw_new]
      exact ⟨u, by rw [List.getElem?_append_right (by omega)]; simp [hvl], (hu.ext xa).grown (own_ext h2 xa) hgr hst⟩
/-- A chart is returned. -/
def RetCC (w0 : World) (rows : List (List St)) (e : Ending) (w' : World) : Prop := ∃ v c, e = .returned (.agg #[v]) ∧ RR w' v c rows ∧ Ext w0 w'
/-- Stitches written out in a block. -/
theorem RO.lit {w : World} {l : List St} {arr : Array Value} (ha : arr = (cells l).toArray) (hl : l.length ≤ 1000) : RO (w.alloc (.cells arr 52)) w.heap.size l.length l := by
  have hr := World.rowIs_alloc w arr 52 (fun i => ((cells l)[i]?).getD undef) (fun i hi => by
    rw [ha] at hi ⊢
    rw [List.getElem?_toArray]
    have : i < (cells l).length := by simpa using hi
    simp [this])
  have hsz : arr.size = l.length * 5 := by rw [ha]; simp [cells_len]
  rw [hsz] at hr
  refine ⟨Nat.le_refl _, by unfold maxLen; omega, _, hr, fun i hi => ?_⟩
  obtain ⟨b0, b1, b2, b3, b4⟩ := cells_at l i hi
  refine ⟨?_, ?_, ?_, ?_, ?_⟩ <;> simp only []
  · rw [b0]; rfl
  · rw [b1]; rfl
  · rw [b2]; rfl
  · rw [b3]; rfl
  · rw [b4]; rfl
end Go.Proofs.YtinijapkipeamaaDoor
/- Lists of lists of numbers that a call builds by appending. -/
namespace Go.Proofs.YtinijapkipeamaaDoor
set_option linter.unusedVariables false
set_option linter.unusedSimpArgs false
set_option maxRecDepth 8000
open Go Go.RowKit

/-- A row of numbers of the call's own, or nil. -/
def IV (w : World) (u : Value) (l : List Int) : Prop := (u = .slice Option.none 0 0 ∧ l = []) ∨ ∃ q c f, u = .slice (some ⟨q, 0, Option.none⟩) l.length c ∧ l.length ≤ c ∧ c ≤ maxLen ∧ w.rowIs q 3 c f ∧ ∀ i, i < l.length → f i = .int .i64 (gi l i)
theorem IV.ext {w w' : World} {u : Value} {l : List Int} (h : IV w u l) (x : Ext w w') : IV w' u l := by
  rcases h with h | ⟨q, c, f, h1, h2, h3, h4, h5⟩
  · exact .inl h
  · exact .inr ⟨q, c, f, h1, h2, h3, x.row h4, h5⟩
theorem IV.grown {w w' : World} {B n z : Nat} {e : TypeId} {u : Value} {l : List Int} {v : Value} {xs : List Value} (h : IV w u l) (ho : w.ownsRow B e z v n xs) (hg : w.grownBy w' v.ownBlock) (ht : 3 ≠ e) : IV w' u l := by
  rcases h with h | ⟨q, c, f, h1, h2, h3, h4, h5⟩
  · exact .inl h
  · obtain ⟨cur, hb, _⟩ := id h4
    exact .inr ⟨q, c, f, h1, h2, h3, h4.of_block ((blk_grown ho hg hb ht).trans hb.symm), h5⟩
theorem IV.is {w : World} {u : Value} {l : List Int} (h : IV w u l) : ∃ c, IS .i64 w u c l := by
  rcases h with ⟨rfl, rfl⟩ | ⟨q, c, f, rfl, h2, h3, h4, h5⟩
  · exact ⟨0, IS.nil _ _⟩
  · exact ⟨c, IS.mk rfl h2 h3 fun i hi => by rw [Nat.zero_add, h4.cell (by omega), h5 i hi]⟩
theorem IV.form {w : World} {u : Value} {l : List Int} (h : IV w u l) : ∃ a n c, u = .slice a n c ∧ n = l.length := by
  rcases h with ⟨rfl, rfl⟩ | ⟨q, c, f, rfl, _⟩
  · exact ⟨_, _, _, rfl, rfl⟩
  · exact ⟨_, _, _, rfl, rfl⟩
theorem IV.of_own {w : World} {B n : Nat} {v : Value} {l : List Int} (h : w.ownsRow B 3 1 v n (l.map (Value.int .i64))) : IV w v l ∧ n = l.length := by
  obtain ⟨hl, h⟩ := h
  rw [List.length_map, Nat.mul_one] at hl
  refine ⟨?_, hl.symm⟩
  rcases h with ⟨hv, hn⟩ | ⟨g, cap, cur, hv, hB, hb, hnc, hm, hsz, htk⟩
  · exact .inl ⟨hv, List.eq_nil_of_length_eq_zero (by omega)⟩
  · rw [Nat.mul_one] at hsz htk
    refine .inr ⟨g, cap, fun i => (cur[i]?).getD undef, by rw [hv, hl], by omega, hm, ⟨cur, hb, by omega, fun i hi => by simp [Array.getElem?_eq_getElem (show i < cur.size by omega)]⟩, fun i hi => ?_⟩
    have : cur[i]? = (l.map (Value.int .i64))[i]? := by rw [← htk, List.getElem?_take, if_pos (by omega), Array.getElem?_toList]
    show (cur[i]?).getD undef = _
    rw [this, List.getElem?_map, gi_some hi]; rfl

/-- The lists that were appended so far. -/
def OI (w wr : World) (v : Value) (rows : List (List Int)) : Prop :=
  Ext w wr ∧ ∃ vs : List Value, wr.ownsRow w.heap.size 22 1 v rows.length vs ∧ ∀ i, i < rows.length → ∃ u, vs[i]? = some u ∧ IV wr u (ri rows i)
theorem OI.later {w wr w' : World} {v : Value} {rows : List (List Int)} (h : OI w wr v rows) (x : Ext wr w') : OI w w' v rows := by
  obtain ⟨h1, vs, h2, h3⟩ := h
  exact ⟨h1.trans x, vs, own_ext h2 x, fun i hi => by obtain ⟨u, a, b⟩ := h3 i hi; exact ⟨u, a, b.ext x⟩⟩
theorem OI.form {w wr : World} {v : Value} {rows : List (List Int)} (h : OI w wr v rows) : ∃ a n c, v = .slice a n c ∧ n = rows.length := by
  obtain ⟨_, vs, ⟨_, ⟨hv, hn⟩ | ⟨g, cap, cur, hv, _⟩⟩, _⟩ := h
  · exact ⟨_, _, _, hv, hn.symm⟩
  · exact ⟨_, _, _, hv, rfl⟩
/-- A list written out in a block of its own. -/
theorem OI.one {w wr : World} {u : Value} {l : List Int} (x : Ext w wr) (hu : IV wr u l) : OI w (wr.alloc (.cells #[u] 22)) (.slice (some ⟨wr.heap.size, 0, Option.none⟩) 1 1) [l] := by
  have hr := World.rowIs_alloc wr #[u] 22 (fun _ => u) (fun i hi => by simp at hi; subst hi; rfl)
  have := own_of_row hr (m := 1) (Nat.le_refl _) (by unfold maxLen; simp)
  obtain ⟨h1, h2⟩ := this
  refine ⟨x.alloc _, [u], ⟨h1, ?_⟩, fun i hi => ?_⟩
  · rcases h2 with ⟨hv, _⟩ | ⟨g, cap, cur, hv, hB, hrest⟩
    · cases hv
    · exact .inr ⟨g, cap, cur, hv, Nat.le_trans x.size hB, hrest⟩
  · obtain rfl : i = 0 := by simpa using hi
    exact ⟨u, rfl, hu.ext ((Ext.refl wr).alloc _)⟩
theorem OI.iss {w wr : World} {v : Value} {rows : List (List Int)} (h : OI w wr v rows) : ∃ c, ISS .i64 wr v c rows := by
  obtain ⟨h1, vs, h2, h3⟩ := h
  obtain ⟨c, hV⟩ := VS.of_own h2
  have hlen : vs.length = rows.length := by have := h2.1; omega
  have hcap : ∀ i, ∃ c', i < rows.length → IS .i64 wr (vs.getD i undef) c' (ri rows i) := fun i => by
    by_cases hi : i < rows.length
    · obtain ⟨u, a, b⟩ := h3 i hi
      obtain ⟨c', hr⟩ := b.is
      exact ⟨c', fun _ => by rw [show vs.getD i undef = u by simp [List.getD, a]]; exact hr⟩
    · exact ⟨0, fun h => absurd h hi⟩
  refine ⟨c, fun i => vs.getD i undef, fun i => (hcap i).choose, ?_, fun i hi => (hcap i).choose_spec hi⟩
  have : (List.range rows.length).map (fun i => vs.getD i undef) = vs := by
    apply List.ext_getElem (by simp [hlen])
    intro i h1 h2
    simp [List.getD, h2]
  rw [this]; exact hV
theorem ri_snoc (a : List (List Int)) (x : List Int) {j : Nat} (h : j < a.length) : ri (a ++ [x]) j = ri a j := by unfold ri; simp [List.getD, List.getElem?_append_left h]
theorem ri_last (a : List (List Int)) (x : List Int) : ri (a ++ [x]) a.length = x := by unfold ri; simp [List.getD]
/-- 'out = append(out, next)'. -/
theorem app_list {w : World} {ops : Array Oper} {rest : List Oper} {o : Oper} {a : Act} {Q : Exit → Act → World → Prop}
    (hg : o.guard = Option.none) (s x : Operand) (hop : o.op = Op.call { callee := Callee.builtin Builtin.append, args := #[s, x], argTypes := #[54, 54] })
    (wb : World) (v : Value) (rows : List (List Int)) (hs : a.eval s = v) (hco : OI wb w v rows) (u : Value) (l : List Int) (hu : IV w u l)
    (g : Nat) (hx : a.eval x = .slice (some ⟨g, 0, Option.none⟩) 1 1) (hgw : g = w.heap.size) (hlen : rows.length ≤ 100000)
    (hK : ∀ v' w', OI wb w' v' (rows ++ [l]) → IV w' u l → wpList Tryd.prog ops Q rest (a.put o.dst v') w') :
    wpList Tryd.prog ops Q (o :: rest) a (w.alloc (.cells #[u] 22)) := by
  obtain ⟨h1, vs, h2, h3⟩ := hco
  subst hgw
  have hvl : vs.length = rows.length := by have := h2.1; omega
  have h1u : ∀ y ∈ [u], y.oneCell' = true := by
    intro y hy
    obtain rfl := List.mem_singleton.1 hy
    obtain ⟨a', n', c', rfl, _⟩ := hu.form
    rfl
  have xa : Ext w (w.alloc (.cells #[u] 22)) := (Ext.refl w).alloc _
  refine app_own_g eiRow hg s x hop wb.heap.size v rows.length vs hs (own_ext h2 xa) _ 1 [u] hx (VS.one _ _ _) h1u (by simp; omega) (by simp; omega) (Nat.le_trans h1.size xa.size) ?_
  intro v' w' ho hgr
  have hst : 3 ≠ 22 := by decide
  refine hK v' w' ⟨?_, vs ++ [u], by simpa using ho, fun i hi => ?_⟩ ((hu.ext xa).grown (own_ext h2 xa) hgr hst)
  · refine (h1.trans xa).grown hgr fun k hk => ?_
    obtain ⟨_, ⟨hv, _⟩ | ⟨g', cap, cur, hv, hBg, _⟩⟩ := h2
    · rw [hv] at hk; cases hk
    · rw [hv] at hk; have : g' = k := by simpa [Value.ownBlock] using hk
      omega
  · rw [List.length_append, List.length_singleton] at hi
    by_cases e : i < rows.length
    · obtain ⟨u', a', b'⟩ := h3 i e
      rw [ri_snoc _ _ e]
      exact ⟨u', by rw [List.getElem?_append_left (by omega)]; exact a', (b'.ext xa).grown (own_ext h2 xa) hgr hst⟩
    · obtain rfl : i = rows.length := by omega
      rw [ri_last]
      exact ⟨u, by rw [List.getElem?_append_right (by omega)]; simp [hvl], (hu.ext xa).grown (own_ext h2 xa) hgr hst⟩
end Go.Proofs.YtinijapkipeamaaDoor
/- ganseyref13.Loads. -/
namespace Go.Proofs.YtinijapkipeamaaDoor
set_option linter.unusedVariables false
set_option linter.unusedSimpArgs false
set_option maxRecDepth 8000
open Go Go.RowKit

/-- Lists of numbers and an error are returned. -/
def RetLL (w0 : World) (rows : List (List Int)) (err : Int) (e : Ending) (w' : World) : Prop := ∃ v c, e = .returned (.tuple #[v, .int .i64 err]) ∧ ISS .i64 w' v c rows ∧ Ext w0 w'

theorem slice_mid (b o bn bc at0 nd : Nat) (h : at0 + nd ≤ bc) (hne : ¬ bc = at0) (w : World) : (Instr.slice 22 (.slice (some ⟨b, o, none⟩) bn bc) (some (.int .i64 (at0 : Int))) (some (.int .i64 ((at0 : Int) + (nd : Int)))) none).run Tryd.prog w = .ok (.slice (some ⟨b, o + at0, none⟩) nd (bc - at0)) w := by
  have hz : ∀ w', (sizeOf (Tryd.prog.elem 22)).run Tryd.prog w' = .ok 1 w' := fun w' => by kernel_rfl
  rw [run_slice_lh w 22 _ _ _ Tryd.underlying22 .i64 .i64 _ _ (by omega) (by omega) (by omega), hz]
  simp only [Result.andThen, sliced]
  rw [if_neg (by simpa using hne)]
  have e : ((at0 : Int) + (nd : Int)).toNat = at0 + nd := by omega
  rw [e]
  simp [Addr.add]
theorem rneed_app' (a b : List St) : rneed (a ++ b) = rneed a + rneed b := by
  induction a with
  | nil => simp [rneed]
  | cons s a ih => rw [List.cons_append, rneed_cons, rneed_cons, ih]; omega
set_option maxHeartbeats 8000000 in
theorem RCLoads_calls (v : Value) (c : Nat) (rows : List (List St)) (w : World) (h : RR w v c rows) (hs : ∀ k, k < rows.length → ∀ i, i < (sw rows k).length → 0 ≤ (si (sw rows k) i).k ∧ 0 ≤ (si (sw rows k) i).y) :
    Calls Tryd.prog 29 #[.agg #[v]] w (RetLL w (cloads rows).2 (cloads rows).1) := by
  obtain ⟨ao, n, rfl, hn, hc, hcm, hat⟩ := h.open
  unfold maxLen at hcm
  obtain ⟨W, hW⟩ : ∃ W, W = w.alloc (.cells #[.slice ao n c] 26) := ⟨_, rfl⟩
  have xW : Ext w W := by rw [hW]; exact (Ext.refl w).alloc _
  have b0 : W.cell? ⟨w.heap.size, 0, none⟩ = some (.slice ao n c) := by rw [hW, World.cell?_alloc_at (hn := rfl)]; rfl
  have HBx := Lib.hid (fun w' (x : Ext W w') => x.cell b0); have XW := Lib.hid xW
  have hbad : ∀ e w', cerr rows = e → e ≠ 0 → Ext W w' → RetLL w (cloads rows).2 (cloads rows).1 (.returned (.tuple #[.slice none 0 0, .int .i64 e])) w' := fun e w' h1 h2 x => by
    have : cloads rows = (e, []) := by unfold cloads; rw [if_pos (by omega), h1]
    rw [this]; exact ⟨_, 0, rfl, ISS.nil _ _, xW.trans x⟩
  have HBad := Lib.hid hbad
  by_cases h31 : 31 < n
  · have HF := Lib.hid (fun w' x => HBad.out 3 w' (cerr_long (rows := rows) (by omega)) (by decide) x)
    have h31' : (31 : Int) < (n : Int) := by omega
    have HW := Lib.hid hW
    rw [hW] at b0
    clear hn hat h31 h hs hbad xW hW
    go_enter Tryd.func29, Tryd.ntmps29
    go_wp2
    rw [← HW.out]
    go_ret2
    exact HF.out _ (Ext.refl _)
  have h31' : ¬ (31 : Int) < (n : Int) := by omega
  by_cases h2 : n % 2 = 0
  · have HF := Lib.hid (fun w' x => HBad.out 1 w' (cerr_even (rows := rows) (by omega) (by omega)) (by decide) x)
    have h2' : ((n : Int) % 2 == 0) = true := by rw [beq_iff_eq]; omega
    have HW := Lib.hid hW
    rw [hW] at b0
    clear hn hat h31 h2 h hs hbad xW hW
    go_enter Tryd.func29, Tryd.ntmps29
    go_wp2
    rw [← HW.out]
    go_ret2
    exact HF.out _ (Ext.refl _)
  have h2' : ((n : Int) % 2 == 0) = false := by rw [beq_eq_false_iff_ne]; omega
  have hrow : ∀ k, k < n → (∀ i, i < k → rchk (sw rows i) = 0) → rchk (sw rows k) ≠ 0 → cerr rows = rchk (sw rows k) := fun k hk hg hb => cerr_row (by omega) (by omega) (by omega) hg hb
  have hfit : (∀ i, i < n → rchk (sw rows i) = 0) → ∀ k, k + 1 < n → rneed (sw rows (k + 1)) ≠ rmake (sw rows k) → cerr rows = 14 := fun hg k hk hb => cerr_fit (by omega) (by omega) (fun i hi => hg i (by omega)) (by omega) hb
  have hok : (∀ i, i < n → rchk (sw rows i) = 0) → (∀ k, k + 1 < n → rneed (sw rows (k + 1)) = rmake (sw rows k)) → cerr rows = 0 := fun hg hf => cerr_ok (by omega) (by omega) (fun i hi => hg i (by omega)) (fun k hk => hf k (by omega))
  have hs2 : ∀ k, k < n → ∀ i, i < (sw rows k).length → 0 ≤ (si (sw rows k) i).k ∧ 0 ≤ (si (sw rows k) i).y := fun k hk => hs k (by omega)
  have HA := Lib.hid hat; have HRow := Lib.hid hrow; have HFit := Lib.hid hfit; have HOk := Lib.hid hok; have HS := Lib.hid hs2; have Hn := Lib.hid hn
  have hn31 : n ≤ 31 := by omega
  have hn1 : 1 ≤ n := by omega
  have HW := Lib.hid hW
  rw [hW] at b0
  clear hat hrow hfit hok hn h31 h2 h hs hbad xW hs2 hW
  go_enter Tryd.func29, Tryd.ntmps29
  go_wp2
  rw [← HW.out]
  clear b0 HW
  go_loopw [4, 5] (fun i _ wr => ∃ k : Nat, k ≤ n ∧ i = .int .i64 k ∧ Hid (Ext W wr) ∧ Hid (∀ i, i < k → rchk (sw rows i) = 0)) (fun i _ _ => n - (intOf i).toNat)
  case atStart => exact ⟨0, Nat.zero_le _, rfl, Lib.hid (Ext.refl _), Lib.hid (fun i hi => by omega)⟩
  case round =>
    obtain ⟨k, hk, rfl, HX, HG⟩ := hrel
    have b1 := HBx.out _ HX.out
    by_cases hlt : k < n
    · obtain ⟨b, o, a, m, d, rfl, hc0, hr0⟩ := HA.out k hlt
      replace hc0 := (XW.out.trans HX.out).cell hc0
      have hcl := RRow_calls _ _ _ wr (hr0.ext (XW.out.trans HX.out)) (HS.out k hlt)
      have hbd : rchk (sw rows k) ≠ 0 → cerr rows = rchk (sw rows k) := fun hb => HRow.out k hlt HG.out hb
      have hgg : rchk (sw rows k) = 0 → ∀ i, i < k + 1 → rchk (sw rows i) = 0 := fun h i hi => by
        by_cases e : i = k
        · rw [e]; exact h
        · exact HG.out i (by omega)
      generalize rchk (sw rows k) = E at hcl hbd hgg
      have HCl := Lib.hid hcl
      clear hcl hr0
      by_cases hE : E = 0
      · have tq : (E != 0) = false := by rw [hE]; rfl
        have HG2 := Lib.hid (hgg hE)
        clear hbd hgg hE
        go_wp2_with fail
        refine HCl.out.mono ?_
        rintro e w1 ⟨rfl, x1⟩
        have HX2 := Lib.hid (HX.out.trans x1)
        clear x1 hc0 b1 HCl
        go_wp2
        go_roundw
        case rel => exact ⟨k + 1, by omega, by go_num, HX2, HG2⟩
        case measure => simp [intOf]; omega
      · have tq : (E != 0) = true := by rw [bne, beq_eq_false_iff_ne.2 hE]; rfl
        have HF := Lib.hid (fun w' x => HBad.out E w' (hbd hE) hE x)
        clear hbd hgg hE
        go_wp2_with fail
        refine HCl.out.mono ?_
        rintro e w1 ⟨rfl, x1⟩
        have HF2 := Lib.hid (HF.out _ (HX.out.trans x1))
        clear x1 hc0 b1 HCl
        go_wp2
        go_ret2
        exact HF2.out
    · obtain rfl : n = k := by omega
      obtain ⟨wo, rfl⟩ : ∃ wo : World, wo = wr := ⟨_, rfl⟩
      clear hlt hk HRow
      go_wp2
      go_loopw [6] (fun i wr => ∃ k : Nat, k + 1 ≤ n ∧ i = .int .i64 ((k : Int) + 1) ∧ Hid (Ext W wr) ∧ Hid (∀ j, j < k → rneed (sw rows (j + 1)) = rmake (sw rows j))) (fun i _ => n - (intOf i).toNat)
      case atStart => exact ⟨0, by omega, rfl, HX, Lib.hid (fun j hj => by omega)⟩
      case round =>
        obtain ⟨k, hk, rfl, Hy, HF⟩ := hrel
        have b2 := HBx.out _ Hy.out
        by_cases hlt : k + 1 < n
        · obtain ⟨b, o, a, m, d, rfl, hcl, hrs⟩ := HA.out (k + 1) hlt
          obtain ⟨b', o', a', m', d', hbo, hcl', hrs'⟩ := HA.out k (by omega)
          obtain ⟨rfl, rfl⟩ : b = b' ∧ o = o' := by simpa using hbo
          have xwy := XW.out.trans Hy.out
          replace hcl := xwy.cell hcl; replace hcl' := xwy.cell hcl'
          have hg1 := rchk_zero (HG.out (k + 1) hlt)
          have hg2 := rchk_zero (HG.out k (by omega))
          have hN := fun w' (x : Ext wr w') => RRowNeeds_calls _ d (sw rows (k + 1)) w' ((hrs.ext xwy).ext x) (by omega) (HS.out _ hlt)
          have hM := fun w' (x : Ext wr w') => RRowMakes_calls _ d' (sw rows k) w' ((hrs'.ext xwy).ext x) (by omega) (HS.out _ (by omega))
          have hbk := HFit.out HG.out k hlt
          have hnx : rneed (sw rows (k + 1)) = rmake (sw rows k) → ∀ j, j < k + 1 → rneed (sw rows (j + 1)) = rmake (sw rows j) := fun h0 i hi => by
            by_cases e : i = k
            · rw [e]; exact h0
            · exact HF.out i (by omega)
          generalize rneed (sw rows (k + 1)) = A at hN hbk hnx
          generalize rmake (sw rows k) = B at hM hbk hnx
          have HN := Lib.hid hN; have HM := Lib.hid hM; have HBk := Lib.hid hbk; have HNx := Lib.hid hnx
          clear hN hM hbk hnx hg1 hg2 hrs hrs' hbo xwy
          have t1 : (0 : Int) ≤ (k : Int) + 1 := by omega
          have t2 : ((k : Int) + 1).toNat = k + 1 := by omega
          have t3 : (k : Int) + 1 < n := by omega
          have t4 : IntKind.i64.wrap ((k : Int) + 1 - 1) = (k : Int) := by rw [show (k : Int) + 1 - 1 = k by omega]; exact IntWalk.i64_in _ ⟨by omega, by omega⟩
          have t5 : (k : Int) < n := by omega
          have t6 : IntKind.i64.wrap (k : Int) = (k : Int) := IntWalk.i64_in _ ⟨by omega, by omega⟩
          have t7 : (0 : Int) ≤ (k : Int) := by omega
          go_wp2
          go_region_held3 (fun w' => w'.cell? ⟨w.heap.size, 0, Option.none⟩ = some (.slice (some ⟨b, o, Option.none⟩) n c) ∧ w'.cell? ⟨b, o + (k + 1), Option.none⟩ = some (.slice a m d) ∧ w'.cell? ⟨b, o + k, Option.none⟩ = some (.slice a' m' d')) (first | exact ⟨b2, hcl, hcl'⟩ | exact ⟨q2, q0, q1⟩ | exact ⟨p2, p0, p1⟩ | go_keep) (first
            | (go_at_call 30; (refine (HN.out _ ?_).mono ?_); (focus (repeat (first | (with_reducible exact Ext.refl _) | (with_reducible apply Ext.drew) | (with_reducible apply Ext.drewN)))); rintro e w4 ⟨rfl, x4⟩; have X4 : Hid (Ext wr w4) := Lib.hid (Ext.trans (by (repeat (first | (with_reducible exact Ext.refl _) | (with_reducible apply Ext.drew) | (with_reducible apply Ext.drewN)))) x4); have q0 := X4.out.cell hcl; have q1 := X4.out.cell hcl'; have q2 := X4.out.cell b2; clear x4)
            | (go_at_call 31; (refine (HM.out _ ?_).mono ?_); (focus (refine X4.out.trans ?_; (repeat (first | (with_reducible exact Ext.refl _) | (with_reducible apply Ext.drew) | (with_reducible apply Ext.drewN))))); rintro e w5 ⟨rfl, x5⟩; have X5 : Hid (Ext wr w5) := Lib.hid (X4.out.trans (Ext.trans (by (repeat (first | (with_reducible exact Ext.refl _) | (with_reducible apply Ext.drew) | (with_reducible apply Ext.drewN)))) x5)); have p0 := X5.out.cell hcl; have p1 := X5.out.cell hcl'; have p2 := X5.out.cell b2; clear x5))
          have HX := Lib.hid (Hy.out.trans X5.out)
          clear q0 q1 q2 p0 p1 p2 X4 X5 hcl hcl' HN HM t1 t2 t3 t4 t5 t6 t7 b2
          by_cases hq : A = B
          · have hq' : (A != B) = false := by rw [bne, beq_iff_eq.2 hq]; rfl
            have HN2 := Lib.hid (HNx.out hq)
            clear hq HNx HBk
            go_wp2
            go_roundw
            case rel => exact ⟨k + 1, by omega, by go_num, HX, HN2⟩
            case measure => simp [intOf]; omega
          · have hq' : (A != B) = true := by rw [bne, beq_eq_false_iff_ne.2 hq]; rfl
            have HB2 := Lib.hid (HBad.out 14 _ (HBk.out hq) (by decide) HX.out)
            clear hq HNx HBk
            go_wp2
            go_ret2
            exact HB2.out
        · have hnk : n = k + 1 := by omega
          have hce := HOk.out HG.out (fun j hj => HF.out j (by omega))
          have hz := fun i (hi : i < n) => rchk_zero (HG.out i hi)
          have hfitA := fun j (hj : j + 1 < n) => HF.out j (by omega)
          have hz0 := hz 0 (by omega)
          obtain ⟨N, hN⟩ : ∃ N : Nat, rneed (sw rows 0) = N := ⟨(rneed (sw rows 0)).toNat, by have := rneed_bd (sw rows 0); omega⟩
          have hN16 : 1 ≤ N ∧ N ≤ 16 := by omega
          obtain ⟨F, hFd⟩ : ∃ F, F = List.replicate N (1 : Int) := ⟨_, rfl⟩
          have hfst : first rows = F := by unfold first; rw [hN, hFd]; rfl
          have hcl : cloads rows = ldRows (rows.drop 0) F [F] := by unfold cloads; rw [if_neg (by omega), hfst]; rfl
          obtain ⟨b, o, a, m, d, rfl, hc0, hr0⟩ := HA.out 0 (by omega)
          rw [Nat.add_zero] at hc0
          obtain ⟨w5, hw5⟩ : ∃ w5 : World, w5 = wr := ⟨_, rfl⟩
          have X5 := Lib.hid (show Ext W w5 by rw [hw5]; exact Hy.out)
          have HC0 := Lib.hid (fun w' (x : Ext W w') => (XW.out.trans x).cell hc0)
          have hNe := fun w' (x : Ext W w') => RRowNeeds_calls _ d (sw rows 0) w' (hr0.ext (XW.out.trans x)) (by omega) (HS.out 0 (by omega))
          rw [hN] at hNe
          have HNe := Lib.hid hNe; have HCl := Lib.hid hcl; have HZ := Lib.hid hz; have HFt := Lib.hid hfitA; have HN0 := Lib.hid hN; have HN9 := Lib.hid hN; have HFd := Lib.hid hFd
          have tl : ¬ ((k : Int) + 1 < n) := by omega
          have tn : (0 : Int) < n := by omega
          rw [← hw5] at b2 ⊢
          clear hw5 hz hfitA hz0 hN hFd hfst hcl hc0 hr0 hNe hce hnk hlt
          go_wp2
          clear b2 tl
          go_loopw [7, 8] (fun u i wr => ∃ j : Nat, j ≤ N ∧ i = .int .i64 j ∧ Hid (wr.ownsRow w5.heap.size 3 1 u j ((List.replicate j (1 : Int)).map (Value.int .i64)) ∧ Ext w5 wr)) (fun _ i _ => N - (intOf i).toNat)
          case atStart => exact ⟨0, Nat.zero_le _, rfl, Lib.hid ⟨World.ownsRow_nil _ _ _ _, Ext.refl _⟩⟩
          case round =>
            obtain ⟨j, hj, rfl, H⟩ := hrel
            have b2 := HBx.out _ (X5.out.trans H.out.2)
            have c2 := HC0.out _ (X5.out.trans H.out.2)
            have hcall := HNe.out _ (X5.out.trans H.out.2)
            have HCa := Lib.hid hcall
            clear hcall
            go_wp2_with fail
            refine HCa.out.mono ?_
            rintro e w6 ⟨rfl, x6⟩
            have H6 := Lib.hid (And.intro (own_ext H.out.1 x6) (H.out.2.trans x6))
            clear x6 b2 c2 HCa
            by_cases hjl : j < N
            · have hsz := H6.out.2.size
              go_wp2_with (at_builtin; refine app_own eiInt rfl _ _ rfl w5.heap.size _ j _ rfl (H6.out.1.alloc _) _ _ _ rfl (VS.one _ _ _) (one1 _) ?d1 ?d2 ?d3 ?_)
              any_goals (first | omega | (simp; done) | (simp only [List.length_cons, List.length_nil]; omega) | (simp; omega))
              intro v' w' hown hbel
              have HO := Lib.hid (show w'.ownsRow w5.heap.size 3 1 v' (j + 1) ((List.replicate (j + 1) (1 : Int)).map (Value.int .i64)) ∧ Ext w5 w' from ⟨by rw [rep_snoc, List.map_replicate]; exact hown, Below.trans (H6.out.2.alloc _) hbel⟩)
              clear hown hbel
              go_wp2
              go_roundw
              case rel => exact ⟨j + 1, by omega, by go_num, HO⟩
              case measure => simp [intOf]; omega
            · obtain rfl : N = j := by omega
              have hiv := IV.of_own H6.out.1
              rw [← HFd.out] at hiv
              obtain ⟨na, nn, nc, hnf, hnn⟩ := hiv.1.form
              subst hnf
              have hoi := OI.one H6.out.2 hiv.1
              have hiv2 := hiv.1.ext ((Ext.refl w6).alloc (.cells #[.slice na nn nc] 22))
              obtain ⟨w7, hw7⟩ : ∃ w7, w7 = w6.alloc (.cells #[.slice na nn nc] 22) := ⟨_, rfl⟩
              have X7 := Lib.hid (show Ext w5 w7 by rw [hw7]; exact H6.out.2.alloc _)
              rw [← hw7] at hoi hiv2
              have HOI := Lib.hid hoi; have HIV := Lib.hid hiv2; have HW7 := Lib.hid hw7
              clear hiv hoi hiv2 hnn hw7 hjl H H6
              go_wp2
              rw [← HW7.out]
              clear HC0 HNe HF HN0 hN16
              go_loopw [7, 9, 10, 11, 12, 13, 14, 15, 16, 17] (fun nv ov i _ _ _ _ _ _ _ wr => ∃ (k : Nat) (bf : List Int) (acc : List (List Int)) (aa : Option Addr) (bn bc : Nat), k ≤ n ∧ i = .int .i64 k ∧ nv = .slice aa bn bc ∧ acc.length = k + 1 ∧ Hid (IV wr (.slice aa bn bc) bf) ∧ Hid (OI w5 wr ov acc) ∧ Hid (ldRows (rows.drop 0) F [F] = ldRows (rows.drop k) bf acc) ∧ Hid (k < n → (bf.length : Int) = rneed (sw rows k))) (fun _ _ i _ _ _ _ _ _ _ _ => n - (intOf i).toNat)
              case atStart => exact ⟨0, F, [F], na, nn, nc, by omega, rfl, rfl, rfl, HIV, HOI, Lib.hid rfl, Lib.hid (fun _ => by rw [HN9.out, HFd.out]; simp)⟩
              case round =>
                obtain ⟨k, bf, acc, aa, bn, bc, hk, rfl, rfl, hacl, HV, HO, HE, HB⟩ := hrel
                have X8 := Lib.hid (show Ext W wr from X5.out.trans HO.out.1)
                have b2 := HBx.out _ X8.out
                by_cases hlt : k < n
                · obtain ⟨b', o', a, m, d, hbo, hc0, hr0⟩ := HA.out k hlt
                  obtain ⟨rfl, rfl⟩ : b = b' ∧ o = o' := by simpa using hbo
                  have HC0 := Lib.hid (fun w' (x : Ext W w') => (XW.out.trans x).cell hc0)
                  obtain ⟨_, _, e1, e2, e3, e4, e5⟩ := hr0.open
                  simp only [Value.slice.injEq] at e1
                  obtain ⟨rfl, rfl, _⟩ := e1
                  have hz := HZ.out k hlt
                  have hbf := HB.out hlt
                  have hm16 : m ≤ 16 := by omega
                  obtain ⟨w8, hw8⟩ : ∃ w8 : World, w8 = wr := ⟨_, rfl⟩
                  have HV8 := Lib.hid (show IV w8 (.slice aa bn bc) bf by rw [hw8]; exact HV.out)
                  have HO8 := Lib.hid (show OI w5 w8 _ acc by rw [hw8]; exact HO.out)
                  have X88 := Lib.hid (show Ext W w8 by rw [hw8]; exact X8.out)
                  have HE5 := Lib.hid e5; have HBf := Lib.hid hbf; have He2 := Lib.hid e2
                  have HSt := Lib.hid (HS.out k hlt)
                  rw [← hw8] at b2 ⊢
                  clear hw8 hbo hc0 hr0 e2 e5 hz hbf HV HO X8 HB
                  go_wp2
                  go_loopw [11, 12, 13, 14, 15, 16, 17] (fun at' nx i _ _ _ _ ws => ∃ (j at0 : Nat) (nw : List Int), j ≤ m ∧ i = .int .i64 j ∧ at' = .int .i64 at0 ∧ nw.length ≤ 4 * j ∧ Hid (ws.ownsRow w8.heap.size 3 1 nx nw.length (nw.map (Value.int .i64)) ∧ Ext w8 ws) ∧ Hid ((at0 : Int) = rneed ((sw rows k).take j)) ∧ Hid ((nw.length : Int) = rmake ((sw rows k).take j)) ∧ Hid (ldRow (sw rows k) bf [] = ldRow ((sw rows k).drop j) (bf.drop at0) nw)) (fun _ _ i _ _ _ _ _ => m - (intOf i).toNat)
                  case atStart => exact ⟨0, 0, [], by omega, rfl, rfl, by simp, Lib.hid ⟨World.ownsRow_nil _ _ _ _, Ext.refl _⟩, Lib.hid (by simp [rneed]), Lib.hid (by simp [rmake]), Lib.hid rfl⟩
                  case round =>
                    obtain ⟨j, at0, nw, hj, rfl, rfl, hnw, HH, HAt, HNl, HLR⟩ := hrel
                    obtain ⟨ws, hws⟩ : ∃ ws : World, ws = wr := ⟨_, rfl⟩
                    rw [← hws] at HH ⊢
                    clear hws
                    have b2 := HBx.out _ (X88.out.trans HH.out.2)
                    have c2 := HC0.out _ (X88.out.trans HH.out.2)
                    by_cases hjl : j < m
                    · obtain ⟨bb, oo, rfl, e8⟩ := HE5.out j hjl
                      obtain ⟨u0, u1, u2, u3, u4⟩ := e8.ext (XW.out.trans (X88.out.trans HH.out.2))
                      have hrn : rneed (sw rows k) = rneed ((sw rows k).take (j + 1)) + rneed ((sw rows k).drop (j + 1)) := by rw [← rneed_app', List.take_append_drop]
                      have htk : rneed ((sw rows k).take (j + 1)) = rneed ((sw rows k).take j) + (si (sw rows k) j).need := by rw [take_succ_si (by have := He2.out; omega), rneed_snoc]
                      have hdb := (rneed_bd ((sw rows k).drop (j + 1))).1
                      have hnb := St.need_bd (si (sw rows k) j)
                      obtain ⟨nd, hnd⟩ : ∃ nd : Nat, (si (sw rows k) j).need = nd := ⟨((si (sw rows k) j).need).toNat, by omega⟩
                      have hat := HAt.out
                      have hbf := HBf.out
                      have hfit : at0 + nd ≤ bf.length := by omega
                      have hs0 := HSt.out j (by have := He2.out; omega)
                      have hne := fun w' => RNeeds_calls (si (sw rows k) j) w' hs0
                      have hld := fun v c xs w' (h : IS .i64 w' v c xs) => RLoads_calls (si (sw rows k) j) v c xs w' h hs0
                      rw [hnd] at hne htk hnb
                      obtain ⟨st, hst⟩ : ∃ st, st = si (sw rows k) j := ⟨_, rfl⟩
                      rw [← hst] at u0 u1 u2 u3 u4 hne hld
                      have hk5 := (B5.new ws st 52)
                      have HK5 := Lib.hid hk5
                      have HNe := Lib.hid hne; have HLd0 := Lib.hid hld; have Hst := Lib.hid hst; have HNd := Lib.hid hnd; have HTk := Lib.hid htk
                      have hat16 : at0 ≤ 16 := by have := (rchk_zero (HG.out k hlt)); omega
                      unfold St.val at HNe HLd0
                      clear hrn htk hdb hat hbf hne hld hst hk5 e8 hnd hs0
                      go_wp2_with fail
                      refine (HNe.out _).mono ?_
                      rintro e wn ⟨rfl, xn⟩
                      have q5 : At5 wn ws.heap.size 0 st := (HK5.out.ext xn).at
                      have Xn := Lib.hid (((Ext.refl ws).alloc _).trans xn)
                      clear xn u0 u1 u2 u3 u4 HNe HK5 b2 c2
                      obtain ⟨q0, q1, q2, q3, q4⟩ := q5
                      simp only [Nat.zero_add] at q1 q2 q3 q4
                      obtain ⟨cI, hI⟩ := HV8.out.is
                      obtain ⟨g1, g2, g3⟩ := hI.len
                      subst g2
                      have hbn : at0 + nd ≤ bn := by omega
                      have hIn := hI.ext (HH.out.2.trans Xn.out)
                      have wz : IntKind.i64.wrap ((at0 : Int) + nd) = (at0 : Int) + nd := IntWalk.i64_in _ ⟨by omega, by omega⟩
                      have r2 : (0 : Int) ≤ (at0 : Int) := by omega
                      have r3 : (at0 : Int) ≤ (at0 : Int) + nd := by omega
                      have r4 : (at0 : Int) + nd ≤ (bc : Int) := by omega
                      have r5 : ((at0 : Int) + nd).toNat = at0 + nd := by omega
                      have r6 : at0 + nd ≤ bc := by omega
                      have r7 : at0 ≤ at0 + nd := by omega
                      have r8 : at0 ≤ bc := by omega
                      have r9 : (at0 : Int) ≤ (bc : Int) := by omega
                      have ra : (0 : Int) ≤ (nd : Int) := by omega
                      have rb : (0 : Int) ≤ (at0 : Int) + nd := by omega
                      clear g1 g3
                      go_wp2
                      rcases hIn.from at0 (by omega) with ⟨b5, o5, haa, hfr⟩ | ⟨z1, z2, z3, z4⟩
                      · have hup := hfr.upto (m := nd) (by omega)
                        subst haa
                        by_cases hcc : bc = at0
                        · have hcc' := hcc.symm
                          subst hcc'
                          rw [if_pos rfl, Nat.sub_self] at hup
                          have re' : at0 + nd - at0 = nd := by omega
                          have ri' : ¬ at0 + nd < at0 := by omega
                          have HLd := Lib.hid (fun w' (x : Ext wn w') => HLd0.out _ _ _ w' (hup.ext x))
                          clear hup hfr hIn hI
                          go_region_held3 (fun w' => w'.cell? ⟨ws.heap.size, 0, Option.none⟩ = some (.int .u8 st.k) ∧ w'.cell? ⟨ws.heap.size, 1, Option.none⟩ = some (.int .u8 st.y) ∧ w'.cell? ⟨ws.heap.size, 2, Option.none⟩ = some (.int .i64 st.a) ∧ w'.cell? ⟨ws.heap.size, 3, Option.none⟩ = some (.int .i64 st.b) ∧ w'.cell? ⟨ws.heap.size, 4, Option.none⟩ = some (.bool st.f)) (first | exact ⟨q0, q1, q2, q3, q4⟩ | exact ⟨p0, p1, p2, p3, p4⟩ | go_keep) (first
                            | (go_at_call 44; (refine (HLd.out _ ?_).mono ?_); (focus (repeat (first | (with_reducible exact Ext.refl _) | (with_reducible apply Ext.drew) | (with_reducible apply Ext.drewN)))); intro e wl hh; obtain ⟨vl, cl, rfl, il, xl⟩ := hh; have Xl : Hid (Ext wn wl) := Lib.hid (Ext.trans (by (repeat (first | (with_reducible exact Ext.refl _) | (with_reducible apply Ext.drew) | (with_reducible apply Ext.drewN)))) xl); have Il := Lib.hid il; have p0 := Xl.out.cell q0; have p1 := Xl.out.cell q1; have p2 := Xl.out.cell q2; have p3 := Xl.out.cell q3; have p4 := Xl.out.cell q4; clear il xl))
                          have htn : (si (sw rows k) j).need.toNat = nd := by rw [HNd.out]; rfl
                          have hjr : j < (sw rows k).length := by have := He2.out; omega
                          have hjr2 := hjr
                          have hbadR := fun hb => ldRow_bad (r := sw rows k) (k := j) hjr (bf := bf.drop at0) (acc := nw) hb
                          have hnextR := fun hb => ldRow_next (r := sw rows k) (k := j) hjr (bf := bf.drop at0) (acc := nw) hb
                          rw [htn, ← Hst.out, List.drop_drop] at hnextR
                          rw [htn, ← Hst.out] at hbadR
                          have hmdl := fun (h : st.lerr ((bf.drop at0).take nd) = 0) => lmade_len h
                          have hmkb := St.make_bd st
                          obtain ⟨er, her⟩ : ∃ er, er = st.lerr ((bf.drop at0).take nd) := ⟨_, rfl⟩
                          obtain ⟨md, hmd⟩ : ∃ md, md = st.lmade ((bf.drop at0).take nd) := ⟨_, rfl⟩
                          rw [← her] at hbadR hnextR hmdl ⊢
                          rw [← hmd] at hnextR hmdl Il
                          have Xs := Lib.hid (Xn.out.trans Xl.out)
                          have HHl := Lib.hid (And.intro (own_ext HH.out.1 Xs.out) (HH.out.2.trans Xs.out))
                          have HBdR := Lib.hid hbadR; have HNxR := Lib.hid hnextR
                          clear hbadR hnextR her hmd htn hjr q0 q1 q2 q3 q4 p0 p1 p2 p3 p4
                          by_cases he : er = 0
                          · have he' : (er != 0) = false := by rw [he]; rfl
                            have hml := hmdl he
                            have hml4 : md.length ≤ 4 := by omega
                            have HNl2 := Lib.hid (show ((nw ++ md).length : Int) = rmake ((sw rows k).take (j + 1)) from by rw [take_succ_si hjr2, rmake_snoc, ← Hst.out, ← HNl.out, List.length_append]; omega)
                            have hnx := HNxR.out he
                            have HNx := Lib.hid (HLR.out.trans hnx)
                            have hsz := HHl.out.2.size
                            have HTk2 := Lib.hid (show ((at0 + nd : Nat) : Int) = rneed ((sw rows k).take (j + 1)) by rw [HTk.out, ← HAt.out]; omega)
                            have hmm : (md.map (Value.int .i64)).length = md.length := List.length_map _
                            clear he hmdl hml hnx hjr2
                            go_wp2_with (at_builtin; go_loud (refine app_own eiInt rfl _ _ rfl w8.heap.size _ nw.length _ rfl HHl.out.1 _ _ _ rfl Il.out (onesI _) ?h1 ?h2 hsz ?_))
                            case h1 => rw [List.length_map]; omega
                            case h2 => rw [List.length_map]; omega
                            intro v' w' hown hbel
                            have HO2 := Lib.hid (show w'.ownsRow w8.heap.size 3 1 v' (nw ++ md).length ((nw ++ md).map (Value.int .i64)) ∧ Ext w8 w' from ⟨by rw [List.length_append, List.map_append]; simpa using hown, Below.trans HHl.out.2 hbel⟩)
                            clear hown hbel
                            go_wp2
                            go_roundw
                            case rel => exact ⟨j + 1, at0 + nd, nw ++ md, by omega, by go_num, by go_num, by rw [List.length_append]; omega, HO2, HTk2, HNl2, HNx⟩
                            case measure => simp [intOf]; omega
                          · have he' : (er != 0) = true := by rw [bne, beq_eq_false_iff_ne.2 he]; rfl
                            have hrow : ldRow (sw rows k) bf [] = (er, []) := HLR.out.trans (HBdR.out he)
                            have hcl : cloads rows = (er, []) := by
                              rw [HCl.out, HE.out, ldRows_bad (by rw [← Hn.out]; exact hlt) (by rw [hrow]; exact he), hrow]
                            have HF := Lib.hid (show ∀ w', Ext W w' → RetLL w (cloads rows).2 (cloads rows).1 (.returned (.tuple #[.slice none 0 0, .int .i64 er])) w' from fun w' x => by
                              rw [hcl]; exact ⟨_, 0, rfl, ISS.nil _ _, XW.out.trans x⟩)
                            clear hrow hcl he hmdl hjr2
                            go_wp2
                            go_ret2
                            exact HF.out _ (X88.out.trans HHl.out.2)
                        · rw [if_neg hcc] at hup
                          have rc : ¬ bc ≤ at0 := by omega
                          have hsl := fun w' => slice_mid b5 o5 bn bc at0 nd (by omega) hcc w'
                          have hsl2 : ∀ w', (Instr.sliceAt 22 (.slice (some ⟨b5, o5, none⟩) bn bc) (some (.int .i64 (at0 : Int))) (some (.int .i64 ((at0 : Int) + (nd : Int)))) none).run Tryd.prog w' = .ok (.slice (some ⟨b5, o5 + at0, none⟩) nd (bc - at0)) w' := fun w' => by
                            rw [run_sliceAt_slice w' 22 _ _ _ _ Tryd.underlying22]; exact hsl w'
                          have rd : ¬ bc - at0 = 0 := by omega
                          have re' : at0 + nd - at0 = nd := by omega
                          have rf : at0 < bc := by omega
                          have rg : ((at0 : Int) + (nd : Int)).toNat ≤ bc := by omega
                          have rh : ¬ bc < at0 + nd := by omega
                          have ri' : ¬ at0 + nd < at0 := by omega
                          have HLd := Lib.hid (fun w' (x : Ext wn w') => HLd0.out _ _ _ w' (hup.ext x))
                          clear hup hfr hIn hI
                          go_region_held3 (fun w' => w'.cell? ⟨ws.heap.size, 0, Option.none⟩ = some (.int .u8 st.k) ∧ w'.cell? ⟨ws.heap.size, 1, Option.none⟩ = some (.int .u8 st.y) ∧ w'.cell? ⟨ws.heap.size, 2, Option.none⟩ = some (.int .i64 st.a) ∧ w'.cell? ⟨ws.heap.size, 3, Option.none⟩ = some (.int .i64 st.b) ∧ w'.cell? ⟨ws.heap.size, 4, Option.none⟩ = some (.bool st.f)) (first | exact ⟨q0, q1, q2, q3, q4⟩ | exact ⟨p0, p1, p2, p3, p4⟩ | go_keep) (first
                            | (go_at_call 44; (refine (HLd.out _ ?_).mono ?_); (focus (repeat (first | (with_reducible exact Ext.refl _) | (with_reducible apply Ext.drew) | (with_reducible apply Ext.drewN)))); intro e wl hh; obtain ⟨vl, cl, rfl, il, xl⟩ := hh; have Xl : Hid (Ext wn wl) := Lib.hid (Ext.trans (by (repeat (first | (with_reducible exact Ext.refl _) | (with_reducible apply Ext.drew) | (with_reducible apply Ext.drewN)))) xl); have Il := Lib.hid il; have p0 := Xl.out.cell q0; have p1 := Xl.out.cell q1; have p2 := Xl.out.cell q2; have p3 := Xl.out.cell q3; have p4 := Xl.out.cell q4; clear il xl))
                          have htn : (si (sw rows k) j).need.toNat = nd := by rw [HNd.out]; rfl
                          have hjr : j < (sw rows k).length := by have := He2.out; omega
                          have hjr2 := hjr
                          have hbadR := fun hb => ldRow_bad (r := sw rows k) (k := j) hjr (bf := bf.drop at0) (acc := nw) hb
                          have hnextR := fun hb => ldRow_next (r := sw rows k) (k := j) hjr (bf := bf.drop at0) (acc := nw) hb
                          rw [htn, ← Hst.out, List.drop_drop] at hnextR
                          rw [htn, ← Hst.out] at hbadR
                          have hmdl := fun (h : st.lerr ((bf.drop at0).take nd) = 0) => lmade_len h
                          have hmkb := St.make_bd st
                          obtain ⟨er, her⟩ : ∃ er, er = st.lerr ((bf.drop at0).take nd) := ⟨_, rfl⟩
                          obtain ⟨md, hmd⟩ : ∃ md, md = st.lmade ((bf.drop at0).take nd) := ⟨_, rfl⟩
                          rw [← her] at hbadR hnextR hmdl ⊢
                          rw [← hmd] at hnextR hmdl Il
                          have Xs := Lib.hid (Xn.out.trans Xl.out)
                          have HHl := Lib.hid (And.intro (own_ext HH.out.1 Xs.out) (HH.out.2.trans Xs.out))
                          have HBdR := Lib.hid hbadR; have HNxR := Lib.hid hnextR
                          clear hbadR hnextR her hmd htn hjr q0 q1 q2 q3 q4 p0 p1 p2 p3 p4 hsl hsl2
                          by_cases he : er = 0
                          · have he' : (er != 0) = false := by rw [he]; rfl
                            have hml := hmdl he
                            have hml4 : md.length ≤ 4 := by omega
                            have HNl2 := Lib.hid (show ((nw ++ md).length : Int) = rmake ((sw rows k).take (j + 1)) from by rw [take_succ_si hjr2, rmake_snoc, ← Hst.out, ← HNl.out, List.length_append]; omega)
                            have hnx := HNxR.out he
                            have HNx := Lib.hid (HLR.out.trans hnx)
                            have hsz := HHl.out.2.size
                            have HTk2 := Lib.hid (show ((at0 + nd : Nat) : Int) = rneed ((sw rows k).take (j + 1)) by rw [HTk.out, ← HAt.out]; omega)
                            have hmm : (md.map (Value.int .i64)).length = md.length := List.length_map _
                            clear he hmdl hml hnx hjr2
                            go_wp2_with (at_builtin; go_loud (refine app_own eiInt rfl _ _ rfl w8.heap.size _ nw.length _ rfl HHl.out.1 _ _ _ rfl Il.out (onesI _) ?g1 ?g2 hsz ?_))
                            case g1 => rw [List.length_map]; omega
                            case g2 => rw [List.length_map]; omega
                            intro v' w' hown hbel
                            have HO2 := Lib.hid (show w'.ownsRow w8.heap.size 3 1 v' (nw ++ md).length ((nw ++ md).map (Value.int .i64)) ∧ Ext w8 w' from ⟨by rw [List.length_append, List.map_append]; simpa using hown, Below.trans HHl.out.2 hbel⟩)
                            clear hown hbel
                            go_wp2
                            go_roundw
                            case rel => exact ⟨j + 1, at0 + nd, nw ++ md, by omega, by go_num, by go_num, by rw [List.length_append]; omega, HO2, HTk2, HNl2, HNx⟩
                            case measure => simp [intOf]; omega
                          · have he' : (er != 0) = true := by rw [bne, beq_eq_false_iff_ne.2 he]; rfl
                            have hrow : ldRow (sw rows k) bf [] = (er, []) := HLR.out.trans (HBdR.out he)
                            have hcl : cloads rows = (er, []) := by
                              rw [HCl.out, HE.out, ldRows_bad (by rw [← Hn.out]; exact hlt) (by rw [hrow]; exact he), hrow]
                            have HF := Lib.hid (show ∀ w', Ext W w' → RetLL w (cloads rows).2 (cloads rows).1 (.returned (.tuple #[.slice none 0 0, .int .i64 er])) w' from fun w' x => by
                              rw [hcl]; exact ⟨_, 0, rfl, ISS.nil _ _, XW.out.trans x⟩)
                            clear hrow hcl he hmdl hjr2
                            go_wp2
                            go_ret2
                            exact HF.out _ (X88.out.trans HHl.out.2)
                      · exfalso
                        have h1 := HBf.out
                        have h2 := rchk_zero (HG.out k hlt)
                        rw [z4, List.length_nil] at h1
                        omega
                    · obtain rfl : m = j := by omega
                      have hE2 := He2.out
                      have hrow : ldRow (sw rows k) bf [] = (0, nw) := HLR.out.trans (ldRow_end (by omega))
                      have hnext := ldRows_next (r := rows) (k := k) (by rw [← Hn.out]; exact hlt) (bf := bf) (acc := acc) (by rw [hrow])
                      rw [hrow] at hnext
                      have HE' := Lib.hid (HE.out.trans hnext)
                      have hnl : k + 1 < n → (nw.length : Int) = rneed (sw rows (k + 1)) := fun h => by
                        have h1 := HNl.out
                        rw [List.take_of_length_le (by omega)] at h1
                        rw [h1, HFt.out k (by omega)]
                      have HNl' := Lib.hid hnl
                      have hiv := (IV.of_own HH.out.1).1
                      obtain ⟨ya, yn, yc, hnf, hnn⟩ := hiv.form
                      subst hnf
                      have HU := Lib.hid (And.intro (HO8.out.later HH.out.2) hiv)
                      have hlen : acc.length ≤ 100000 := by omega
                      clear hE2 hrow hnext hnl hiv hnn
                      go_wp2_with (at_builtin; go_loud (refine app_list rfl _ _ rfl w5 _ acc rfl HU.out.1 _ nw HU.out.2 ws.heap.size rfl rfl hlen ?_))
                      intro v6 w6 hco hiv6
                      have HC := Lib.hid (And.intro hco hiv6)
                      clear hco hiv6
                      go_wp2
                      go_roundw
                      case rel => exact ⟨k + 1, nw, acc ++ [nw], ya, yn, yc, by omega, by go_num, rfl, by simp; omega, Lib.hid HC.out.2, Lib.hid HC.out.1, HE', HNl'⟩
                      case measure => simp [intOf]; omega
                · obtain rfl : n = k := by omega
                  have hcl2 : cloads rows = (0, acc) := by rw [HCl.out, HE.out]; exact ldRows_end (by rw [← Hn.out]; exact Nat.le_refl _)
                  obtain ⟨oa, on, oc, hof, _⟩ := HO.out.form
                  subst hof
                  obtain ⟨cI, hI⟩ := HO.out.iss
                  have HF := Lib.hid (show RetLL w (cloads rows).2 (cloads rows).1 (.returned (.tuple #[.slice oa on oc, .int .i64 0])) wr from by
                    rw [hcl2]; exact ⟨_, cI, rfl, hI, XW.out.trans X8.out⟩)
                  clear hcl2 hI
                  go_wp2
                  go_ret2
                  exact HF.out
end Go.Proofs.YtinijapkipeamaaDoor
/- Contract of charts.Check. -/
namespace Go.Proofs.YtinijapkipeamaaDoor
set_option linter.unusedVariables false
set_option linter.unusedSimpArgs false
set_option maxRecDepth 8000
open Go Go.RowKit

theorem CCheck_calls (v : Value) (c : Nat) (rows : List (List St)) (w : World) (h : RR w v c rows) :
    Calls Tryd.prog 26 #[.agg #[v]] w fun e w' => e = .returned (.int .i64 (cloads rows).1) ∧ Ext w w' := by
  have hL := fun w' (x : Ext w w') => CLoads_calls v c rows w' (h.ext x)
  have HL := Lib.hid hL
  obtain ⟨ao, n, rfl, h0⟩ := h.open
  clear hL h h0
  go_enter Tryd.func26, Tryd.ntmps26
  go_wp2_with fail
  refine (HL.out _ ((Ext.refl w).alloc _)).mono ?_
  rintro e w1 ⟨v1, rfl, h1, x1⟩
  have X1 := Lib.hid (((Ext.refl w).alloc _).trans x1)
  clear h1 x1
  go_wp2
  go_ret
  exact ⟨rfl, X1.out⟩
end Go.Proofs.YtinijapkipeamaaDoor
