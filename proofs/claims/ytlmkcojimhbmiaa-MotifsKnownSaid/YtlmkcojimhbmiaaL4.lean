/- Texts of this claim in one file: libraries and walks. -/
import Derived.Laws.StructEq
import Derived.Deep.RegionHeld3
import Derived.Shelf.Bits.Mul64
import Derived.Test.YtlmkcojimhbmiaaProg
import Derived.Laws.CopyOwn
import Derived.Laws.OwnMore
import Derived.Deep.RegionLaw
import Derived.RegionTactic
import Derived.Test.YtlmkcojimhbmiaaL0
import Derived.Test.YtlmkcojimhbmiaaL1
import Derived.Test.YtlmkcojimhbmiaaL3
/- Charts that a call builds by appending rows. -/
namespace Go.Proofs.Ytlmkcojimhbmiaa
set_option linter.unusedVariables false
set_option linter.unusedSimpArgs false
set_option maxRecDepth 8000
open Go Go.RowKit

/-- 'append(s, x...)', s the call's own, x any slice: with all that is known of the new world. -/
theorem app_own_g {P : Program} {t e : TypeId} {z : Value} {bytes : Nat} (ei : EI P t e z bytes) {w : World} {ops : Array Oper} {rest : List Oper} {o : Oper} {a : Act} {Q : Exit → Act → World → Prop}
    (hg : o.guard = none) (s x : Operand) (hop : o.op = Op.call { callee := Callee.builtin Builtin.append, args := #[s, x], argTypes := #[t, t] })
    (B : Nat) (v : Value) (n : Nat) (xs : List Value) (hs : a.eval s = v) (hown : w.ownsRow B e 1 v n xs)
    (y : Value) (c : Nat) (ys : List Value) (hx : a.eval x = y) (hy : VS w y c ys) (h1 : ∀ u ∈ ys, u.oneCell' = true)
    (hbytes : (n + ys.length) * bytes ≤ 140737488355328) (hlen : n + ys.length ≤ 140737488355328) (hB : B ≤ w.heap.size)
    (hK : ∀ v' w', w'.ownsRow B e 1 v' (n + ys.length) (xs ++ ys) → w.grownBy w' v.ownBlock → wpList P ops Q rest (a.put o.dst v') w') :
    wpList P ops Q (o :: rest) a w := by
  obtain ⟨i, hi, hz0, hz1, hz2⟩ := info_parts ei.info
  obtain ⟨ao, rfl, hl, hm, hno, hc⟩ := hy
  have hzs : z.cells.size = 1 := by rw [ei.cell]; rfl
  cases ao with
  | none =>
    have hc0 := hno rfl
    have hys : ys = [] := List.eq_nil_of_length_eq_zero (by omega)
    subst hys
    subst hc0
    exact wpList_append_own_none hg s x t hop B e i 1 ei.und hi v n xs hs hown hx (hK v w (by simpa using hown) (World.grownBy.refl _ _))
  | some ad =>
    refine wpList_append_own w hg s x t hop B e i z 1 bytes ei.und hi hz0 hz1 hz2 hzs (by decide) v n xs hs hown ad ys.length c ys hx (by simp) (VS.cells hl hc ad rfl) h1 (by unfold maxLen; omega) hbytes hB ?_
    intro v' w' h2 h3 _
    exact hK v' w' h2 h3

/-- A block of another type is no row of the call's own. -/
theorem own_ne {w : World} {B n : Nat} {e t : TypeId} {v : Value} {xs : List Value} {z : Nat} (ho : w.ownsRow B e z v n xs) {b : Nat} {cs : Array Value} {q : Nat × Nat} (hb : w.heap[b]? = some (.cells cs t q)) (ht : t ≠ e) : v.ownBlock ≠ some b := by
  intro he
  obtain ⟨_, ⟨hv, _⟩ | ⟨g, cap, cur, hv, hB, hb2, _⟩⟩ := ho
  · rw [hv] at he; cases he
  · rw [hv] at he
    have : g = b := by simpa [Value.ownBlock] using he
    subst this
    rw [hb2] at hb
    simp only [Option.some.injEq, Obj.cells.injEq] at hb
    exact ht hb.2.1.symm
theorem blk_grown {w w' : World} {B n : Nat} {e t : TypeId} {v : Value} {xs : List Value} {z : Nat} (ho : w.ownsRow B e z v n xs) (hg : w.grownBy w' v.ownBlock) {b : Nat} {cs : Array Value} {q : Nat × Nat} (hb : w.heap[b]? = some (.cells cs t q)) (ht : t ≠ e) : w'.heap[b]? = some (.cells cs t q) := by
  have hlt : b < w.heap.size := (Array.getElem?_eq_some_iff.1 hb).1
  rw [hg.block b hlt (fun e => own_ne ho hb ht e.symm)]; exact hb
/-- A store elsewhere keeps a row of the call's own. -/
theorem own_setOther {w : World} {B n : Nat} {e : TypeId} {v u : Value} {xs : List Value} {z : Nat} (ho : w.ownsRow B e z v n xs) {a : Addr} (hne : v.ownBlock ≠ some a.block) : (w.setCell a u).ownsRow B e z v n xs := by
  obtain ⟨h1, ⟨hv, h2⟩ | ⟨g, cap, cur, hv, hB, hb2, h3⟩⟩ := ho
  · exact ⟨h1, .inl ⟨hv, h2⟩⟩
  · refine ⟨h1, .inr ⟨g, cap, cur, hv, hB, ?_, h3⟩⟩
    rw [Deep.blk_setCell_other _ _ _ _ (fun e => hne (by rw [hv, ← e]; rfl))]; exact hb2

theorem RO.block {w : World} {g c : Nat} {l : List St} (h : RO w g c l) : ∃ cs, w.heap[g]? = some (.cells cs 67 (0, 0)) := by
  obtain ⟨_, _, f, ⟨cur, h3, _⟩, _⟩ := h
  exact ⟨cur, h3⟩
theorem RO.of_block {w w' : World} {g c : Nat} {l : List St} (h : RO w g c l) (e : w'.heap[g]? = w.heap[g]?) : RO w' g c l := by
  obtain ⟨h1, h2, f, h3, h4⟩ := h
  exact ⟨h1, h2, f, h3.of_block e, h4⟩
theorem RO.grown {w w' : World} {g c B n : Nat} {e : TypeId} {l : List St} {v : Value} {xs : List Value} {z : Nat} (h : RO w g c l) (ho : w.ownsRow B e z v n xs) (hg : w.grownBy w' v.ownBlock) (ht : 67 ≠ e) : RO w' g c l := by
  obtain ⟨cs, hb⟩ := h.block
  exact h.of_block ((blk_grown ho hg hb ht).trans hb.symm)

/-- A row of stitches of the call's own, or nil. -/
def RV (w : World) (u : Value) (l : List St) : Prop := (u = .slice Option.none 0 0 ∧ l = []) ∨ ∃ q c, u = .slice (some ⟨q, 0, Option.none⟩) l.length c ∧ RO w q c l
theorem RV.ext {w w' : World} {u : Value} {l : List St} (h : RV w u l) (x : Ext w w') : RV w' u l := by
  rcases h with h | ⟨q, c, h1, h2⟩
  · exact .inl h
  · exact .inr ⟨q, c, h1, h2.ext x⟩
theorem RV.grown {w w' : World} {B n : Nat} {e : TypeId} {u : Value} {l : List St} {v : Value} {xs : List Value} {z : Nat} (h : RV w u l) (ho : w.ownsRow B e z v n xs) (hg : w.grownBy w' v.ownBlock) (ht : 67 ≠ e) : RV w' u l := by
  rcases h with h | ⟨q, c, h1, h2⟩
  · exact .inl h
  · exact .inr ⟨q, c, h1, h2.grown ho hg ht⟩
theorem RV.setOther {w : World} {u u' : Value} {l : List St} (h : RV w u l) {a : Addr} {cs : Array Value} {t : TypeId} {q : Nat × Nat} (hb : w.heap[a.block]? = some (.cells cs t q)) (ht : 67 ≠ t) : RV (w.setCell a u') u l := by
  rcases h with h | ⟨g, c, h1, h2⟩
  · exact .inl h
  · refine .inr ⟨g, c, h1, h2.setOther (fun e => ?_) _⟩
    obtain ⟨cs', hb2⟩ := h2.block
    rw [e, hb] at hb2
    simp only [Option.some.injEq, Obj.cells.injEq] at hb2
    exact ht hb2.2.1.symm
theorem RV.rs {w : World} {u : Value} {l : List St} (h : RV w u l) : ∃ c, RS w u c l := by
  rcases h with ⟨rfl, rfl⟩ | ⟨q, c, rfl, h2⟩
  · exact ⟨0, RS.nil w⟩
  · exact ⟨c, h2.rs⟩
theorem RV.form {w : World} {u : Value} {l : List St} (h : RV w u l) : ∃ a n c, u = .slice a n c ∧ n = l.length := by
  rcases h with ⟨rfl, rfl⟩ | ⟨q, c, rfl, h2⟩
  · exact ⟨_, _, _, rfl, rfl⟩
  · exact ⟨_, _, _, rfl, rfl⟩
theorem RV.of_own {w : World} {B n : Nat} {v : Value} {l : List St} (h : w.ownsRow B 67 5 v n (cells l)) : RV w v l ∧ n = l.length := by
  have hl := h.1
  rw [cells_len] at hl
  by_cases h0 : 0 < n
  · obtain ⟨g, c, hv, hn, _, hr⟩ := RO.of_own h h0
    rw [hn] at hv
    exact ⟨.inr ⟨g, c, hv, hr⟩, hn⟩
  · have hnl : l = [] := List.eq_nil_of_length_eq_zero (by omega)
    subst hnl
    have hn0 : n = 0 := by omega
    subst hn0
    refine ⟨?_, rfl⟩
    obtain ⟨_, ⟨hv, _⟩ | ⟨g, cap, cur, hv, hB, hb, hnc, hm, hsz, htk⟩⟩ := h
    · exact .inl ⟨hv, rfl⟩
    · exact .inr ⟨g, cap, hv, by simp, hm, fun i => (cur[i]?).getD undef, ⟨cur, hb, by omega, fun i hi => by simp [Array.getElem?_eq_getElem (show i < cur.size by omega)]⟩, fun i hi => by simp at hi⟩

/-- The rows that were appended so far. -/
def CO (w wr : World) (v : Value) (rows : List (List St)) : Prop :=
  Ext w wr ∧ ∃ vs : List Value, wr.ownsRow w.heap.size 59 1 v rows.length vs ∧ ∀ i, i < rows.length → ∃ u, vs[i]? = some u ∧ RV wr u (sw rows i)
theorem CO.nil {w wr : World} (x : Ext w wr) : CO w wr (.slice Option.none 0 0) [] := ⟨x, [], World.ownsRow_nil _ _ _ _, fun i hi => by simp at hi⟩
theorem CO.later {w wr w' : World} {v : Value} {rows : List (List St)} (h : CO w wr v rows) (x : Ext wr w') : CO w w' v rows := by
  obtain ⟨h1, vs, h2, h3⟩ := h
  exact ⟨h1.trans x, vs, own_ext h2 x, fun i hi => by obtain ⟨u, a, b⟩ := h3 i hi; exact ⟨u, a, b.ext x⟩⟩
theorem CO.setOther {w wr : World} {v u' : Value} {rows : List (List St)} (h : CO w wr v rows) {a : Addr} {cs : Array Value} {t : TypeId} {q : Nat × Nat} (hb : wr.heap[a.block]? = some (.cells cs t q)) (ht1 : 67 ≠ t) (ht2 : t ≠ 59) (hw : w.heap.size ≤ a.block) : CO w (wr.setCell a u') v rows := by
  obtain ⟨h1, vs, h2, h3⟩ := h
  exact ⟨h1.setCell hw _, vs, own_setOther h2 (own_ne h2 hb ht2), fun i hi => by obtain ⟨u, a', b⟩ := h3 i hi; exact ⟨u, a', b.setOther hb ht1⟩⟩
theorem CO.form {w wr : World} {v : Value} {rows : List (List St)} (h : CO w wr v rows) : ∃ a n c, v = .slice a n c ∧ n = rows.length := by
  obtain ⟨_, vs, ⟨_, ⟨hv, hn⟩ | ⟨g, cap, cur, hv, _⟩⟩, _⟩ := h
  · exact ⟨_, _, _, hv, hn.symm⟩
  · exact ⟨_, _, _, hv, rfl⟩
theorem sw_app (a : List (List St)) (x : List St) {j : Nat} (h : j < a.length) : sw (a ++ [x]) j = sw a j := by unfold sw; simp [List.getD, List.getElem?_append_left h]
theorem sw_new (a : List (List St)) (x : List St) : sw (a ++ [x]) a.length = x := by unfold sw; simp [List.getD]
theorem CO.rr {w wr : World} {v : Value} {rows : List (List St)} (h : CO w wr v rows) : ∃ c, RR wr v c rows := by
  obtain ⟨h1, vs, h2, h3⟩ := h
  obtain ⟨c, ao, hv, hl, hm, hno, hc⟩ := VS.of_own h2
  have hlen : vs.length = rows.length := by have := h2.1; omega
  have hcap : ∀ i, ∃ c', i < rows.length → RS wr (vs.getD i undef) c' (sw rows i) := fun i => by
    by_cases hi : i < rows.length
    · obtain ⟨u, a, b⟩ := h3 i hi
      obtain ⟨c', hr⟩ := b.rs
      exact ⟨c', fun _ => by rw [show vs.getD i undef = u by simp [List.getD, a]]; exact hr⟩
    · exact ⟨0, fun h => absurd h hi⟩
  refine ⟨c, ao, fun i => vs.getD i undef, fun i => (hcap i).choose, by rw [hv, hlen], by omega, hm, ?_, fun i hi => (hcap i).choose_spec hi⟩
  by_cases h0 : rows.length = 0
  · exact .inl (List.eq_nil_of_length_eq_zero h0)
  · cases ao with
    | none => have := hno rfl; omega
    | some a =>
      obtain ⟨b, o, s⟩ := a
      obtain ⟨hs, hcell⟩ := hc _ rfl
      have hs' : s = Option.none := hs (by omega)
      subst hs'
      exact .inr ⟨b, o, rfl, fun i hi => hcell i _ (by obtain ⟨u, a, _⟩ := h3 i hi; rw [a]; simp [List.getD, a])⟩
/-- 'c.Rows = append(c.Rows, row)'. -/
theorem app_row {w : World} {ops : Array Oper} {rest : List Oper} {o : Oper} {a : Act} {Q : Exit → Act → World → Prop}
    (hg : o.guard = Option.none) (s x : Operand) (hop : o.op = Op.call { callee := Callee.builtin Builtin.append, args := #[s, x], argTypes := #[22, 22] })
    (wb : World) (v : Value) (rows : List (List St)) (hs : a.eval s = v) (hco : CO wb w v rows) (u : Value) (l : List St) (hu : RV w u l)
    (g : Nat) (hx : a.eval x = .slice (some ⟨g, 0, Option.none⟩) 1 1) (hgw : g = w.heap.size) (hlen : rows.length ≤ 100000)
    (hK : ∀ v' w', CO wb w' v' (rows ++ [l]) → (∀ (b : Nat) (cs : Array Value) (t : TypeId) (q : Nat × Nat), w.heap[b]? = some (Obj.cells cs t q) → t ≠ 59 → w'.heap[b]? = some (Obj.cells cs t q)) → wpList Try.prog ops Q rest (a.put o.dst v') w') :
    wpList Try.prog ops Q (o :: rest) a (w.alloc (.cells #[u] 59)) := by
  obtain ⟨h1, vs, h2, h3⟩ := hco
  subst hgw
  have hvl : vs.length = rows.length := by have := h2.1; omega
  have h1u : ∀ y ∈ [u], y.oneCell' = true := by
    intro y hy
    obtain rfl := List.mem_singleton.1 hy
    obtain ⟨a', n', c', rfl, _⟩ := hu.form
    rfl
  have xa : Ext w (w.alloc (.cells #[u] 59)) := (Ext.refl w).alloc _
  refine app_own_g eiRows hg s x hop wb.heap.size v rows.length vs hs (own_ext h2 xa) _ 1 [u] hx (VS.one _ _ _) h1u (by simp; omega) (by simp; omega) (Nat.le_trans h1.size xa.size) ?_
  intro v' w' ho hgr
  have hst : 67 ≠ 59 := by decide
  refine hK v' w' ⟨?_, vs ++ [u], by simpa using ho, fun i hi => ?_⟩ (fun b cs t q hb ht => blk_grown (own_ext h2 xa) hgr (xa.block hb) ht)
  · refine (h1.trans xa).grown hgr fun k hk => ?_
    obtain ⟨_, ⟨hv, _⟩ | ⟨g', cap, cur, hv, hBg, _⟩⟩ := h2
    · rw [hv] at hk; cases hk
    · rw [hv] at hk; have : g' = k := by simpa [Value.ownBlock] using hk
      omega
  · rw [List.length_append, List.length_singleton] at hi
    by_cases e : i < rows.length
    · obtain ⟨u', a', b'⟩ := h3 i e
      rw [sw_app _ _ e]
      exact ⟨u', by rw [List.getElem?_append_left (by omega)]; exact a', (b'.ext xa).grown (own_ext h2 xa) hgr hst⟩
    · obtain rfl : i = rows.length := by omega
      rw [sw_new]
      exact ⟨u, by rw [List.getElem?_append_right (by omega)]; simp [hvl], (hu.ext xa).grown (own_ext h2 xa) hgr hst⟩
/-- A chart is returned. -/
def RetCC (w0 : World) (rows : List (List St)) (e : Ending) (w' : World) : Prop := ∃ v c, e = .returned (.agg #[v]) ∧ RR w' v c rows ∧ Ext w0 w'
/-- Stitches written out in a block. -/
theorem RO.lit {w : World} {l : List St} {arr : Array Value} (ha : arr = (cells l).toArray) (hl : l.length ≤ 1000) : RO (w.alloc (.cells arr 67)) w.heap.size l.length l := by
  have hr := World.rowIs_alloc w arr 67 (fun i => ((cells l)[i]?).getD undef) (fun i hi => by
    rw [ha] at hi ⊢
    rw [List.getElem?_toArray]
    have : i < (cells l).length := by simpa using hi
    simp [this])
  have hsz : arr.size = l.length * 5 := by rw [ha]; simp [cells_len]
  rw [hsz] at hr
  refine ⟨Nat.le_refl _, by unfold maxLen; omega, _, hr, fun i hi => ?_⟩
  obtain ⟨b0, b1, b2, b3, b4⟩ := cells_at l i hi
  refine ⟨?_, ?_, ?_, ?_, ?_⟩ <;> simp only []
  · rw [b0]; rfl
  · rw [b1]; rfl
  · rw [b2]; rfl
  · rw [b3]; rfl
  · rw [b4]; rfl
end Go.Proofs.Ytlmkcojimhbmiaa
/- Stitches compared. -/
namespace Go.Proofs.Ytlmkcojimhbmiaa
set_option linter.unusedVariables false
set_option linter.unusedSimpArgs false
set_option maxRecDepth 8000
open Go Go.RowKit

def St.eqb (s t : St) : Bool := decide (s = t)
theorem St.eqb_fields (s t : St) : St.eqb s t = (s.k == t.k && (s.y == t.y && (s.a == t.a && (s.b == t.b && s.f == t.f)))) := by
  unfold St.eqb
  rw [Bool.eq_iff_iff]
  cases s; cases t
  simp
theorem run_st_equal (s t : St) (w : World) : (Op.equalIn 10000 67 s.val t.val).run Try.prog w = .ok (St.eqb s t) w := by
  rw [St.eqb_fields]
  unfold St.val
  rw [run_equalIn_struct w 9999 _ _ _ (by kernel_rfl) (by kernel_rfl)]
  simp [go_sem, part]
  (repeat' split) <;> simp_all
theorem run_st_eql (s t : St) (w : World) : (binOp .eql 67 (.agg #[.int .u8 s.k, .int .u8 s.y, .int .i64 s.a, .int .i64 s.b, .bool s.f]) (.agg #[.int .u8 t.k, .int .u8 t.y, .int .i64 t.a, .int .i64 t.b, .bool t.f])).run Try.prog w = .ok (.bool (St.eqb s t)) w := by
  have h := run_st_equal s t w
  unfold St.val at h
  rw [run_eql_struct, h]
  rfl
theorem run_st_neq (s t : St) (w : World) : (binOp .neq 67 (.agg #[.int .u8 s.k, .int .u8 s.y, .int .i64 s.a, .int .i64 s.b, .bool s.f]) (.agg #[.int .u8 t.k, .int .u8 t.y, .int .i64 t.a, .int .i64 t.b, .bool t.f])).run Try.prog w = .ok (.bool (!St.eqb s t)) w := by
  have h := run_st_equal s t w
  unfold St.val at h
  rw [run_neq_struct, h]
  rfl

end Go.Proofs.Ytlmkcojimhbmiaa
/- charts.same, Same. -/
namespace Go.Proofs.Ytlmkcojimhbmiaa
set_option linter.unusedVariables false
set_option linter.unusedSimpArgs false
set_option maxRecDepth 8000
open Go Go.RowKit

theorem eqb_true {s t : St} (h : St.eqb s t = true) : s = t := of_decide_eq_true h
theorem eqb_false {s t : St} (h : St.eqb s t = false) : s ≠ t := of_decide_eq_false h

theorem sw_ext {l m : List (List St)} (hl : l.length = m.length) (h : ∀ i, i < l.length → sw l i = sw m i) : l = m := by
  apply List.ext_getElem hl
  intro i h1 h2
  have := h i h1
  rwa [sw_of_lt h1, sw_of_lt h2] at this
end Go.Proofs.Ytlmkcojimhbmiaa
/- ganseyref13.Differ. -/
namespace Go.Proofs.Ytlmkcojimhbmiaa
set_option linter.unusedVariables false
set_option linter.unusedSimpArgs false
set_option maxRecDepth 8000
open Go Go.RowKit

def dif (l m : List (List St)) : Int := if l = m then 0 else 1
theorem dif_same (l : List (List St)) : dif l l = 0 := if_pos rfl
set_option maxHeartbeats 4000000 in
theorem Differ_calls (v1 v2 : Value) (c1 c2 : Nat) (l m : List (List St)) (w : World) (h1 : RR w v1 c1 l) (h2 : RR w v2 c2 m) :
    Calls Try.prog 17 #[.agg #[v1], .agg #[v2]] w fun e w' => e = .returned (.int .i64 (dif l m)) ∧ Ext w w' := by
  obtain ⟨ao, n, rfl, hn, hc, hcm, hat⟩ := h1.open
  obtain ⟨ao2, n2, rfl, hn2, hc2, hcm2, hat2⟩ := h2.open
  have hT : n = n2 → (∀ i, i < n → sw l i = sw m i) → dif l m = 0 := fun e h => if_pos (sw_ext (by omega) (fun i hi => h i (by omega)))
  have hF : (n ≠ n2 ∨ ∃ i, i < n ∧ sw l i ≠ sw m i) → dif l m = 1 := fun h => if_neg (fun e => by
    rcases h with h | ⟨i, _, h⟩
    · rw [e] at hn; omega
    · rw [e] at h; exact h rfl)
  generalize dif l m = R at hT hF ⊢
  obtain ⟨W, hW⟩ : ∃ W, W = (w.alloc (.cells #[.slice ao n c1] 24)).alloc (.cells #[.slice ao2 n2 c2] 24) := ⟨_, rfl⟩
  have xW : Ext w W := by rw [hW]; exact ((Ext.refl w).alloc _).alloc _
  have hb1 : W.cell? ⟨w.heap.size, 0, none⟩ = some (.slice ao n c1) := by
    rw [hW]; exact ((Ext.refl _).alloc _).cell (by rw [World.cell?_alloc_at (hn := rfl)]; rfl)
  have hb2 : W.cell? ⟨w.heap.size + 1, 0, none⟩ = some (.slice ao2 n2 c2) := by
    rw [hW, World.cell?_alloc_at (hn := by simp)]; rfl
  have HA := Lib.hid hat; have HA2 := Lib.hid hat2; have HT := Lib.hid hT; have HF := Lib.hid hF; have XW := Lib.hid xW
  clear hat hat2 hT hF hn hn2 h1 h2
  unfold maxLen at hcm hcm2
  have HB1 := Lib.hid (fun w' (x : Ext W w') => x.cell hb1); have HB2 := Lib.hid (fun w' (x : Ext W w') => x.cell hb2)
  go_enter Try.func17, Try.ntmps17
  by_cases hl : n = n2
  · subst hl
    rw [hW] at hb1 hb2
    go_wp2
    rw [← hW]
    clear hb1 hb2 hW
    go_loopw [5, 6] (fun i _ wr => ∃ k : Nat, k ≤ n ∧ i = .int .i64 k ∧ Hid (Ext W wr) ∧ Hid (∀ i, i < k → sw l i = sw m i)) (fun i _ _ => n - (intOf i).toNat)
    case atStart => exact ⟨0, Nat.zero_le _, rfl, Lib.hid (Ext.refl _), Lib.hid (fun i hi => by omega)⟩
    case round =>
      obtain ⟨k, hk, rfl, Hx, HS⟩ := hrel
      have b1 := HB1.out _ Hx.out
      have b2 := HB2.out _ Hx.out
      by_cases hlt : k < n
      · obtain ⟨b, o, a, p, d, rfl, p0, r1⟩ := HA.out k hlt
        obtain ⟨bb, oo, aa, pp, dd, rfl, q0, r2⟩ := HA2.out k hlt
        have P0 := Lib.hid (fun w' (x : Ext W w') => (XW.out.trans x).cell p0); have Q0 := Lib.hid (fun w' (x : Ext W w') => (XW.out.trans x).cell q0)
        replace p0 := (XW.out.trans Hx.out).cell p0
        replace q0 := (XW.out.trans Hx.out).cell q0
        obtain ⟨_, _, e1, e2, e3, e4, e5⟩ := r1.open
        obtain ⟨_, _, f1, f2, f3, f4, f5⟩ := r2.open
        simp only [Value.slice.injEq] at e1 f1
        obtain ⟨rfl, rfl, _⟩ := e1
        obtain ⟨rfl, rfl, _⟩ := f1
        have HE5 := Lib.hid e5; have HF5 := Lib.hid f5
        have t7 : (0 : Int) ≤ (k : Int) := by omega
        have t8 : (k : Int) < n := by omega
        unfold maxLen at e4 f4
        by_cases hpp : p = pp
        · have tq : ((p : Int) != (pp : Int)) = false := by rw [hpp]; simp
          have HR1 := Lib.hid (show (∀ i, i < p → si (sw l k) i = si (sw m k) i) → ∀ i, i < k + 1 → sw l i = sw m i from fun h i hi => by
            by_cases e : i = k
            · rw [e]; exact si_ext (by omega) (fun i hi => h i (by omega))
            · exact HS.out i (by omega))
          have HR2 := Lib.hid (show ∀ i, i < p → si (sw l k) i ≠ si (sw m k) i → R = 1 from fun i hi h => HF.out (.inr ⟨k, hlt, fun e => h (by rw [e])⟩))
          subst hpp
          clear e2 f2 e5 f5 r1 r2
          go_wp2
          go_quiet (fail)
          obtain ⟨wk, hwk⟩ : ∃ wk, wk = wr.drewN nq := ⟨_, rfl⟩
          have Hk := Lib.hid (show Ext W wk by rw [hwk]; exact Hx.out.drewN nq)
          rw [← hwk]
          clear b1 b2 p0 q0 hwk
          go_wp2
          go_loopw [6] (fun i ws => ∃ j : Nat, j ≤ p ∧ i = .int .i64 j ∧ Hid (Ext wk ws) ∧ Hid (∀ i, i < j → si (sw l k) i = si (sw m k) i)) (fun i _ => p - (intOf i).toNat)
          case atStart => exact ⟨0, Nat.zero_le _, rfl, Lib.hid (Ext.refl _), Lib.hid (fun i hi => by omega)⟩
          case round =>
            obtain ⟨j, hj, rfl, Hy, HU⟩ := hrel
            have b1 := HB1.out _ (Hk.out.trans Hy.out)
            have b2 := HB2.out _ (Hk.out.trans Hy.out)
            have p0 := P0.out _ (Hk.out.trans Hy.out)
            have q0 := Q0.out _ (Hk.out.trans Hy.out)
            by_cases hjl : j < p
            · obtain ⟨e6, e7, rfl, e8⟩ := HE5.out j hjl
              obtain ⟨f6, f7, rfl, f8⟩ := HF5.out j hjl
              obtain ⟨s0, s1, s2, s3, s4⟩ := e8.ext (XW.out.trans (Hk.out.trans Hy.out))
              obtain ⟨u0, u1, u2, u3, u4⟩ := f8.ext (XW.out.trans (Hk.out.trans Hy.out))
              have hq := fun w => run_st_neq (si (sw l k) j) (si (sw m k) j) w
              have hR1 : St.eqb (si (sw l k) j) (si (sw m k) j) = false → R = 1 := fun h => HR2.out j hjl (eqb_false h)
              have hR2 : St.eqb (si (sw l k) j) (si (sw m k) j) = true → ∀ i, i < j + 1 → si (sw l k) i = si (sw m k) i := fun h i hi => by
                by_cases e : i = j
                · rw [e]; exact eqb_true h
                · exact HU.out i (by omega)
              obtain ⟨S, hS⟩ : ∃ S, S = si (sw l k) j := ⟨_, rfl⟩
              obtain ⟨T, hT⟩ : ∃ T, T = si (sw m k) j := ⟨_, rfl⟩
              rw [← hS] at s0 s1 s2 s3 s4 hq hR1 hR2
              rw [← hT] at u0 u1 u2 u3 u4 hq hR1 hR2
              generalize St.eqb S T = q at hq hR1 hR2
              have H1 := Lib.hid hR1; have H2 := Lib.hid hR2
              have g1 : (0 : Int) ≤ (j : Int) := by omega
              have g2 : (j : Int) < p := by omega
              clear hR1 hR2 hS hT e8 f8
              go_wp2
              go_quiet (fail)
              clear hq s0 s1 s2 s3 s4 u0 u1 u2 u3 u4 p0 q0 b1 b2
              cases q
              · have hR := H1.out rfl
                subst hR
                clear H1 H2
                go_wp2
                go_ret
                exact ⟨rfl, XW.out.trans (Hk.out.trans (by first | exact Hy.out | exact Hy.out.drewN _))⟩
              · have HU2 := Lib.hid (H2.out rfl)
                clear H1 H2
                go_wp2
                go_roundw
                case rel => exact ⟨j + 1, by omega, by go_num, by first | exact Hy | exact Lib.hid (Hy.out.drewN _), HU2⟩
                case measure => simp [intOf]; omega
            · obtain rfl : p = j := by omega
              have HS2 := Lib.hid (HR1.out HU.out)
              go_wp2
              go_roundw
              case rel => exact ⟨k + 1, by omega, by go_num, Lib.hid (Hk.out.trans Hy.out), HS2⟩
              case measure => simp [intOf]; omega
        · have tq : ((p : Int) != (pp : Int)) = true := by rw [bne, beq_eq_false_iff_ne.2 (by omega)]; rfl
          have hR := HF.out (.inr ⟨k, hlt, fun e => hpp (by rw [e2, f2, e])⟩)
          subst hR
          clear e2 f2 e5 f5 r1 r2 hpp
          go_wp2
          go_quiet (fail)
          go_wp2
          go_ret
          exact ⟨rfl, XW.out.trans (by first | exact Hx.out | exact Hx.out.drewN _)⟩
      · obtain rfl : n = k := by omega
        have hR := HT.out trivial HS.out
        subst hR
        go_wp2
        go_ret
        exact ⟨rfl, XW.out.trans Hx.out⟩
  · have hR := HF.out (.inl hl)
    subst hR
    have t1 : ¬ ((n : Int) = n2) := by omega
    rw [hW] at hb1 hb2
    go_wp2
    go_ret
    exact ⟨rfl, by rw [← hW]; exact XW.out⟩
end Go.Proofs.Ytlmkcojimhbmiaa
/- charts.Widths. -/
namespace Go.Proofs.Ytlmkcojimhbmiaa
set_option linter.unusedVariables false
set_option linter.unusedSimpArgs false
set_option maxRecDepth 8000
open Go Go.RowKit

/-- The numbers of slots. -/
def wds (rows : List (List St)) : List Int := if rows = [] then [] else rneed (sw rows 0) :: rows.map rmake
theorem wds_len {rows : List (List St)} (h : 0 < rows.length) : (wds rows).length = rows.length + 1 := by
  unfold wds; rw [if_neg (fun e => by rw [e] at h; simp at h)]; simp
theorem wds_zero {rows : List (List St)} (h : 0 < rows.length) : gi (wds rows) 0 = rneed (sw rows 0) := by
  unfold wds; rw [if_neg (fun e => by rw [e] at h; simp at h)]; rfl
theorem wds_succ {rows : List (List St)} {i : Nat} (h : i < rows.length) : gi (wds rows) (i + 1) = rmake (sw rows i) := by
  unfold wds; rw [if_neg (fun e => by rw [e] at h; simp at h), gi_cons_succ, gi_of_lt (by simpa using h), sw_of_lt h]; simp
/-- The first k + 1 numbers are laid. -/
def WL (w wr : World) (g n k : Nat) (rows : List (List St)) : Prop := Ext w wr ∧ w.heap.size ≤ g ∧ ∃ f, wr.rowIs g 3 n f ∧ ∀ i, i ≤ k → f i = .int .i64 (gi (wds rows) i)
set_option maxHeartbeats 2000000 in
theorem Widths_calls (v : Value) (c : Nat) (rows : List (List St)) (w : World) (h : RR w v c rows) (hb : ∀ i, i < rows.length → (sw rows i).length ≤ 1000) (hl : rows.length ≤ 1000) :
    Calls Try.prog 27 #[.agg #[v]] w (RetX .i64 w (wds rows)) := by
  obtain ⟨ao, n, rfl, hn, hc, hcm, hat⟩ := h.open
  obtain ⟨W, hW⟩ : ∃ W, W = w.alloc (.cells #[.slice ao n c] 24) := ⟨_, rfl⟩
  have xW : Ext w W := by rw [hW]; exact (Ext.refl w).alloc _
  have b0 : W.cell? ⟨w.heap.size, 0, none⟩ = some (.slice ao n c) := by rw [hW, World.cell?_alloc_at (hn := rfl)]; rfl
  have HBx := Lib.hid (fun w' (x : Ext W w') => x.cell b0); have XW := Lib.hid xW
  unfold maxLen at hcm
  by_cases hn0 : n = 0
  · have hr : rows = [] := List.eq_nil_of_length_eq_zero (by omega)
    have hw : wds rows = [] := by unfold wds; rw [if_pos hr]
    rw [hw]
    rw [hW] at b0
    clear hat hb hr hw hn h
    subst hn0
    go_enter Try.func27, Try.ntmps27
    go_wp2
    go_ret
    exact ⟨_, 0, rfl, IS.nil _ _, (Ext.refl w).alloc _⟩
  have hnz : ((n : Int) == 0) = false := beq_eq_false_iff_ne.2 (by omega)
  have hwl := wds_len (rows := rows) (by omega)
  have hw0 := wds_zero (rows := rows) (by omega)
  have hws := fun i (hi : i < n) => wds_succ (rows := rows) (i := i) (by omega)
  have hN := fun w' v c (h : RS w' v c (sw rows 0)) => CNeeds_calls v c (sw rows 0) w' h (by have := hb 0 (by omega); omega)
  have hM := fun i (hi : i < n) w' v c (h : RS w' v c (sw rows i)) => CMakes_calls v c (sw rows i) w' h (by have := hb i (by omega); omega)
  have hmk := fun w' => run_make_lc (P := Try.prog) eiInt .i64 .i64 (n + 1) (n + 1) (by omega) (by omega) (by omega) w'
  rw [show ((n + 1 : Nat) : Int) = 1 + (n : Int) by omega] at hmk
  have wz : IntKind.i64.wrap (1 + (n : Int)) = 1 + (n : Int) := IntWalk.i64_in _ ⟨by omega, by omega⟩
  have HA := Lib.hid hat; have HWl := Lib.hid hwl; have HW0 := Lib.hid hw0; have HWs := Lib.hid hws; have HNe := Lib.hid hN; have HMa := Lib.hid hM; have HMk := Lib.hid (hmk W); have Hn := Lib.hid hn
  obtain ⟨b, o, a, m, d, rfl, hc0, hr0⟩ := hat 0 (by omega)
  have hc0W := xW.cell hc0
  rw [Nat.add_zero] at hc0W
  have hcl := hN (W.alloc (.cells (madeCells #[.int .i64 0] (n + 1)) 3)) _ _ (hr0.ext (xW.alloc _))
  have HCl := Lib.hid hcl
  have hn1 : (0 : Int) < n := by omega
  have hmW := hmk W
  have hn2 : n ≤ 1000 := by omega
  clear hb hwl hw0 hws hN hM hmk hcl h hat hn hr0 hl hn0
  have b0' := b0
  rw [hW] at b0' hmW
  obtain ⟨Wm, hWm⟩ : ∃ Wm, Wm = W.alloc (.cells (madeCells #[.int .i64 0] (n + 1)) 3) := ⟨_, rfl⟩
  have xm : Ext W Wm := by rw [hWm]; exact (Ext.refl W).alloc _
  have hcc := xm.cell hc0W
  have hbb := xm.cell b0
  have hst : WL W Wm W.heap.size (n + 1) 0 rows → True := fun _ => trivial
  have hrow : Wm.rowIs W.heap.size 3 (n + 1) (fun _ => .int .i64 0) := by rw [hWm]; exact World.rowIs_made W (.int .i64 0) (n + 1) _
  rw [← hWm] at HCl
  have hWs : W.heap.size = w.heap.size + 1 := by rw [hW]; simp
  have HRow := Lib.hid hrow; have HWm := Lib.hid hWm; have HW := Lib.hid hW; have Xm := Lib.hid xm; have HWs2 := Lib.hid hWs
  rw [hWm, hW] at hcc hbb
  clear hst hrow hWm hW xm xW b0 hc0W hc0 hWs
  go_enter Try.func27, Try.ntmps27
  go_wp2_with fail
  rw [← HW.out, ← HWm.out]
  refine HCl.out.mono ?_
  rintro e w1 ⟨rfl, x1⟩
  have X1 := Lib.hid (Xm.out.trans x1)
  have hr1 := x1.row HRow.out
  obtain ⟨g, hg⟩ : ∃ g, g = w.heap.size + 1 := ⟨_, rfl⟩
  rw [HWs2.out, ← hg] at hr1
  have hc1 := hr1.cell (i := 0) (by omega)
  have hf1 := hr1.frozen 0
  have hwg : W.heap.size ≤ g := by rw [hg, HWs2.out]; omega
  have hb1 := HBx.out _ X1.out
  have HN0 := Lib.hid (show WL W (w1.setCell ⟨g, 0, none⟩ (.int .i64 (rneed (sw rows 0)))) g (n + 1) 0 rows from ⟨X1.out.setCell hwg _, hwg, _, hr1.set 0 _, fun i hi => by
    obtain rfl : i = 0 := by omega
    rw [HW0.out]; exact if_pos rfl⟩)
  have hb2 := HBx.out _ HN0.out.1
  have tn : (0 : Int) < (n : Int) + 1 := by omega
  rw [← hg]
  clear hr1 x1 HCl hbb hcc hmW HRow b0' hg
  go_wp2
  clear hc1 hf1 hb1 hb2
  go_loopw [4, 5, 25] (fun _ _ i wr => ∃ k : Nat, k ≤ n ∧ i = .int .i64 k ∧ Hid (WL W wr g (n + 1) k rows)) (fun _ _ i _ => n - (intOf i).toNat)
  case atStart => exact ⟨0, Nat.zero_le _, rfl, HN0⟩
  case round =>
    obtain ⟨k, hk, rfl, H⟩ := hrel
    by_cases hlt : k < n
    · obtain ⟨b', o', a', m', d', hbo, hc0, hr0⟩ := HA.out k hlt
      obtain ⟨rfl, rfl⟩ : b = b' ∧ o = o' := by simpa using hbo
      replace hc0 := (XW.out.trans H.out.1).cell hc0
      have hcl := HMa.out k hlt wr _ _ (hr0.ext (XW.out.trans H.out.1))
      have HCl := Lib.hid hcl
      have hws := HWs.out k hlt
      have w1' : IntKind.i64.wrap ((k : Int) + 1) = (k : Int) + 1 := IntWalk.i64_in _ ⟨by omega, by omega⟩
      have k1 : (k : Int) + 1 < (n : Int) + 1 := by omega
      have k2 : (0 : Int) ≤ (k : Int) + 1 := by omega
      have k3 : ((k : Int) + 1).toNat = k + 1 := by omega
      have HWk := Lib.hid hws
      generalize rmake (sw rows k) = R at HCl HWk
      clear hcl hws hr0 hbo
      go_wp2_with fail
      refine HCl.out.mono ?_
      rintro e w2 ⟨rfl, x2⟩
      obtain ⟨h1, h2, f, h3, h4⟩ := H.out
      have h5 := x2.row h3
      have hc1 := h5.cell (i := k + 1) (by omega)
      have hf1 := h5.frozen (k + 1)
      have HN := Lib.hid (show WL W (w2.setCell ⟨g, k + 1, none⟩ (.int .i64 R)) g (n + 1) (k + 1) rows from ⟨(h1.trans x2).setCell h2 _, h2, _, h5.set (k + 1) _, fun i hi => by
        by_cases e : i = k + 1
        · subst e; rw [HWk.out]; exact if_pos rfl
        · rw [← h4 i (by omega)]; exact if_neg e⟩)
      clear h1 h2 h3 h4 h5 x2 hc0 HCl
      go_wp2
      go_roundw
      case rel => exact ⟨k + 1, by omega, by go_num, HN⟩
      case measure => simp [intOf]; omega
    · obtain rfl : n = k := by omega
      obtain ⟨h1, h2, f, h3, h4⟩ := H.out
      have hi := IS.of_row (k := .i64) (xs := wds rows) h3 (by rw [HWl.out, ← Hn.out]) (by unfold maxLen; omega) (fun i hi => h4 i (by omega))
      have HF := Lib.hid (show RetX .i64 w (wds rows) (.returned (.slice (some ⟨g, 0, none⟩) (n + 1) (n + 1))) wr from ⟨_, _, rfl, hi, XW.out.trans h1⟩)
      clear h1 h2 h3 h4 hi hlt
      go_wp2
      go_ret
      exact HF.out
end Go.Proofs.Ytlmkcojimhbmiaa
/- Blocks and motifs in plain Lean; lists of charts in memory. -/
namespace Go.Proofs.Ytlmkcojimhbmiaa
set_option linter.unusedVariables false
set_option linter.unusedSimpArgs false
set_option maxRecDepth 8000
open Go Go.RowKit

def bw (bs : List (List (List St))) (i : Nat) : List (List St) := bs.getD i []
theorem bw_of_lt {bs : List (List (List St))} {i : Nat} (h : i < bs.length) : bw bs i = bs[i] := by unfold bw; simp [List.getD, h]
theorem bw_mem {bs : List (List (List St))} {i : Nat} (h : i < bs.length) : bw bs i ∈ bs := by rw [bw_of_lt h]; exact List.getElem_mem h
theorem take_succ_bw {l : List (List (List St))} {k : Nat} (h : k < l.length) : l.take (k + 1) = l.take k ++ [bw l k] := by rw [bw_of_lt h]; exact List.take_succ_eq_append_getElem h
theorem sw_mem {rows : List (List St)} {i : Nat} (h : i < rows.length) : sw rows i ∈ rows := by rw [sw_of_lt h]; exact List.getElem_mem h
/-- A list of charts lies in memory. -/
def BB (w : World) (v : Value) (c : Nat) (bs : List (List (List St))) : Prop :=
  ∃ (ao : Option Addr) (vs : Nat → Value) (caps : Nat → Nat), v = .slice ao bs.length c ∧ bs.length ≤ c ∧ c ≤ maxLen ∧ (bs = [] ∨ ∃ b o, ao = some ⟨b, o, none⟩ ∧ ∀ i, i < bs.length → w.cell? ⟨b, o + i, none⟩ = some (vs i)) ∧ ∀ i, i < bs.length → RR w (vs i) (caps i) (bw bs i)
theorem BB.ext {w w' : World} {v : Value} {c : Nat} {bs : List (List (List St))} (h : BB w v c bs) (e : Ext w w') : BB w' v c bs := by
  obtain ⟨ao, vs, caps, h1, h2, h3, h4, h5⟩ := h
  refine ⟨ao, vs, caps, h1, h2, h3, ?_, fun i hi => (h5 i hi).ext e⟩
  rcases h4 with h4 | ⟨b, o, h6, h7⟩
  · exact .inl h4
  · exact .inr ⟨b, o, h6, fun i hi => e.cell (h7 i hi)⟩
theorem BB.nil (w : World) : BB w (.slice Option.none 0 0) 0 [] := ⟨Option.none, fun _ => undef, fun _ => 0, rfl, Nat.le_refl _, by unfold maxLen; omega, .inl rfl, fun i hi => by simp at hi⟩
theorem BB.open {w : World} {v : Value} {c : Nat} {bs : List (List (List St))} (h : BB w v c bs) : ∃ ao n, v = .slice ao n c ∧ n = bs.length ∧ n ≤ c ∧ c ≤ maxLen ∧
    ∀ i, i < n → ∃ b o a m d, ao = some ⟨b, o, none⟩ ∧ w.cell? ⟨b, o + i, none⟩ = some (.slice a m d) ∧ m = (bw bs i).length ∧ RR w (.slice a m d) d (bw bs i) := by
  obtain ⟨ao, vs, caps, h1, h2, h3, h4, h5⟩ := h
  refine ⟨ao, _, h1, rfl, h2, h3, fun i hi => ?_⟩
  rcases h4 with h4 | ⟨b, o, h6, h7⟩
  · rw [h4] at hi; simp at hi
  · obtain ⟨a, m, hv, hm, _⟩ := (h5 i hi).open
    have hr := h5 i hi
    rw [hv] at hr
    exact ⟨b, o, a, m, _, h6, by rw [h7 i hi, hv], hm, hr⟩
/-- A list of charts written out in a block. -/
theorem BB.of_blk {w : World} {g n : Nat} {t : TypeId} {bs : List (List (List St))} {us : List Value} {caps : Nat → Nat} {arr : Array Value} (hb : w.heap[g]? = some (.cells arr t (0, 0))) (ha : arr = us.toArray) (hn : n = bs.length) (hu : us.length = bs.length) (hl : n ≤ 1000)
    (h : ∀ i, i < bs.length → RR w (us.getD i undef) (caps i) (bw bs i)) : BB w (.slice (some ⟨g, 0, none⟩) n n) n bs := by
  subst hn
  refine ⟨_, fun i => us.getD i undef, caps, rfl, Nat.le_refl _, by unfold maxLen; omega, .inr ⟨g, 0, rfl, fun i hi => ?_⟩, h⟩
  have h1 : arr[i]? = some (us.getD i undef) := by
    rw [ha, List.getElem?_toArray]
    simp [List.getD, List.getElem?_eq_getElem (show i < us.length by omega)]
  simp only [World.cell?, hb, Nat.zero_add]
  simpa using h1
theorem BB.lit1 {w : World} {g : Nat} {t : TypeId} {u0 : Value} {c0 : Nat} {b0 : List (List St)} (hb : w.heap[g]? = some (Obj.cells #[u0] t (0, 0))) (h0 : RR w u0 c0 b0) : BB w (.slice (some ⟨g, 0, none⟩) 1 1) 1 [b0] :=
  BB.of_blk (us := [u0]) (caps := fun _ => c0) hb (by simp) (by simp) (by simp) (by simp) fun i hi => by
    obtain rfl : i = 0 := by simpa using hi
    simpa [bw] using h0
theorem BB.lit2 {w : World} {g : Nat} {t : TypeId} {u0 u1 : Value} {c0 c1 : Nat} {b0 b1 : List (List St)} (hb : w.heap[g]? = some (Obj.cells #[u0, u1] t (0, 0))) (h0 : RR w u0 c0 b0) (h1 : RR w u1 c1 b1) : BB w (.slice (some ⟨g, 0, none⟩) 2 2) 2 [b0, b1] :=
  BB.of_blk (us := [u0, u1]) (caps := fun i => [c0, c1].getD i 0) hb (by simp) (by simp) (by simp) (by simp) fun i hi => by
    have hi' : i < 2 := hi
    rcases (show i = 0 ∨ i = 1 by omega) with rfl | rfl
    · simpa [bw] using h0
    · simpa [bw] using h1
theorem BB.lit3 {w : World} {g : Nat} {t : TypeId} {u0 u1 u2 : Value} {c0 c1 c2 : Nat} {b0 b1 b2 : List (List St)} (hb : w.heap[g]? = some (Obj.cells #[u0, u1, u2] t (0, 0))) (h0 : RR w u0 c0 b0) (h1 : RR w u1 c1 b1) (h2 : RR w u2 c2 b2) : BB w (.slice (some ⟨g, 0, none⟩) 3 3) 3 [b0, b1, b2] :=
  BB.of_blk (us := [u0, u1, u2]) (caps := fun i => [c0, c1, c2].getD i 0) hb (by simp) (by simp) (by simp) (by simp) fun i hi => by
    have hi' : i < 3 := hi
    rcases (show i = 0 ∨ i = 1 ∨ i = 2 by omega) with rfl | rfl | rfl
    · simpa [bw] using h0
    · simpa [bw] using h1
    · simpa [bw] using h2

/-! ### Plain -/
/-- A block with too many rows, or a row with too many stitches. -/
def big (c : List (List St)) : Bool := decide (31 < c.length) || c.any fun r => decide (16 < r.length)
def smallB (bs : List (List (List St))) : Bool := !bs.any big
def goodC (c : List (List St)) : Bool := c.all fun r => r.all fun s => decide (s.chk = 0)
def goodB (bs : List (List (List St))) : Bool := bs.all goodC
theorem big_long {c : List (List St)} (h : 31 < c.length) : big c = true := by unfold big; rw [decide_eq_true h]; rfl
theorem big_row {c : List (List St)} {i : Nat} (hi : i < c.length) (h : 16 < (sw c i).length) : big c = true := by
  unfold big
  rw [Bool.or_eq_true]
  exact .inr (List.any_eq_true.2 ⟨_, sw_mem hi, decide_eq_true h⟩)
theorem big_no {c : List (List St)} (h : c.length ≤ 31) (hr : ∀ i, i < c.length → (sw c i).length ≤ 16) : big c = false := by
  unfold big
  rw [decide_eq_false (by omega), Bool.false_or, List.any_eq_false]
  intro r hr'
  obtain ⟨i, hi, rfl⟩ := List.mem_iff_getElem.1 hr'
  have := hr i hi
  rw [sw_of_lt hi] at this
  simpa using this
theorem big_bd {c : List (List St)} (h : big c = false) : c.length ≤ 31 ∧ ∀ i, i < c.length → (sw c i).length ≤ 16 := by
  refine ⟨?_, fun i hi => ?_⟩
  · by_cases e : 31 < c.length
    · rw [big_long e] at h; cases h
    · omega
  · by_cases e : 16 < (sw c i).length
    · rw [big_row hi e] at h; cases h
    · omega
theorem smallB_bad {bs : List (List (List St))} {k : Nat} (hk : k < bs.length) (h : big (bw bs k) = true) : smallB bs = false := by
  unfold smallB
  rw [Bool.not_eq_false', List.any_eq_true]
  exact ⟨_, bw_mem hk, h⟩
theorem smallB_ok {bs : List (List (List St))} (h : ∀ k, k < bs.length → big (bw bs k) = false) : smallB bs = true := by
  unfold smallB
  rw [Bool.not_eq_true', List.any_eq_false]
  intro c hc
  obtain ⟨i, hi, rfl⟩ := List.mem_iff_getElem.1 hc
  have := h i hi
  rw [bw_of_lt hi] at this
  rw [this]; simp
theorem goodB_bad {bs : List (List (List St))} {k i j : Nat} (hk : k < bs.length) (hi : i < (bw bs k).length) (hj : j < (sw (bw bs k) i).length) (h : (si (sw (bw bs k) i) j).chk ≠ 0) : goodB bs = false := by
  unfold goodB goodC
  rw [List.all_eq_false]
  refine ⟨_, bw_mem hk, ?_⟩
  rw [Bool.not_eq_true, List.all_eq_false]
  refine ⟨_, sw_mem hi, ?_⟩
  rw [Bool.not_eq_true, List.all_eq_false]
  exact ⟨_, si_mem hj, by simpa using h⟩
theorem goodB_ok {bs : List (List (List St))} (h : ∀ k, k < bs.length → ∀ i, i < (bw bs k).length → ∀ j, j < (sw (bw bs k) i).length → (si (sw (bw bs k) i) j).chk = 0) : goodB bs = true := by
  unfold goodB goodC
  rw [List.all_eq_true]
  intro c hc
  obtain ⟨k, hk, rfl⟩ := List.mem_iff_getElem.1 hc
  rw [List.all_eq_true]
  intro r hr
  obtain ⟨i, hi, rfl⟩ := List.mem_iff_getElem.1 hr
  rw [List.all_eq_true]
  intro s hs
  obtain ⟨j, hj, rfl⟩ := List.mem_iff_getElem.1 hs
  have := h k hk
  rw [bw_of_lt hk] at this
  have := this i hi
  rw [sw_of_lt hi] at this
  have := this j hj
  rw [si_of_lt hj] at this
  exact decide_eq_true this
end Go.Proofs.Ytlmkcojimhbmiaa
/-
  DERIVED: THE SHELF's CONTRACTS AT THIS DUMP, IN PLAIN WORDS (tools/lay-plain.mjs out of 'TryShelf.lean', which tools/lay-shelf.mjs wrote): THE SAME DECLARATIONS UNDER THE SAME NAMES: 'import', 'namespace', 'open', 'def', 'theorem' AND NOTHING ELSE: no command of the shelf's: FOR A HAND-IN. Each laying: the table of numbers ('.._ren') and one theorem, a field a fact of the dump's own or the kernel's comparison; each contract: ONE APPLICATION.
-/
namespace Go.Proofs
open Go.Shelf
def Try.lays264_ren : Go.Shelf.Ren := ⟨fun | 264 => 57 | n => n, fun | 53 => 95 | 46 => 81 | n => n, fun | n => n⟩
theorem Try.lays264 : Go.Proofs.Lays.n264 Try.prog Try.lays264_ren := {
  mixed := by kernel_rfl
  f264 := Try.func57.trans (congrArg some (by kernel_rfl))
  t46 := Try.underlying81
  a46 := Try.isAgg81
  z46 := Try.sizeOf81
  v46 := Try.zeroValue81
  t53 := Try.underlying95
  a53 := Try.isAgg95
  z53 := Try.sizeOf95
  v53 := Try.zeroValue95 }
open Go.RowKit Go.Lib in
theorem Try.bits_Mul64 (x y : Nat) (hx : x < 18446744073709551616) (hy : y < 18446744073709551616) (w : World) :
    Calls Try.prog 57 #[.int .u64 x, .int .u64 y] w fun e w' => e = .returned (.tuple #[.int .u64 ((x * y / 18446744073709551616 : Nat) : Int), .int .u64 ((x * y % 18446744073709551616 : Nat) : Int)]) ∧ w' = w := Any.bits_Mul64 Try.lays264 x y hx hy w
def Try.lays212_ren : Go.Shelf.Ren := ⟨fun | 212 => 47 | 263 => 56 | 264 => 57 | n => n, fun | 46 => 81 | 51 => 92 | 146 => 93 | 53 => 95 | 148 => 96 | n => n, fun | n => n⟩
theorem Try.lays212 : Go.Proofs.Lays.n212 Try.prog Try.lays212_ren := {
  mixed := by kernel_rfl
  f212 := Try.func47.trans (congrArg some (by kernel_rfl))
  f263 := Try.func56.trans (congrArg some (by kernel_rfl))
  f264 := Try.func57.trans (congrArg some (by kernel_rfl))
  t46 := Try.underlying81
  a46 := Try.isAgg81
  z46 := Try.sizeOf81
  v46 := Try.zeroValue81
  t51 := Try.underlying92
  a51 := Try.isAgg92
  z51 := Try.sizeOf92
  v51 := Try.zeroValue92
  t53 := Try.underlying95
  a53 := Try.isAgg95
  z53 := Try.sizeOf95
  v53 := Try.zeroValue95
  t146 := Try.underlying93
  a146 := Try.isAgg93
  z146 := Try.sizeOf93
  v146 := Try.zeroValue93
  t148 := Try.underlying96
  a148 := Try.isAgg96
  z148 := Try.sizeOf96
  v148 := Try.zeroValue96 }
open Go.RowKit Go.Lib in
/-- math/bits.Mul: "Mul returns the full-width product of x and y": on a machine of 64 bits: Mul64's. (LAID: no walk: one application.) -/
theorem Try.bits_Mul (x y : Nat) (hx : x < 18446744073709551616) (hy : y < 18446744073709551616) (w : World) :
    Calls Try.prog 47 #[.int .u64 x, .int .u64 y] w fun e w' => e = .returned (.tuple #[.int .u64 ((x * y / 18446744073709551616 : Nat) : Int), .int .u64 ((x * y % 18446744073709551616 : Nat) : Int)]) ∧ w' = w := Any.bits_Mul Try.lays212 x y hx hy w
end Go.Proofs
/- slices.Repeat of one chart. -/
namespace Go.Proofs.Ytlmkcojimhbmiaa
set_option linter.unusedVariables false
set_option linter.unusedSimpArgs false
set_option maxRecDepth 8000
open Go Go.RowKit

/-- A slice of structs of one cell. -/
structure EI1 (P : Program) (t e : TypeId) (z zc : Value) (bytes : Nat) : Prop where
  und : P.underlying t = some (.slice e)
  info : (P.info? e).map (fun i => (i.zero, i.size, i.bytes)) = some (some z, 1, bytes)
  cell : z.cells = #[zc]
theorem run_make_lc1 {P : Program} {t e : TypeId} {z zc : Value} {bytes : Nat} (ei : EI1 P t e z zc bytes) (kl kc : IntKind) (m n : Nat) (hmn : m ≤ n) (hbytes : bytes * n ≤ 281474976710656) (h63 : n ≤ 9223372036854775807) (w : World) :
    (Instr.makeSlice t (.int kl (m : Int)) (.int kc (n : Int))).run P w = .ok (.slice (some ⟨w.heap.size, 0, none⟩) m n) (w.alloc (.cells (madeCells #[zc] n) e)) := by
  obtain ⟨i, hi, hz0, hz1, hz2⟩ := info_parts ei.info
  have hb' : (i.bytes : Int) * (n : Int) ≤ 281474976710656 := by
    have h : ((i.bytes * n : Nat) : Int) ≤ 281474976710656 := by rw [hz2]; omega
    rwa [Int.natCast_mul] at h
  have hr := run_make (P := P) w t e i z ei.und hi hz0 kl kc m n (by omega) (by omega) hb' (by omega)
  simp only [Int.toNat_natCast, hz1, Nat.mul_one, ei.cell] at hr
  exact hr
theorem app_own_g1 {P : Program} {t e : TypeId} {z zc : Value} {bytes : Nat} (ei : EI1 P t e z zc bytes) {w : World} {ops : Array Oper} {rest : List Oper} {o : Oper} {a : Act} {Q : Exit → Act → World → Prop}
    (hg : o.guard = none) (s x : Operand) (hop : o.op = Op.call { callee := Callee.builtin Builtin.append, args := #[s, x], argTypes := #[t, t] })
    (B : Nat) (v : Value) (n : Nat) (xs : List Value) (hs : a.eval s = v) (hown : w.ownsRow B e 1 v n xs)
    (y : Value) (c : Nat) (ys : List Value) (hx : a.eval x = y) (hy : VS w y c ys) (h1 : ∀ u ∈ ys, u.oneCell' = true)
    (hbytes : (n + ys.length) * bytes ≤ 140737488355328) (hlen : n + ys.length ≤ 140737488355328) (hB : B ≤ w.heap.size)
    (hK : ∀ v' w', w'.ownsRow B e 1 v' (n + ys.length) (xs ++ ys) → w.grownBy w' v.ownBlock → wpList P ops Q rest (a.put o.dst v') w') :
    wpList P ops Q (o :: rest) a w := by
  obtain ⟨i, hi, hz0, hz1, hz2⟩ := info_parts ei.info
  obtain ⟨ao, rfl, hl, hm, hno, hc⟩ := hy
  have hzs : z.cells.size = 1 := by rw [ei.cell]; rfl
  cases ao with
  | none =>
    have hc0 := hno rfl
    have hys : ys = [] := List.eq_nil_of_length_eq_zero (by omega)
    subst hys
    subst hc0
    exact wpList_append_own_none hg s x t hop B e i 1 ei.und hi v n xs hs hown hx (hK v w (by simpa using hown) (World.grownBy.refl _ _))
  | some ad =>
    refine wpList_append_own w hg s x t hop B e i z 1 bytes ei.und hi hz0 hz1 hz2 hzs (by decide) v n xs hs hown ad ys.length c ys hx (by simp) (VS.cells hl hc ad rfl) h1 (by unfold maxLen; omega) hbytes hB ?_
    intro v' w' h2 h3 _
    exact hK v' w' h2 h3
theorem eiC : EI1 Try.prog 40 24 (.agg #[.slice Option.none 0 0]) (.slice Option.none 0 0) 24 := ⟨Try.underlying40, by kernel_rfl, rfl⟩
/-- k cells of a value, and the rest still empty. -/
def rep (u : Value) (k N : Nat) : List Value := List.replicate k u ++ List.replicate (N - k) (.slice none 0 0)
theorem rep_len {u : Value} {k N : Nat} (h : k ≤ N) : (rep u k N).length = N := by unfold rep; simp; omega
theorem rep_full (u : Value) (N : Nat) : rep u N N = List.replicate N u := by unfold rep; simp
theorem rep_at {u : Value} {k N j : Nat} (h : j < k) : (rep u k N)[j]? = some u := by
  unfold rep
  rw [List.getElem?_append_left (by simpa using h)]
  simp [h]
theorem rep_splice {u : Value} {k m N : Nat} (h : k + m ≤ N) : splice (rep u k N) k (List.replicate m u) = rep u (k + m) N := by
  unfold splice rep
  rw [List.take_append_of_le_length (by simp), List.take_of_length_le (by simp), List.length_replicate, List.drop_append]
  simp only [List.length_replicate, List.drop_replicate]
  rw [show k - (k + m) = 0 by omega, show k + m - k = m by omega, ← List.append_assoc, List.replicate_append_replicate, show N - k - m = N - (k + m) by omega]
  simp
theorem rep_made (u : Value) (N : Nat) : madeCells #[Value.slice none 0 0] N = (rep u 0 N).toArray := by
  apply Array.ext'
  rw [toList_madeCells_one]
  simp [rep]
def RetRp (w0 : World) (u : Value) (n : Nat) (e : Ending) (w' : World) : Prop := ∃ G, e = .returned (.slice (some ⟨G, 0, none⟩) n n) ∧ w'.heap[G]? = some (.cells (List.replicate n u).toArray 24 (0, 0)) ∧ Ext w0 w'
set_option maxHeartbeats 2000000 in
theorem Repeat_calls (u : Value) (g n : Nat) (w : World) (hb : w.heap[g]? = some (.cells #[u] 24 (0, 0))) (hu : u.oneCell' = true) (h1 : 1 ≤ n) (hn : n ≤ 1000) :
    Calls Try.prog 34 #[.slice (some ⟨g, 0, none⟩) 1 1, .int .i64 n] w (RetRp w u n) := by
  have hmul := fun w' => (Try.bits_Mul 1 n (by omega) (by omega) w').mono (fun e w2 h => (show e = .returned (.tuple #[.int .u64 0, .int .u64 (n : Int)]) ∧ w2 = w' by
    rw [Nat.one_mul, Nat.div_eq_of_lt (by omega), Nat.mod_eq_of_lt (by omega)] at h
    exact h))
  have hmk := run_make_lc1 (P := Try.prog) eiC .i64 .i64 n n (by omega) (by omega) (by omega) w
  obtain ⟨W, hW⟩ : ∃ W, W = w.alloc (.cells (madeCells #[.slice none 0 0] n) 24) := ⟨_, rfl⟩
  have xW : Ext w W := by rw [hW]; exact (Ext.refl w).alloc _
  have hbG : W.heap[w.heap.size]? = some (.cells (rep u 0 n).toArray 24 (0, 0)) := by rw [hW, rep_made u n]; exact blk_at rfl
  have hb1 := xW.block hb
  have c1 : (1 : Int) ≤ 1 := Int.le_refl _
  have w1 : IntKind.u64.wrap (1 : Int) = 1 := by decide
  have w2 : IntKind.u64.wrap (n : Int) = (n : Int) := by rw [IntKind.wrap_u64]; omega
  have w3 : IntKind.i64.wrap (n : Int) = (n : Int) := IntWalk.i64_in _ ⟨by omega, by omega⟩
  have t1 : ¬ ((n : Int) < 0) := by omega
  have t2 : ¬ (9223372036854775807 : Int) < n := by omega
  have HMul := Lib.hid hmul; have XW := Lib.hid xW; have HG := Lib.hid hbG; have HB1 := Lib.hid hb1; have HW := Lib.hid hW; have HU := Lib.hid hu
  clear hmul xW hbG hb1 hW hb hu
  go_enter Try.func34, Try.ntmps34
  go_wp2_with fail
  refine (HMul.out _).mono ?_
  rintro e w4 ⟨rfl, hw4⟩
  rw [hw4]
  clear hw4
  obtain ⟨U, hU⟩ : ∃ U, U = List.replicate (min 1 n) u := ⟨_, rfl⟩
  have hU1 : Hid (U.length = Nat.min 1 n) := Lib.hid (by rw [hU, List.length_replicate])
  have hU2 : Hid (∀ v ∈ U, v.oneCell' = true) := Lib.hid (fun v hv => by rw [hU] at hv; rw [(List.mem_replicate.1 hv).2]; exact HU.out)
  have hU3 : Hid (splice (rep u 0 n) 0 U = rep u 1 n) := Lib.hid (by rw [hU, show min 1 n = 1 by omega, rep_splice (by omega)])
  have hU4 : Hid (U.length = 1) := Lib.hid (by rw [hU, List.length_replicate]; omega)
  have hU5 : Hid (∀ j v, U[j]? = some v → W.cell? ((⟨g, 0, none⟩ : Addr).add j) = some v) := Lib.hid (fun j v hj => by
    rw [hU, show min 1 n = 1 by omega] at hj
    have hj1 := (List.getElem?_eq_some_iff.1 hj).1
    obtain rfl : j = 0 := by simpa using hj1
    obtain rfl : u = v := by simpa using hj
    simp [Addr.add_lit, World.cell?, HB1.out])
  have hlen : Hid ((rep u 0 n).length = n) := Lib.hid (rep_len (by omega))
  clear hU
  go_wp2_with (rw [← HW.out]; refine wpList_copy_splice rfl _ _ 40 40 rfl 24 Try.underlying40 (by kernel_rfl) _ _ n n 1 1 rfl rfl w.heap.size 0 (rep u 0 n) 24 HG.out U hU1.out (fun _ => ⟨rfl, _, rfl, hU5.out⟩) (by rw [hlen.out, hU4.out]; omega) hU2.out w.heap.size w XW.out (Nat.le_refl _) ?_)
  intro w5 hG5 hB5
  rw [hU4.out, show ((1 : Nat) : Int) = 1 from rfl]
  have H5 := Lib.hid (show Ext w w5 ∧ w5.heap[w.heap.size]? = some (.cells (rep u 1 n).toArray 24 (0, 0)) from ⟨hB5, by rw [← hU3.out]; exact hG5.out⟩)
  clear hG5 hB5 hU1 hU2 hU3 hU4 hU5 hlen HG HB1 HW XW w1 w2 w3 t1 t2 c1
  go_wp2
  go_loopw [8] (fun i wr => ∃ k : Nat, 1 ≤ k ∧ k ≤ n ∧ i = .int .i64 k ∧ Hid (Ext w wr ∧ wr.heap[w.heap.size]? = some (.cells (rep u k n).toArray 24 (0, 0)))) (fun i _ => n - (intOf i).toNat)
  case atStart => exact ⟨1, Nat.le_refl _, h1, rfl, H5⟩
  case round =>
    obtain ⟨k, hk1, hk, rfl, H⟩ := hrel
    clear H5
    by_cases hlt : k < n
    · have t1 : (k : Int) < n := by omega
      have t2 : (k : Int) ≤ n := by omega
      have t3 : (0 : Int) ≤ k := by omega
      have t4 : ¬ n = k := by omega
      have xd : Ext w wr.drew := H.out.1.drew
      have hGd : wr.drew.heap[w.heap.size]? = some (.cells (rep u k n).toArray 24 (0, 0)) := H.out.2
      have hGc : ∀ j v, (List.replicate (min k (n - k)) u)[j]? = some v → wr.drew.cell? ((⟨w.heap.size, 0, none⟩ : Addr).add j) = some v := fun j v hj => by
        have hj1 := (List.getElem?_eq_some_iff.1 hj).1
        have hjk : j < k := by simp only [List.length_replicate] at hj1; omega
        have hv : u = v := by
          rw [List.getElem?_replicate] at hj
          split at hj
          · exact Option.some.inj hj
          · cases hj
        subst hv
        rw [Addr.add_lit]
        have h := rep_at (u := u) (N := n) hjk
        rw [World.cell?_of_block (w' := wr.drew) rfl]
        simp only [World.cell?, hGd, Nat.zero_add]
        simpa using h
      obtain ⟨U, hU⟩ : ∃ U, U = List.replicate (min k (n - k)) u := ⟨_, rfl⟩
      have hU1 : Hid (U.length = Nat.min k (n - k)) := Lib.hid (by rw [hU, List.length_replicate])
      have hU2 : Hid (∀ v ∈ U, v.oneCell' = true) := Lib.hid (fun v hv => by rw [hU] at hv; rw [(List.mem_replicate.1 hv).2]; exact HU.out)
      have hU3 : Hid (splice (rep u k n) k U = rep u (k + min k (n - k)) n) := Lib.hid (by rw [hU, rep_splice (by omega)])
      obtain ⟨q, hq⟩ : ∃ q, q = min k (n - k) := ⟨_, rfl⟩
      have hU4 : Hid (U.length = q) := Lib.hid (by rw [hU, List.length_replicate, hq])
      have hU5 : Hid (∀ j v, U[j]? = some v → wr.drew.cell? ((⟨w.heap.size, 0, none⟩ : Addr).add j) = some v) := Lib.hid (by rw [hU]; exact hGc)
      have hlen : Hid ((rep u k n).length = n) := Lib.hid (rep_len (by omega))
      rw [← hq] at hU3
      have HGd := Lib.hid hGd; have XD := Lib.hid xd
      have q1 : 1 ≤ q := by omega
      have q2 : k + q ≤ n := by omega
      clear hU hGc hGd xd hq
      go_wp2_with fail
      go_region_law (refine step_copy_splice rfl (.tmp 41) (.tmp 44) 40 40 rfl 24 Try.underlying40 (by kernel_rfl) (some ⟨w.heap.size, k, none⟩) (some ⟨w.heap.size, 0, none⟩) (n - k) (n - k) k n (by simp [Act.eval, Act.put]) (by simp [Act.eval, Act.put]) w.heap.size k (rep u k n) 24 HGd.out U hU1.out (fun _ => ⟨rfl, _, rfl, hU5.out⟩) (by rw [hlen.out, hU4.out]; omega) hU2.out w.heap.size w XD.out (Nat.le_refl _) ?_; intro w6 hg6 hb6)
      rw [hU4.out]
      have H6 := Lib.hid (show Ext w w6 ∧ w6.heap[w.heap.size]? = some (.cells (rep u (k + q) n).toArray 24 (0, 0)) from ⟨hb6, by rw [← hU3.out]; exact hg6.out⟩)
      clear hg6 hb6 hU1 hU2 hU3 hU4 hU5 hlen HGd XD H
      have v4 : IntKind.i64.wrap ((k : Int) + (q : Int)) = (k : Int) + (q : Int) := IntWalk.i64_in _ ⟨by omega, by omega⟩
      rw [v4]
      simp only [Act.put, List.getElem_toArray, List.getElem_cons_zero, List.getElem_cons_succ, List.setIfInBounds_toArray, List.set_cons_zero, List.set_cons_succ]
      go_wp2
      go_roundw
      case rel => exact ⟨k + q, by omega, by omega, by go_num, H6⟩
      case measure => simp [intOf]; omega
    · obtain rfl : n = k := by omega
      have hF : RetRp w u n (.returned (.slice (some ⟨w.heap.size, 0, none⟩) n n)) wr := ⟨_, rfl, by rw [← rep_full]; exact H.out.2, H.out.1⟩
      have HF := Lib.hid hF
      clear hF
      go_wp2
      go_ret
      exact HF.out
end Go.Proofs.Ytlmkcojimhbmiaa
/- Mirror images of stitches and of charts. -/
namespace Go.Proofs.Ytlmkcojimhbmiaa
set_option linter.unusedVariables false
set_option linter.unusedSimpArgs false
set_option maxRecDepth 8000
open Go Go.RowKit

def St.mir (s : St) : St := if s.k = 8 then ⟨s.k, s.y, s.b, s.a, !s.f⟩ else s
theorem B5c {w : World} {b : Nat} {s : St} {t : TypeId} (h : B5 w b s t) : w.cell? ⟨b, 0, none⟩ = some (.int .u8 s.k) ∧ w.cell? ⟨b, 1, none⟩ = some (.int .u8 s.y) ∧ w.cell? ⟨b, 2, none⟩ = some (.int .i64 s.a) ∧ w.cell? ⟨b, 3, none⟩ = some (.int .i64 s.b) ∧ w.cell? ⟨b, 4, none⟩ = some (.bool s.f) := by
  obtain ⟨c0, c1, c2, c3, c4⟩ := h.at
  simp only [Nat.zero_add] at c1 c2 c3 c4
  exact ⟨c0, c1, c2, c3, c4⟩
set_option maxHeartbeats 1000000 in
theorem SMirror_calls (s : St) (w : World) : Calls Try.prog 41 #[s.val] w fun e w' => e = .returned s.mir.val ∧ Ext w w' := by
  obtain ⟨k, y, a, b, f⟩ := s
  by_cases hk : k = 8
  · have hm : St.mir ⟨k, y, a, b, f⟩ = ⟨8, y, b, a, !f⟩ := by unfold St.mir; rw [if_pos hk, hk]
    rw [hm]
    subst hk
    unfold St.val
    clear hm
    go_enter Try.func41, Try.ntmps41
    go_wp2
    exact bodyPost_ret (v := .agg #[.int .u8 8, .int .u8 y, .int .i64 b, .int .i64 a, .bool !f]) (by simp [results, Try.results41, go_sem]) rfl ⟨rfl, ((Ext.refl w).alloc _).alloc _⟩
  · have hm : St.mir ⟨k, y, a, b, f⟩ = ⟨k, y, a, b, f⟩ := by unfold St.mir; rw [if_neg hk]
    rw [hm]
    have hk' : (k == 8) = false := beq_eq_false_iff_ne.2 hk
    unfold St.val
    clear hm hk
    go_enter Try.func41, Try.ntmps41
    go_wp2
    exact bodyPost_ret (v := .agg #[.int .u8 k, .int .u8 y, .int .i64 a, .int .i64 b, .bool f]) (by simp [results, Try.results41, go_sem]) rfl ⟨rfl, ((Ext.refl w).alloc _).alloc _⟩

/-- The mirror image of a row. -/
def mirR (l : List St) : List St := (l.map St.mir).reverse
def mirC (rows : List (List St)) : List (List St) := rows.map mirR
theorem mirR_len (l : List St) : (mirR l).length = l.length := by simp [mirR]
theorem mirC_len (rows : List (List St)) : (mirC rows).length = rows.length := by simp [mirC]
theorem mirC_sw {rows : List (List St)} {i : Nat} (h : i < rows.length) : sw (mirC rows) i = mirR (sw rows i) := by
  rw [sw_of_lt (by rw [mirC_len]; exact h), sw_of_lt h]; simp [mirC]
theorem mirR_si {l : List St} {i : Nat} (h : i < l.length) : si (mirR l) (l.length - 1 - i) = (si l i).mir := by
  rw [si_of_lt (by rw [mirR_len]; omega), si_of_lt h]
  unfold mirR
  rw [List.getElem_reverse]
  simp only [List.getElem_map, List.length_map]
  congr 2; omega
/-- The last j stitches of the image are laid. -/
def mrU (l : List St) (j : Nat) : List St := List.replicate (l.length - j) St.none ++ (mirR l).drop (l.length - j)
theorem mrU_len (l : List St) {j : Nat} (h : j ≤ l.length) : (mrU l j).length = l.length := by unfold mrU; simp [mirR_len]; try omega
theorem mrU_zero (l : List St) : mrU l 0 = List.replicate l.length St.none := by
  unfold mrU; rw [List.drop_eq_nil_of_le (by rw [mirR_len]; omega)]; simp
theorem mrU_all (l : List St) : mrU l l.length = mirR l := by unfold mrU; simp
theorem mrU_set {l : List St} {j : Nat} (h : j < l.length) : (mrU l j).set (l.length - 1 - j) (si l j).mir = mrU l (j + 1) := by
  unfold mrU
  have hl := mirR_len l
  have e : l.length - j = (l.length - (j + 1)) + 1 := by omega
  have hd : (mirR l).drop (l.length - (j + 1)) = (si l j).mir :: (mirR l).drop (l.length - j) := by
    rw [List.drop_eq_getElem_cons (by omega), ← si_of_lt (by omega), show l.length - (j + 1) = l.length - 1 - j by omega, mirR_si h, show l.length - 1 - j + 1 = l.length - j by omega]
  rw [hd]
  rw [List.set_append_left _ _ (by simp; omega), e, List.replicate_succ', List.set_append_right _ _ (by simp; omega)]
  have e2 : l.length - 1 - j - (List.replicate (l.length - (j + 1)) St.none).length = 0 := by simp; omega
  rw [e2]
  simp
end Go.Proofs.Ytlmkcojimhbmiaa
