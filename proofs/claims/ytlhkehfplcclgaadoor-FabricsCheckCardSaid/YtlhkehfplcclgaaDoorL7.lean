/- Texts of this claim in one file: libraries and walks. -/
import Derived.Maps.AppendAt
import Derived.Deep.AppendLies
import Derived.Test.YtlhkehfplcclgaaDoorL6
/- The table that Of makes, in memory: rows, free names, names made, and the loop under way. -/
namespace Go.Proofs.YtlhkehfplcclgaaDoor
set_option linter.unusedVariables false
set_option linter.unusedSimpArgs false
set_option maxRecDepth 8000
open Go Go.RowKit

/-- Two slices have no block in common. -/
def DJ (u v : Value) : Prop := ∀ g, u.ownBlock = some g → v.ownBlock ≠ some g
theorem DJ.symm {u v : Value} (h : DJ u v) : DJ v u := fun g h1 h2 => h g h2 h1
theorem DJ.nil (v : Value) : DJ (.slice none 0 0) v := fun g h => by simp [Value.ownBlock] at h
theorem own_keep {w w' : World} {B n k : Nat} {e : TypeId} {u v : Value} {xs : List Value} (h : w.ownsRow B e k u n xs) (hg : w.grownBy w' v.ownBlock) (hd : DJ u v) : w'.ownsRow B e k u n xs :=
  h.kept hg (by
    cases hu : u.ownBlock with
    | none => exact .inl rfl
    | some g => exact .inr fun e => hd g hu e.symm)
theorem own_ty {w : World} {B B' n n' k k' : Nat} {e e' : TypeId} {u v : Value} {xs ys : List Value} (h : w.ownsRow B e k u n xs) (h' : w.ownsRow B' e' k' v n' ys) (he : e ≠ e') : DJ u v := fun g h1 h2 => by
  obtain ⟨_, ⟨rfl, _⟩ | ⟨g1, cap, cur, rfl, _, h3, _⟩⟩ := h
  · simp [Value.ownBlock] at h1
  · obtain ⟨_, ⟨rfl, _⟩ | ⟨g2, cap', cur', rfl, _, h4, _⟩⟩ := h'
    · simp [Value.ownBlock] at h2
    · have e1 : g1 = g := by simpa [Value.ownBlock] using h1
      have e2 : g2 = g := by simpa [Value.ownBlock] using h2
      subst e1; subst e2
      rw [h3] at h4
      cases h4
      exact he rfl
/-- Where a slice lies that was appended to. -/
def AtB (w : World) (v v' : Value) : Prop := v'.ownBlock = v.ownBlock ∨ v'.ownBlock = some w.heap.size
theorem DJ.at {w : World} {B n k : Nat} {e : TypeId} {u v v' : Value} {xs : List Value} (hd : DJ u v) (hat : AtB w v v') (hu : w.ownsRow B e k u n xs) : DJ u v' := fun g h1 h2 => by
  rcases hat with h | h
  · rw [h] at h2; exact hd g h1 h2
  · rw [h] at h2
    have := (hu.lt g h1).2
    cases h2; omega
theorem DJ.new {w : World} {B n k : Nat} {e : TypeId} {u v : Value} {xs : List Value} (hu : w.ownsRow B e k u n xs) (hv : ∀ g, v.ownBlock = some g → w.heap.size ≤ g) : DJ u v := fun g h1 h2 => by
  have := (hu.lt g h1).2
  have := hv g h2
  omega
/-- append(s, x...), s the call's own, and where it lies; in a list, and in a region that draws its order. -/
theorem wp_app {P : Program} {t e : TypeId} {z : Value} {k bytes : Nat} (ek : EK P t e z k bytes) {w : World} {o : Oper} {a : Act} {K : Act → World → Prop} {Q : Exit → Act → World → Prop}
    (s x : Operand) (hop : o.op = Op.call { callee := Callee.builtin Builtin.append, args := #[s, x], argTypes := #[t, t] })
    (B : Nat) (v : Value) (n : Nat) (xs : List (List Value)) (hs : a.eval s = v) (hown : w.ownsRow B e k v n xs.flatten)
    (y : Value) (c : Nat) (ys : List (List Value)) (hx : a.eval x = y) (hy : CK k w y c ys) (hk : Ks k ys)
    (hlen : (n + ys.length) * bytes ≤ 140737488355328) (hlen2 : n + ys.length ≤ 140737488355328) (hB : B ≤ w.heap.size)
    (hK : ∀ v' w', w'.ownsRow B e k v' (n + ys.length) (xs ++ ys).flatten → w.grownBy w' v.ownBlock → AtB w v v' → K (a.put o.dst v') w') :
    Oper.wp P o a w K Q := by
  obtain ⟨i, hi, hz0, hz1, hz2⟩ := info_parts ek.info
  obtain ⟨ao, rfl, hno, hc⟩ := hy.news hk ek.k0
  cases ao with
  | none =>
    obtain rfl := hno rfl
    have hc0 : c = 0 := by
      obtain ⟨ao, e1, _, _, e2⟩ := hy
      cases e1
      rcases e2 with e2 | ⟨_, _, e2, _⟩
      · exact e2
      · cases e2
    subst hc0
    have hrun := run_append_owned_none (P := P) (w := w) B t o.type e i k ek.und hi v n xs.flatten hown
    unfold Oper.wp
    simp [execOp, hop, resolve, invoke, builtin, hs, hx, hrun, Result.andThen]
    exact hK _ _ (by simpa using hown) (World.grownBy.refl _ _) (.inl rfl)
  | some ad =>
    obtain ⟨v', w', hr, h2, h3, _, h5⟩ := run_append_own_at (P := P) w B t o.type e i z k bytes ek.und hi hz0 hz1 hz2 ek.zs ek.k0 v n xs.flatten hown ad ys.length c ys.flatten hk.len (hc ad rfl) hk.one (by unfold maxLen; omega) hlen hB
    unfold Oper.wp execOp
    simp only [hop, resolve, invoke, builtin, Sem.run_bind, Sem.run_pure, Result.andThen_ok, List.map_toArray, List.map_cons, List.map_nil, hs, hx, hr]
    exact hK v' w' (by rw [List.flatten_append]; exact h2) h3 h5
theorem app_at {P : Program} {t e : TypeId} {z : Value} {k bytes : Nat} (ek : EK P t e z k bytes) {w : World} {ops : Array Oper} {rest : List Oper} {o : Oper} {a : Act} {Q : Exit → Act → World → Prop}
    (hg : o.guard = none) (s x : Operand) (hop : o.op = Op.call { callee := Callee.builtin Builtin.append, args := #[s, x], argTypes := #[t, t] })
    (B : Nat) (v : Value) (n : Nat) (xs : List (List Value)) (hs : a.eval s = v) (hown : w.ownsRow B e k v n xs.flatten)
    (y : Value) (c : Nat) (ys : List (List Value)) (hx : a.eval x = y) (hy : CK k w y c ys) (hk : Ks k ys)
    (hlen : (n + ys.length) * bytes ≤ 140737488355328) (hlen2 : n + ys.length ≤ 140737488355328) (hB : B ≤ w.heap.size)
    (hK : ∀ v' w', w'.ownsRow B e k v' (n + ys.length) (xs ++ ys).flatten → w.grownBy w' v.ownBlock → AtB w v v' → wpList P ops Q rest (a.put o.dst v') w') :
    wpList P ops Q (o :: rest) a w :=
  wpList_plain hg fun _ hK' => wp_app ek s x hop B v n xs hs hown y c ys hx hy hk hlen hlen2 hB fun v' w' h1 h2 h3 => hK' _ _ (hK v' w' h1 h2 h3)
theorem step_app {P : Program} {t e : TypeId} {z : Value} {k bytes : Nat} (ek : EK P t e z k bytes) {w : World} {ops : Array Oper} {o : Oper} {a : Act} {K : Act → World → Prop} {Q : Exit → Act → World → Prop} {E : Prop}
    (hg : o.guard = none) (s x : Operand) (hop : o.op = Op.call { callee := Callee.builtin Builtin.append, args := #[s, x], argTypes := #[t, t] })
    (B : Nat) (v : Value) (n : Nat) (xs : List (List Value)) (hs : a.eval s = v) (hown : w.ownsRow B e k v n xs.flatten)
    (y : Value) (c : Nat) (ys : List (List Value)) (hx : a.eval x = y) (hy : CK k w y c ys) (hk : Ks k ys)
    (hlen : (n + ys.length) * bytes ≤ 140737488355328) (hlen2 : n + ys.length ≤ 140737488355328) (hB : B ≤ w.heap.size)
    (hK : ∀ v' w', w'.ownsRow B e k v' (n + ys.length) (xs ++ ys).flatten → w.grownBy w' v.ownBlock → AtB w v v' → K (a.put o.dst v') w') :
    if Region.wanted o (yielded ops a.tmps) = true then Oper.wp P o a w K Q else E := by
  have hw : Region.wanted o (yielded ops a.tmps) = true := by simp [Region.wanted, hg]
  rw [if_pos hw]
  exact wp_app ek s x hop B v n xs hs hown y c ys hx hy hk hlen hlen2 hB hK
/-- An empty literal. -/
theorem own_lit (w : World) (B : Nat) (hB : B ≤ w.heap.size) (e : TypeId) (k : Nat) : (w.alloc (.cells #[] e)).ownsRow B e k (.slice (some ⟨w.heap.size, 0, none⟩) 0 0) 0 ([] : List (List Value)).flatten :=
  ⟨by simp, .inr ⟨w.heap.size, 0, #[], rfl, hB, Deep.blk_alloc_new _ _, Nat.le_refl _, by unfold maxLen; omega, by simp, by simp⟩⟩

theorem own_mono {w : World} {B B' n k : Nat} {e : TypeId} {v : Value} {xs : List Value} (h : w.ownsRow B e k v n xs) (hB : B' ≤ B) : w.ownsRow B' e k v n xs := by
  obtain ⟨h1, h2 | ⟨g, cap, cur, h3, h4, h5⟩⟩ := h
  · exact ⟨h1, .inl h2⟩
  · exact ⟨h1, .inr ⟨g, cap, cur, h3, by omega, h5⟩⟩
theorem own_b4 {w : World} {B n k b : Nat} {v x y z u : Value} {xs : List Value} {e t : TypeId} (h : w.ownsRow B e k v n xs) (hb : B4 w b x y z u t) (he : e ≠ t) : v.ownBlock ≠ some b := own_ne_ty h (show w.heap[b]? = some (.cells #[x, y, z, u] t (0, 0)) from hb) he
/-- A row of loops stays. -/
theorem LRo.kept {N : Nat} {w w' : World} {v r : Value} {ls : List Lp} {us vs : Nat → Value} (h : LRo N w v ls us vs) (hg : w.grownBy w' r.ownBlock) (hv : DJ v r) (hu : ∀ i, i < ls.length → DJ (us i) r) (hw : ∀ i, i < ls.length → DJ (vs i) r) : LRo N w' v ls us vs :=
  ⟨own_keep h.row hg hv, fun i hi => own_keep (h.u i hi) hg (hu i hi), fun i hi => own_keep (h.v i hi) hg (hw i hi)⟩
theorem LRo.set {N : Nat} {w : World} {v : Value} {ls : List Lp} {us vs : Nat → Value} (h : LRo N w v ls us vs) {a : Addr} (hv : v.ownBlock ≠ some a.block) (hu : ∀ i, i < ls.length → (us i).ownBlock ≠ some a.block) (hw : ∀ i, i < ls.length → (vs i).ownBlock ≠ some a.block) (x : Value) : LRo N (w.setCell a x) v ls us vs :=
  ⟨own_set h.row hv x, fun i hi => own_set (h.u i hi) (hu i hi) x, fun i hi => own_set (h.v i hi) (hw i hi) x⟩
/-- The table under way: block g0 holds the rows F; us, vs are the loops' slices. -/
structure OT (g0 : Nat) (w : World) (F : Nat → Value) (us vs : Nat → Nat → Value) (s : TS) (fv mv : Value) : Prop where
  tab : w.rowIs g0 47 6 F
  rows : ∀ y, y < 6 → LRo (g0 + 1) w (F y) (yi s.t y) (us y) (vs y)
  free : w.ownsRow (g0 + 1) 41 2 fv s.free.length (s.free.map Nm.cs).flatten
  made : w.ownsRow (g0 + 1) 41 2 mv s.made.length (s.made.map Nm.cs).flatten
  dR : ∀ y z, y < 6 → z < 6 → y ≠ z → DJ (F y) (F z)
  dU : ∀ y i, y < 6 → i < (yi s.t y).length → DJ (us y i) fv ∧ DJ (us y i) mv
  dF : DJ fv mv
  dV : ∀ y i z j, y < 6 → z < 6 → i < (yi s.t y).length → j < (yi s.t z).length → (y ≠ z ∨ i ≠ j) → DJ (vs y i) (vs z j)
theorem OT.ext {g0 : Nat} {w w' : World} {F : Nat → Value} {us vs : Nat → Nat → Value} {s : TS} {fv mv : Value} (h : OT g0 w F us vs s fv mv) (x : Ext w w') : OT g0 w' F us vs s fv mv :=
  ⟨x.row h.tab, fun y hy => (h.rows y hy).ext x, own_extk h.free x, own_extk h.made x, h.dR, h.dU, h.dF, h.dV⟩
theorem OT.agr {g0 : Nat} {w w' : World} {F : Nat → Value} {us vs : Nat → Nat → Value} {s : TS} {fv mv : Value} (h : OT g0 w F us vs s fv mv) (u : Agr g0 w w') : OT g0 w' F us vs s fv mv :=
  ⟨h.tab.of_block (u g0 (Nat.le_refl _) h.tab.lt), fun y hy => ⟨own_agr (h.rows y hy).row (Nat.le_succ _) u, fun i hi => own_agr ((h.rows y hy).u i hi) (Nat.le_succ _) u, fun i hi => own_agr ((h.rows y hy).v i hi) (Nat.le_succ _) u⟩, own_agr h.free (Nat.le_succ _) u, own_agr h.made (Nat.le_succ _) u, h.dR, h.dU, h.dF, h.dV⟩
theorem OT.kept {g0 : Nat} {w w' : World} {F : Nat → Value} {us vs : Nat → Nat → Value} {s : TS} {fv mv r : Value} (h : OT g0 w F us vs s fv mv) (hg : w.grownBy w' r.ownBlock) (h0 : ∀ g, r.ownBlock = some g → g0 < g)
    (hR : ∀ y, y < 6 → DJ (F y) r) (hU : ∀ y i, y < 6 → i < (yi s.t y).length → DJ (us y i) r) (hV : ∀ y i, y < 6 → i < (yi s.t y).length → DJ (vs y i) r) (hf : DJ fv r) (hm : DJ mv r) : OT g0 w' F us vs s fv mv :=
  ⟨h.tab.of_block (hg.block g0 h.tab.lt fun e => by have := h0 g0 e.symm; omega), fun y hy => (h.rows y hy).kept hg (hR y hy) (fun i hi => hU y i hy hi) (fun i hi => hV y i hy hi), own_keep h.free hg hf, own_keep h.made hg hm, h.dR, h.dU, h.dF, h.dV⟩
/-- The free names have been laid anew. -/
theorem OT.setF {g0 : Nat} {w w' : World} {F : Nat → Value} {us vs : Nat → Nat → Value} {t : Tab} {fr md fr' : List Nm} {fv mv fv' : Value} (h : OT g0 w F us vs ⟨t, fr, md⟩ fv mv) (x : Ext w w') (hn : w'.ownsRow w.heap.size 41 2 fv' fr'.length (fr'.map Nm.cs).flatten) : OT g0 w' F us vs ⟨t, fr', md⟩ fv' mv := by
  have h' := h.ext x
  have hb : ∀ g, fv'.ownBlock = some g → w.heap.size ≤ g := fun g hg => (hn.lt g hg).1
  have hsz := h.tab.lt
  exact ⟨h'.tab, h'.rows, own_mono hn (by omega), h'.made, h'.dR, fun y i hy hi => ⟨DJ.new ((h.rows y hy).u i hi) hb, (h.dU y i hy hi).2⟩, (DJ.new h.made hb).symm, h'.dV⟩
/-- A name more is free. -/
theorem OT.addF {g0 : Nat} {w w' : World} {F : Nat → Value} {us vs : Nat → Nat → Value} {t : Tab} {fr md : List Nm} {fv mv fv' : Value} {a : Nm} (h : OT g0 w F us vs ⟨t, fr, md⟩ fv mv) (hg : w.grownBy w' fv.ownBlock) (hat : AtB w fv fv') (hn : w'.ownsRow (g0 + 1) 41 2 fv' (fr.length + 1) ((fr ++ [a]).map Nm.cs).flatten) : OT g0 w' F us vs ⟨t, fr ++ [a], md⟩ fv' mv := by
  have hk : ∀ y, y < 6 → LRo (g0 + 1) w' (F y) (yi t y) (us y) (vs y) := fun y hy => (h.rows y hy).kept hg (own_ty (h.rows y hy).row h.free (by decide)) (fun i hi => (h.dU y i hy hi).1) (fun i hi => own_ty ((h.rows y hy).v i hi) h.free (by decide))
  refine ⟨h.tab.of_block (hg.block g0 h.tab.lt fun e => ?_), hk, by rw [List.length_append]; exact hn, own_keep h.made hg h.dF.symm, h.dR, fun y i hy hi => ⟨(h.dU y i hy hi).1.at hat ((h.rows y hy).u i hi), (h.dU y i hy hi).2⟩, (h.dF.symm.at hat h.made).symm, h.dV⟩
  have := (h.free.lt g0 e.symm).1; omega
/-- .. is made. -/
theorem OT.addM {g0 : Nat} {w w' : World} {F : Nat → Value} {us vs : Nat → Nat → Value} {t : Tab} {fr md : List Nm} {fv mv mv' : Value} {a : Nm} (h : OT g0 w F us vs ⟨t, fr, md⟩ fv mv) (hg : w.grownBy w' mv.ownBlock) (hat : AtB w mv mv') (hn : w'.ownsRow (g0 + 1) 41 2 mv' (md.length + 1) ((md ++ [a]).map Nm.cs).flatten) : OT g0 w' F us vs ⟨t, fr, md ++ [a]⟩ fv mv' := by
  have hk : ∀ y, y < 6 → LRo (g0 + 1) w' (F y) (yi t y) (us y) (vs y) := fun y hy => (h.rows y hy).kept hg (own_ty (h.rows y hy).row h.made (by decide)) (fun i hi => (h.dU y i hy hi).2) (fun i hi => own_ty ((h.rows y hy).v i hi) h.made (by decide))
  refine ⟨h.tab.of_block (hg.block g0 h.tab.lt fun e => ?_), hk, own_keep h.free hg h.dF, by rw [List.length_append]; exact hn, h.dR, fun y i hy hi => ⟨(h.dU y i hy hi).1, (h.dU y i hy hi).2.at hat ((h.rows y hy).u i hi)⟩, h.dF.at hat h.free, h.dV⟩
  have := (h.made.lt g0 e.symm).1; omega
/-- The loop under way, in block gl. -/
structure OC (g0 gl : Nat) (w : World) (F : Nat → Value) (us vs : Nat → Nat → Value) (t : Tab) (fv mv : Value) (bed : Int) (new : Bool) (tv pv : Value) (th : List Nm) (pa : List Ps) : Prop where
  box : B4 w gl (.int .u8 bed) (.bool new) tv pv 46
  b : g0 < gl
  hF : ∀ y, y < 6 → (F y).ownBlock ≠ some gl
  th : w.ownsRow (g0 + 1) 41 2 tv th.length (th.map Nm.cs).flatten
  pa : w.ownsRow (g0 + 1) 50 4 pv pa.length (pa.map Ps.cs).flatten
  dT : DJ tv fv ∧ DJ tv mv
  dU : ∀ y i, y < 6 → i < (yi t y).length → DJ (us y i) tv
  dP : ∀ y i, y < 6 → i < (yi t y).length → DJ (vs y i) pv
theorem OC.ext {g0 gl : Nat} {w w' : World} {F : Nat → Value} {us vs : Nat → Nat → Value} {t : Tab} {fv mv : Value} {bed : Int} {new : Bool} {tv pv : Value} {th : List Nm} {pa : List Ps} (h : OC g0 gl w F us vs t fv mv bed new tv pv th pa) (x : Ext w w') : OC g0 gl w' F us vs t fv mv bed new tv pv th pa :=
  ⟨h.box.ext x, h.b, h.hF, own_extk h.th x, own_extk h.pa x, h.dT, h.dU, h.dP⟩
/-- The loop is begun. -/
theorem OC.start {g0 gl : Nat} {w : World} {F : Nat → Value} {us vs : Nat → Nat → Value} {s : TS} {fv mv : Value} (h : OT g0 w F us vs s fv mv) {w' : World} (hgl : gl = w.heap.size) {bed : Int} {new : Bool} (hb : B4 w' gl (.int .u8 bed) (.bool new) (.slice none 0 0) (.slice none 0 0) 46) : OC g0 gl w' F us vs s.t fv mv bed new (.slice none 0 0) (.slice none 0 0) [] [] := by
  have hsz := h.tab.lt
  exact ⟨hb, by omega, fun y hy e => by have := ((h.rows y hy).row.lt gl e).2; omega, own_none _ _ _ _, own_none _ _ _ _, ⟨DJ.nil _, DJ.nil _⟩, fun y i _ _ => (DJ.nil _).symm, fun y i _ _ => (DJ.nil _).symm⟩
/-- Nothing of the table lies in the loop's block. -/
theorem OT.setB {g0 gl : Nat} {w : World} {F : Nat → Value} {us vs : Nat → Nat → Value} {s : TS} {fv mv : Value} (h : OT g0 w F us vs s fv mv) (hb : g0 < gl) (hF : ∀ y, y < 6 → (F y).ownBlock ≠ some gl) {cs : Array Value} (hc : w.heap[gl]? = some (.cells cs 46 (0, 0))) (o : Nat) (x : Value) : OT g0 (w.setCell ⟨gl, o, none⟩ x) F us vs s fv mv :=
  ⟨h.tab.setOther (fun e => by dsimp only at e; omega) x, fun y hy => (h.rows y hy).set (hF y hy) (fun i hi => own_ne_ty ((h.rows y hy).u i hi) hc (by decide)) (fun i hi => own_ne_ty ((h.rows y hy).v i hi) hc (by decide)) x,
    own_set h.free (own_ne_ty h.free hc (by decide)) x, own_set h.made (own_ne_ty h.made hc (by decide)) x, h.dR, h.dU, h.dF, h.dV⟩
theorem B4.put0 {w : World} {b : Nat} {x y z u : Value} {t : TypeId} (h : B4 w b x y z u t) (x' : Value) : B4 (w.setCell ⟨b, 0, none⟩ x') b x' y z u t := by
  unfold B4 at h ⊢
  simp [World.setCell, Array.getElem?_modify, h]
theorem B4.put2 {w : World} {b : Nat} {x y z u : Value} {t : TypeId} (h : B4 w b x y z u t) (z' : Value) : B4 (w.setCell ⟨b, 2, none⟩ z') b x y z' u t := by
  unfold B4 at h ⊢
  simp [World.setCell, Array.getElem?_modify, h]
theorem B4.put3 {w : World} {b : Nat} {x y z u : Value} {t : TypeId} (h : B4 w b x y z u t) (u' : Value) : B4 (w.setCell ⟨b, 3, none⟩ u') b x y z u' t := by
  unfold B4 at h ⊢
  simp [World.setCell, Array.getElem?_modify, h]
/-- Both. -/
structure OA (g0 gl : Nat) (w : World) (F : Nat → Value) (us vs : Nat → Nat → Value) (s : TS) (fv mv : Value) (bed : Int) (new : Bool) (tv pv : Value) (th : List Nm) (pa : List Ps) : Prop where
  t : OT g0 w F us vs s fv mv
  c : OC g0 gl w F us vs s.t fv mv bed new tv pv th pa
theorem OA.ext {g0 gl : Nat} {w w' : World} {F : Nat → Value} {us vs : Nat → Nat → Value} {s : TS} {fv mv : Value} {bed : Int} {new : Bool} {tv pv : Value} {th : List Nm} {pa : List Ps} (h : OA g0 gl w F us vs s fv mv bed new tv pv th pa) (x : Ext w w') : OA g0 gl w' F us vs s fv mv bed new tv pv th pa := ⟨h.t.ext x, h.c.ext x⟩
/-- The bed is set. -/
theorem OA.bed {g0 gl : Nat} {w : World} {F : Nat → Value} {us vs : Nat → Nat → Value} {s : TS} {fv mv : Value} {bed : Int} {new : Bool} {tv pv : Value} {th : List Nm} {pa : List Ps} (h : OA g0 gl w F us vs s fv mv bed new tv pv th pa) (b' : Int) : OA g0 gl (w.setCell ⟨gl, 0, none⟩ (.int .u8 b')) F us vs s fv mv b' new tv pv th pa :=
  ⟨h.t.setB h.c.b h.c.hF h.c.box 0 _, h.c.box.put0 _, h.c.b, h.c.hF, own_set h.c.th (own_b4 h.c.th h.c.box (by decide)) _, own_set h.c.pa (own_b4 h.c.pa h.c.box (by decide)) _, h.c.dT, h.c.dU, h.c.dP⟩
theorem own_ne_grown {w w' : World} {B n k gl : Nat} {e e' : TypeId} {v : Value} {xs : List Value} {cs : Array Value} (h : w.ownsRow B e k v n xs) (hc : w.heap[gl]? = some (.cells cs e' (0, 0))) (he : e ≠ e') (hg : w.grownBy w' v.ownBlock) : w'.heap[gl]? = some (.cells cs e' (0, 0)) := by
  rw [hg.block gl (Array.getElem?_eq_some_iff.1 hc).1 fun e1 => own_ne_ty h hc he e1.symm]; exact hc
/-- The loop goes through one more. -/
theorem OA.thr {g0 gl : Nat} {w w' : World} {F : Nat → Value} {us vs : Nat → Nat → Value} {s : TS} {fv mv : Value} {bed : Int} {new : Bool} {tv pv tv' : Value} {th : List Nm} {pa : List Ps} {a : Nm} (h : OA g0 gl w F us vs s fv mv bed new tv pv th pa)
    (hg : w.grownBy w' tv.ownBlock) (hat : AtB w tv tv') (hn : w'.ownsRow (g0 + 1) 41 2 tv' (th.length + 1) ((th ++ [a]).map Nm.cs).flatten) : OA g0 gl (w'.setCell ⟨gl, 2, none⟩ tv') F us vs s fv mv bed new tv' pv (th ++ [a]) pa := by
  have hbx : B4 w' gl (.int .u8 bed) (.bool new) tv pv 46 := own_ne_grown h.c.th h.c.box (by decide) hg
  have ht : OT g0 w' F us vs s fv mv := h.t.kept hg (fun g e => by have := (h.c.th.lt g e).1; omega) (fun y hy => own_ty (h.t.rows y hy).row h.c.th (by decide)) (fun y i hy hi => h.c.dU y i hy hi) (fun y i hy hi => own_ty ((h.t.rows y hy).v i hi) h.c.th (by decide)) h.c.dT.1.symm h.c.dT.2.symm
  have hp : w'.ownsRow (g0 + 1) 50 4 pv pa.length (pa.map Ps.cs).flatten := own_keep h.c.pa hg (own_ty h.c.pa h.c.th (by decide))
  exact ⟨ht.setB h.c.b h.c.hF hbx 2 _, hbx.put2 _, h.c.b, h.c.hF, by rw [List.length_append, List.length_singleton]; exact own_set hn (own_b4 hn hbx (by decide)) _, own_set hp (own_b4 hp hbx (by decide)) _,
    ⟨(h.c.dT.1.symm.at hat h.t.free).symm, (h.c.dT.2.symm.at hat h.t.made).symm⟩, fun y i hy hi => (h.c.dU y i hy hi).at hat ((h.t.rows y hy).u i hi), h.c.dP⟩
/-- Its yarn has passed one more. -/
theorem OA.pas {g0 gl : Nat} {w w' : World} {F : Nat → Value} {us vs : Nat → Nat → Value} {s : TS} {fv mv : Value} {bed : Int} {new : Bool} {tv pv pv' : Value} {th : List Nm} {pa : List Ps} {a : Ps} (h : OA g0 gl w F us vs s fv mv bed new tv pv th pa)
    (hg : w.grownBy w' pv.ownBlock) (hat : AtB w pv pv') (hn : w'.ownsRow (g0 + 1) 50 4 pv' (pa.length + 1) ((pa ++ [a]).map Ps.cs).flatten) : OA g0 gl (w'.setCell ⟨gl, 3, none⟩ pv') F us vs s fv mv bed new tv pv' th (pa ++ [a]) := by
  have hbx : B4 w' gl (.int .u8 bed) (.bool new) tv pv 46 := own_ne_grown h.c.pa h.c.box (by decide) hg
  have ht : OT g0 w' F us vs s fv mv := h.t.kept hg (fun g e => by have := (h.c.pa.lt g e).1; omega) (fun y hy => own_ty (h.t.rows y hy).row h.c.pa (by decide)) (fun y i hy hi => own_ty ((h.t.rows y hy).u i hi) h.c.pa (by decide)) (fun y i hy hi => h.c.dP y i hy hi) (own_ty h.t.free h.c.pa (by decide)) (own_ty h.t.made h.c.pa (by decide))
  have hp : w'.ownsRow (g0 + 1) 41 2 tv th.length (th.map Nm.cs).flatten := own_keep h.c.th hg (own_ty h.c.th h.c.pa (by decide))
  exact ⟨ht.setB h.c.b h.c.hF hbx 3 _, hbx.put3 _, h.c.b, h.c.hF, own_set hp (own_b4 hp hbx (by decide)) _, by rw [List.length_append, List.length_singleton]; exact own_set hn (own_b4 hn hbx (by decide)) _,
    h.c.dT, h.c.dU, fun y i hy hi => (h.c.dP y i hy hi).at hat ((h.t.rows y hy).v i hi)⟩
/-- The free names have been laid anew. -/
theorem OA.setF {g0 gl : Nat} {w w' : World} {F : Nat → Value} {us vs : Nat → Nat → Value} {t : Tab} {fr md fr' : List Nm} {fv mv fv' : Value} {bed : Int} {new : Bool} {tv pv : Value} {th : List Nm} {pa : List Ps} (h : OA g0 gl w F us vs ⟨t, fr, md⟩ fv mv bed new tv pv th pa)
    (x : Ext w w') (hn : w'.ownsRow w.heap.size 41 2 fv' fr'.length (fr'.map Nm.cs).flatten) : OA g0 gl w' F us vs ⟨t, fr', md⟩ fv' mv bed new tv pv th pa := by
  have hc := h.c.ext x
  exact ⟨h.t.setF x hn, hc.box, hc.b, hc.hF, hc.th, hc.pa, ⟨DJ.new h.c.th fun g hg => (hn.lt g hg).1, hc.dT.2⟩, hc.dU, hc.dP⟩
theorem cL_push {ls : List Lp} {us vs : Nat → Value} {l : Lp} {tv pv : Value} : cL (ls ++ [l]) (upV us ls.length tv) (upV vs ls.length pv) = cL ls us vs ++ [[.int .u8 l.bed, .bool l.new, tv, pv]] := by
  unfold cL
  rw [List.length_append, List.length_singleton, List.range_succ, List.map_append]
  congr 1
  · refine List.map_congr_left fun i hi => ?_
    have hi := List.mem_range.1 hi
    rw [li_app, if_pos hi]
    unfold upV
    rw [if_neg (by omega), if_neg (by omega)]
  · simp only [List.map_cons, List.map_nil]
    rw [li_app, if_neg (by omega), if_pos rfl]
    unfold upV
    rw [if_pos rfl, if_pos rfl]
def upY (f : Nat → Nat → Value) (y n : Nat) (v : Value) : Nat → Nat → Value := fun z => if z = y then upV (f y) n v else f z
/-- The loop is laid behind its row. -/
theorem OA.push {g0 gl : Nat} {w w' : World} {F : Nat → Value} {us vs : Nat → Nat → Value} {t : Tab} {fr md : List Nm} {fv mv rv : Value} {l : Lp} {tv pv : Value} (h : OA g0 gl w F us vs ⟨t, fr, md⟩ fv mv l.bed l.new tv pv l.thr l.past) {y : Nat} (hy : y < 6) (h6 : t.length = 6)
    (hg : w.grownBy w' (F y).ownBlock) (hat : AtB w (F y) rv) (hn : w'.ownsRow (g0 + 1) 46 4 rv ((yi t y).length + 1) (cL (yi t y) (us y) (vs y) ++ [[.int .u8 l.bed, .bool l.new, tv, pv]]).flatten) :
    OT g0 (w'.setCell ⟨g0, y, none⟩ rv) (upV F y rv) (upY us y (yi t y).length tv) (upY vs y (yi t y).length pv) ⟨t.set y (yi t y ++ [l]), fr, md⟩ fv mv := by
  have hT := h.t
  have hC := h.c
  have hR := (hT.rows y hy).row
  have htab : w'.rowIs g0 47 6 F := hT.tab.of_block (hg.block g0 hT.tab.lt fun e => by have := (hR.lt g0 e.symm).1; omega)
  have o0 : ∀ {k n : Nat} {e : TypeId} {v : Value} {xs : List Value}, w'.ownsRow (g0 + 1) e k v n xs → v.ownBlock ≠ some g0 := fun ho e => by have := (ho.lt g0 e).1; omega
  have hyi : ∀ z, yi (t.set y (yi t y ++ [l])) z = if z = y then yi t y ++ [l] else yi t z := fun z => yi_set _ (by rw [h6]; exact hy)
  have hF' : ∀ z, upV F y rv z = if z = y then rv else F z := fun z => rfl
  have hU : ∀ z i, z < 6 → i < (yi t z).length → w'.ownsRow (g0 + 1) 41 2 (us z i) (li (yi t z) i).thr.length ((li (yi t z) i).thr.map Nm.cs).flatten := fun z i hz hi => own_keep ((hT.rows z hz).u i hi) hg (own_ty ((hT.rows z hz).u i hi) hR (by decide))
  have hV : ∀ z i, z < 6 → i < (yi t z).length → w'.ownsRow (g0 + 1) 50 4 (vs z i) (li (yi t z) i).past.length ((li (yi t z) i).past.map Ps.cs).flatten := fun z i hz hi => own_keep ((hT.rows z hz).v i hi) hg (own_ty ((hT.rows z hz).v i hi) hR (by decide))
  have hth : w'.ownsRow (g0 + 1) 41 2 tv l.thr.length (l.thr.map Nm.cs).flatten := own_keep hC.th hg (own_ty hC.th hR (by decide))
  have hpa : w'.ownsRow (g0 + 1) 50 4 pv l.past.length (l.past.map Ps.cs).flatten := own_keep hC.pa hg (own_ty hC.pa hR (by decide))
  have hfr : w'.ownsRow (g0 + 1) 41 2 fv fr.length (fr.map Nm.cs).flatten := own_keep hT.free hg (own_ty hT.free hR (by decide))
  have hmd : w'.ownsRow (g0 + 1) 41 2 mv md.length (md.map Nm.cs).flatten := own_keep hT.made hg (own_ty hT.made hR (by decide))
  have hlen : ∀ z i, i < (yi (t.set y (yi t y ++ [l])) z).length → (z = y ∧ i = (yi t y).length) ∨ i < (yi t z).length := fun z i hi => by
    rw [hyi] at hi
    by_cases e : z = y
    · subst e
      rw [if_pos rfl, List.length_append, List.length_singleton] at hi
      rcases Nat.lt_or_ge i (yi t z).length with h1 | h1
      · exact .inr h1
      · exact .inl ⟨rfl, by omega⟩
    · rw [if_neg e] at hi; exact .inr hi
  have huo : ∀ (f : Nat → Nat → Value) (v : Value) z i, i < (yi t z).length → upY f y (yi t y).length v z i = f z i := fun f v z i hi => by
    unfold upY
    by_cases e : z = y
    · subst e; rw [if_pos rfl]; unfold upV; rw [if_neg (by omega)]
    · rw [if_neg e]
  have hun : ∀ (f : Nat → Nat → Value) (v : Value), upY f y (yi t y).length v y (yi t y).length = v := fun f v => by unfold upY upV; rw [if_pos rfl, if_pos rfl]
  refine ⟨htab.set y _, fun z hz => ?_, own_set hfr (o0 hfr) _, own_set hmd (o0 hmd) _, fun a b ha hb hab => ?_, fun z i hz hi => ?_, hT.dF, fun a i b j ha hb hi hj hab => ?_⟩
  · dsimp only
    rw [hyi, hF']
    by_cases e : z = y
    · subst e
      rw [if_pos rfl, if_pos rfl]
      have e1 : upY us z (yi t z).length tv z = upV (us z) (yi t z).length tv := by unfold upY; rw [if_pos rfl]
      have e2 : upY vs z (yi t z).length pv z = upV (vs z) (yi t z).length pv := by unfold upY; rw [if_pos rfl]
      rw [e1, e2]
      refine ⟨?_, fun i hi => ?_, fun i hi => ?_⟩
      · rw [cL_push, List.length_append, List.length_singleton]; exact own_set hn (o0 hn) _
      · rw [li_app]
        rw [List.length_append, List.length_singleton] at hi
        by_cases h1 : i < (yi t z).length
        · rw [if_pos h1]; unfold upV; rw [if_neg (by omega)]; exact own_set (hU z i hz h1) (o0 (hU z i hz h1)) _
        · obtain rfl : i = (yi t z).length := by omega
          rw [if_neg h1, if_pos rfl]; unfold upV; rw [if_pos rfl]; exact own_set hth (o0 hth) _
      · rw [li_app]
        rw [List.length_append, List.length_singleton] at hi
        by_cases h1 : i < (yi t z).length
        · rw [if_pos h1]; unfold upV; rw [if_neg (by omega)]; exact own_set (hV z i hz h1) (o0 (hV z i hz h1)) _
        · obtain rfl : i = (yi t z).length := by omega
          rw [if_neg h1, if_pos rfl]; unfold upV; rw [if_pos rfl]; exact own_set hpa (o0 hpa) _
    · rw [if_neg e, if_neg e]
      have e1 : upY us y (yi t y).length tv z = us z := by unfold upY; rw [if_neg e]
      have e2 : upY vs y (yi t y).length pv z = vs z := by unfold upY; rw [if_neg e]
      rw [e1, e2]
      have hr := own_keep (hT.rows z hz).row hg (hT.dR z y hz hy e)
      exact ⟨own_set hr (o0 hr) _, fun i hi => own_set (hU z i hz hi) (o0 (hU z i hz hi)) _, fun i hi => own_set (hV z i hz hi) (o0 (hV z i hz hi)) _⟩
  · rw [hF', hF']
    by_cases e1 : a = y
    · subst e1
      rw [if_pos rfl, if_neg (Ne.symm hab)]
      exact ((hT.dR b a hb ha (Ne.symm hab)).at hat (hT.rows b hb).row).symm
    · rw [if_neg e1]
      by_cases e2 : b = y
      · subst e2; rw [if_pos rfl]; exact (hT.dR a b ha hb hab).at hat (hT.rows a ha).row
      · rw [if_neg e2]; exact hT.dR a b ha hb hab
  · rcases hlen z i hi with ⟨rfl, rfl⟩ | h1
    · rw [hun]; exact hC.dT
    · rw [huo _ _ _ _ h1]; exact hT.dU z i hz h1
  · rcases hlen a i hi with ⟨rfl, rfl⟩ | h1
    · rw [hun]
      rcases hlen b j hj with ⟨rfl, rfl⟩ | h2
      · rcases hab with h | h <;> exact absurd rfl h
      · rw [huo _ _ _ _ h2]; exact (hC.dP b j hb h2).symm
    · rw [huo _ _ _ _ h1]
      rcases hlen b j hj with ⟨rfl, rfl⟩ | h2
      · rw [hun]; exact hC.dP a i ha h1
      · rw [huo _ _ _ _ h2]; exact hT.dV a i b j ha hb h1 h2 hab
/-- At the start. -/
theorem OT.init {g0 : Nat} {w : World} (h : w.rowIs g0 47 6 (fun _ => .slice none 0 0)) : OT g0 w (fun _ => .slice none 0 0) (fun _ _ => .slice none 0 0) (fun _ _ => .slice none 0 0) initT (.slice none 0 0) (.slice none 0 0) := by
  have hy : ∀ y, yi initT.t y = [] := fun y => by
    rcases Nat.lt_or_ge y 6 with h | h
    · rcases (show y = 0 ∨ y = 1 ∨ y = 2 ∨ y = 3 ∨ y = 4 ∨ y = 5 by omega) with rfl | rfl | rfl | rfl | rfl | rfl <;> rfl
    · exact yi_end h
  refine ⟨h, fun y _ => ?_, own_none _ _ _ _, own_none _ _ _ _, fun _ _ _ _ _ => DJ.nil _, fun _ _ _ _ => ⟨DJ.nil _, DJ.nil _⟩, DJ.nil _, fun _ _ _ _ _ _ _ _ _ => DJ.nil _⟩
  rw [hy]
  exact ⟨own_none _ _ _ _, fun i hi => by simp at hi, fun i hi => by simp at hi⟩
/-- It is a table. -/
theorem OT.tb {g0 : Nat} {w : World} {F : Nat → Value} {us vs : Nat → Nat → Value} {s : TS} {fv mv : Value} (h : OT g0 w F us vs s fv mv) (h6 : s.t.length = 6) : TB w (.slice (some ⟨g0, 0, none⟩) 6 6) 6 s.t := by
  refine ⟨F, ⟨_, by rw [List.length_map, List.length_range, h6], by simp [h6], by omega, .inr ⟨g0, 0, rfl, fun i hi => ?_⟩⟩, fun i hi => ?_⟩
  · have hi' : i < 6 := by simpa [h6] using hi
    intro j hj
    have e1 : ((List.range s.t.length).map fun i => [F i]).getD i [] = [F i] := by simp [List.getD, show i < s.t.length by omega]
    rw [e1] at hj ⊢
    obtain rfl : j = 0 := by simp at hj; omega
    have := h.tab.cell hi'
    simpa using this
  · exact (h.rows i (by omega)).to
theorem OT.nl {g0 : Nat} {w : World} {F : Nat → Value} {us vs : Nat → Nat → Value} {s : TS} {fv mv : Value} (h : OT g0 w F us vs s fv mv) : ∃ c, NL w mv c s.made := CK.of_own h.made (Ks.nm _) (by simp) (by decide)
end Go.Proofs.YtlhkehfplcclgaaDoor
/- Plain data of a table, in memory; the steps of Of's inner loops. -/
namespace Go.Proofs.YtlhkehfplcclgaaDoor
set_option linter.unusedVariables false
set_option linter.unusedSimpArgs false
set_option maxRecDepth 8000
open Go Go.RowKit

def LD.zero : LD := ⟨0, false, false, [], []⟩
def ldi (xs : List LD) (i : Nat) : LD := xs.getD i LD.zero
theorem ldi_of {l : List LD} {i : Nat} (h : i < l.length) : ldi l i = l[i] := by unfold ldi; simp [List.getD, h]
theorem ldi_mem {l : List LD} {i : Nat} (h : i < l.length) : ldi l i ∈ l := by rw [ldi_of h]; exact List.getElem_mem h
def LD.In (x : LD) : Prop := (0 ≤ x.y ∧ x.y ≤ 255) ∧ (∀ i, i < x.thr.length → 0 ≤ gi x.thr i ∧ gi x.thr i ≤ 255) ∧ ∀ i, i < x.past.length → 0 ≤ gi x.past i ∧ gi x.past i ≤ 255
def LI (w : World) (v : Value) (c : Nat) (xs : List LD) : Prop :=
  ∃ us vs : Nat → Value, CK 5 w v c ((List.range xs.length).map fun i => [.int .u8 (ldi xs i).y, .bool (ldi xs i).back, .bool (ldi xs i).new, us i, vs i]) ∧
    ∀ i, i < xs.length → (∃ d, IS .u8 w (us i) d (ldi xs i).thr) ∧ ∃ d, IS .u8 w (vs i) d (ldi xs i).past
theorem LI.ext {w w' : World} {v : Value} {c : Nat} {xs : List LD} (h : LI w v c xs) (x : Ext w w') : LI w' v c xs := by
  obtain ⟨us, vs, h1, h2⟩ := h
  refine ⟨us, vs, h1.ext x, fun i hi => ?_⟩
  obtain ⟨⟨d, h3⟩, e, h4⟩ := h2 i hi
  exact ⟨⟨d, h3.ext x⟩, e, h4.ext x⟩
theorem IS.atD {k : IntKind} {w : World} {v : Value} {c : Nat} {xs : List Int} (h : IS k w v c xs) : ∃ ao n, v = .slice ao n c ∧ n = xs.length ∧ n ≤ c ∧ ∀ i, i < n → ∃ b o, ao = some ⟨b, o, none⟩ ∧ w.cell? ⟨b, o + i, none⟩ = some (.int k (gi xs i)) := by
  obtain ⟨h1, h2, ao, h3, h4⟩ := h.open
  refine ⟨ao, _, h3, rfl, h1, fun i hi => ?_⟩
  rcases h4 with h4 | ⟨b, o, h5, h6⟩
  · omega
  · exact ⟨b, o, h5, h6 i hi⟩
/-- The five cells of a loop as plain data. -/
def AtD (w : World) (b o : Nat) (l : LD) (u v : Value) : Prop := w.cell? ⟨b, o, none⟩ = some (.int .u8 l.y) ∧ w.cell? ⟨b, o + 1, none⟩ = some (.bool l.back) ∧ w.cell? ⟨b, o + 2, none⟩ = some (.bool l.new) ∧ w.cell? ⟨b, o + 3, none⟩ = some u ∧ w.cell? ⟨b, o + 4, none⟩ = some v
theorem AtD.ext {w w' : World} {b o : Nat} {l : LD} {u v : Value} (h : AtD w b o l u v) (x : Ext w w') : AtD w' b o l u v := ⟨x.cell h.1, x.cell h.2.1, x.cell h.2.2.1, x.cell h.2.2.2.1, x.cell h.2.2.2.2⟩
/-- The numbers behind a slice. -/
def BA (w : World) (ao : Option Addr) (n : Nat) (xs : List Int) : Prop := n = xs.length ∧ ∀ i, i < n → ∃ b o, ao = some ⟨b, o, none⟩ ∧ w.cell? ⟨b, o + i, none⟩ = some (.int .u8 (gi xs i))
theorem LI.open {w : World} {v : Value} {c : Nat} {l : List LD} (h : LI w v c l) : ∃ ao n, v = .slice ao n c ∧ n = l.length ∧ n ≤ c ∧ c ≤ 9223372036854775807 ∧
    ∀ i, i < n → ∃ b o a1 n1 d1 a2 n2 d2, ao = some ⟨b, o, none⟩ ∧ AtD w b (o + i * 5) (ldi l i) (.slice a1 n1 d1) (.slice a2 n2 d2) ∧ BA w a1 n1 (ldi l i).thr ∧ BA w a2 n2 (ldi l i).past := by
  obtain ⟨us, vs, h1, h2⟩ := h
  obtain ⟨ao, h3, h4, h5, h6⟩ := h1.op
  rw [List.length_map, List.length_range] at h3 h4 h6
  refine ⟨ao, _, h3, rfl, h4, h5, fun i hi => ?_⟩
  obtain ⟨b, o, h7, h8⟩ := h6 i hi
  obtain ⟨⟨d, h9⟩, e, h10⟩ := h2 i hi
  have hg : ((List.range l.length).map fun i => [Value.int .u8 (ldi l i).y, Value.bool (ldi l i).back, .bool (ldi l i).new, us i, vs i]).getD i [] = [.int .u8 (ldi l i).y, .bool (ldi l i).back, .bool (ldi l i).new, us i, vs i] := by
    simp [List.getD, hi]
  rw [hg] at h8
  obtain ⟨a1, n1, e1, e2, _, e5⟩ := h9.atD
  obtain ⟨a2, n2, e3, e4, _, e6⟩ := h10.atD
  refine ⟨b, o, a1, n1, d, a2, n2, e, h7, ⟨h8 0 (by simp), h8 1 (by simp), h8 2 (by simp), ?_, ?_⟩, ⟨e2, e5⟩, e4, e6⟩
  · have := h8 3 (by simp); rw [← e1]; exact this
  · have := h8 4 (by simp); rw [← e3]; exact this

theorem gid_drop {l : List Int} {k : Nat} (h : k < l.length) : l.drop k = gi l k :: l.drop (k + 1) := by
  have := gi_some h
  rw [List.drop_eq_getElem_cons h]
  rw [List.getElem?_eq_getElem h] at this
  rw [Option.some.inj this]
theorem gid_take {l : List Int} {m k : Nat} (h : k < m) : gi (l.take m) k = gi l k := by unfold gi; simp [List.getD, List.getElem?_take_of_lt h]
/-- A round of the loop over what is gone through. -/
structure ThrR (ks : List Int) (fr0 : List Nm) (k : Nat) (th fr : List Nm) : Prop where
  a : th ++ (thrL (ks.drop k) fr).1 = (thrL ks fr0).1
  b : (thrL (ks.drop k) fr).2 = (thrL ks fr0).2
theorem ThrR.start (ks : List Int) (fr0 : List Nm) : ThrR ks fr0 0 [] fr0 := ⟨rfl, rfl⟩
theorem ThrR.step {ks : List Int} {fr0 : List Nm} {k : Nat} {th fr : List Nm} (h : ThrR ks fr0 k th fr) (hk : k < ks.length) (hf : fr ≠ []) : ThrR ks fr0 (k + 1) (th ++ [ni fr ((gi ks k).toNat % fr.length)]) (fr.take ((gi ks k).toNat % fr.length) ++ fr.drop ((gi ks k).toNat % fr.length + 1)) := by
  obtain ⟨h1, h2⟩ := h
  rw [gid_drop hk, thrL, if_neg hf] at h1 h2
  exact ⟨by rw [← h1, List.append_assoc]; rfl, h2⟩
theorem ThrR.done {ks : List Int} {fr0 : List Nm} {k : Nat} {th fr : List Nm} (h : ThrR ks fr0 k th fr) (hk : ks.length ≤ k ∨ fr = []) : th = (thrL ks fr0).1 ∧ fr = (thrL ks fr0).2 := by
  obtain ⟨h1, h2⟩ := h
  have e : thrL (ks.drop k) fr = ([], fr) := by
    rcases hk with hk | rfl
    · rw [List.drop_eq_nil_of_le hk]; rfl
    · cases ks.drop k with
      | nil => rfl
      | cons a l => rw [thrL, if_pos rfl]
  rw [e] at h1 h2
  exact ⟨by rw [← h1, List.append_nil], h2⟩
theorem pastL_len (ks : List Int) (made : List Nm) (d : Int) : (pastL ks made d).length = if made = [] then 0 else ks.length := by
  unfold pastL; split <;> simp
theorem pastL_take {ks : List Int} {made : List Nm} {d : Int} {k : Nat} (hk : k < ks.length) (hm : made ≠ []) : (pastL ks made d).take (k + 1) = (pastL ks made d).take k ++ [pasO made d (gi ks k)] := by
  have hl : k < (pastL ks made d).length := by rw [pastL_len, if_neg hm]; exact hk
  rw [List.take_succ_eq_append_getElem hl]
  congr 2
  have := gi_some hk
  rw [List.getElem?_eq_getElem hk] at this
  have e : pastL ks made d = ks.map (pasO made d) := by unfold pastL; rw [if_neg hm]
  simp only [e, List.getElem_map, Option.some.inj this]
/-- append([]T{}, s[:n]...), s[n+1:]... -/
theorem len_cut {α : Type} (l : List α) (n : Nat) (h : n < l.length) : (l.take n ++ l.drop (n + 1)).length = l.length - 1 := by
  rw [List.length_append, List.length_take, List.length_drop]; omega
theorem stepT_made (s : TS) (x : LD) : (stepT s x).made.length = s.made.length + 1 := by unfold stepT; simp
theorem stepT_free (s : TS) (x : LD) : (stepT s x).free.length ≤ s.free.length + 1 := by
  have h := (thrL_perm (x.thr.take 4) s.free).length_eq
  rw [List.length_append] at h
  unfold stepT
  dsimp only
  rw [List.length_append, List.length_singleton]; omega
theorem fold_bd : ∀ (xs : List LD) (s : TS), (xs.foldl stepT s).free.length ≤ s.free.length + xs.length
  | [], s => Nat.le_refl _
  | x :: xs, s => by
    have h1 := fold_bd xs (stepT s x)
    have h2 := stepT_free s x
    rw [List.foldl_cons, List.length_cons]; omega
theorem row_len {t : Tab} {z : Nat} (hz : z < t.length) : ((yi t z).length : Int) ≤ cntT t := by
  have h2 := cntT_take hz
  have h3 : cntT (t.take (z + 1)) ≤ cntT t := by
    unfold cntT
    have : t = t.take (z + 1) ++ t.drop (z + 1) := by simp
    conv => rhs; rw [this]
    rw [List.map_append, List.sum_append]; omega
  have h4 : 0 ≤ cntT (t.take z) := by unfold cntT; omega
  omega
/-- What the first k loops have made. -/
structure TBd (s : TS) (k : Nat) : Prop where
  inv : TInv s
  m : s.made.length = k
  f : s.free.length ≤ k
  r : ∀ y, y < 6 → (yi s.t y).length ≤ k
theorem TBd.of (xs : List LD) {k : Nat} (hk : k ≤ xs.length) (h60 : k ≤ 60) : TBd ((xs.take k).foldl stepT initT) k := by
  have hl : (xs.take k).length = k := by rw [List.length_take]; omega
  have h1 := TInv.fold TInv.init (xs.take k) (by show 0 + _ ≤ 60; omega)
  have hm : ((xs.take k).foldl stepT initT).made.length = k := by rw [h1.2, hl]; exact Nat.zero_add _
  have hf := fold_bd (xs.take k) initT
  rw [hl] at hf
  refine ⟨h1.1, hm, by have : initT.free.length = 0 := rfl; omega, fun y hy => ?_⟩
  have := row_len (t := ((xs.take k).foldl stepT initT).t) (z := y) (by rw [h1.1.l6]; exact hy)
  rw [h1.1.cnt, hm] at this; omega
theorem fold_take {xs : List LD} {k : Nat} (h : k < xs.length) (s : TS) : (xs.take (k + 1)).foldl stepT s = stepT ((xs.take k).foldl stepT s) (ldi xs k) := by
  rw [List.take_succ_eq_append_getElem h, List.foldl_append, ldi_of h]; rfl
theorem own_at2 {w : World} {B n c : Nat} {ao : Option Addr} {l : List Nm} (h : w.ownsRow B 41 2 (.slice ao n c) n (l.map Nm.cs).flatten) (hn : n = l.length) {i : Nat} (hi : i < n) : ∃ b o, ao = some ⟨b, o, none⟩ ∧ At2 w b (o + i * 2) (ni l i) := by
  obtain ⟨c', hc⟩ := CK.of_own h (Ks.nm l) (by rw [List.length_map, hn]) (by decide)
  obtain ⟨ao', n', e, _, _, _, h1⟩ := NL.open hc
  have e2 := Value.slice.inj e
  rw [e2.1]
  exact h1 i (by omega)
theorem own_ck {w : World} {B n c : Nat} {ao : Option Addr} {l : List Nm} (h : w.ownsRow B 41 2 (.slice ao n c) n (l.map Nm.cs).flatten) (hn : n = l.length) : CK 2 w (.slice ao n c) c (l.map Nm.cs) := by
  obtain ⟨c', hc⟩ := CK.of_own h (Ks.nm l) (by rw [List.length_map, hn]) (by decide)
  obtain ⟨ao', n', e, _⟩ := NL.open hc
  have e2 := Value.slice.inj e
  rw [e2.2.2]
  rw [e2.2.2] at hc
  exact hc
theorem own_blk {w : World} {B n k b o c : Nat} {e : TypeId} {xs : List Value} (h : w.ownsRow B e k (.slice (some ⟨b, o, none⟩) n c) n xs) (hn : 0 < n) : Value.ownBlock (.slice (some ⟨b, o, none⟩) n c) = some b := by
  obtain ⟨g, cap, e, _⟩ := h.form hn
  cases e; rfl
/-- The same slices and cells behind an append to what the loop goes through, and behind one to what its yarn has passed. -/
theorem OA.thrK {g0 gl : Nat} {w w' : World} {F : Nat → Value} {us vs : Nat → Nat → Value} {s : TS} {fv mv : Value} {bed : Int} {new : Bool} {tv pv : Value} {th : List Nm} {pa : List Ps} (h : OA g0 gl w F us vs s fv mv bed new tv pv th pa)
    (hg : w.grownBy w' tv.ownBlock) : B4 w' gl (.int .u8 bed) (.bool new) tv pv 46 ∧ w'.ownsRow (g0 + 1) 41 2 fv s.free.length (s.free.map Nm.cs).flatten ∧ w'.ownsRow (g0 + 1) 41 2 mv s.made.length (s.made.map Nm.cs).flatten :=
  ⟨own_ne_grown h.c.th h.c.box (by decide) hg, own_keep h.t.free hg h.c.dT.1.symm, own_keep h.t.made hg h.c.dT.2.symm⟩
theorem OA.pasK {g0 gl : Nat} {w w' : World} {F : Nat → Value} {us vs : Nat → Nat → Value} {s : TS} {fv mv : Value} {bed : Int} {new : Bool} {tv pv : Value} {th : List Nm} {pa : List Ps} (h : OA g0 gl w F us vs s fv mv bed new tv pv th pa)
    (hg : w.grownBy w' pv.ownBlock) : B4 w' gl (.int .u8 bed) (.bool new) tv pv 46 ∧ w'.ownsRow (g0 + 1) 41 2 fv s.free.length (s.free.map Nm.cs).flatten ∧ w'.ownsRow (g0 + 1) 41 2 mv s.made.length (s.made.map Nm.cs).flatten :=
  ⟨own_ne_grown h.c.pa h.c.box (by decide) hg, own_keep h.t.free hg (own_ty h.t.free h.c.pa (by decide)), own_keep h.t.made hg (own_ty h.t.made h.c.pa (by decide))⟩
end Go.Proofs.YtlhkehfplcclgaaDoor
/- Names ascending: sorted. -/
namespace Go.Proofs.YtlhkehfplcclgaaDoor
set_option linter.unusedVariables false
set_option linter.unusedSimpArgs false
set_option maxRecDepth 8000
open Go Go.RowKit

/-- A cell of one's own row is set. -/
theorem own_setAt {w : World} {B k n g c o : Nat} {e : TypeId} {xs : List Value} (h : w.ownsRow B e k (.slice (some ⟨g, 0, none⟩) n c) n xs) (ho : o < xs.length) (u : Value) : (w.setCell ⟨g, o, none⟩ u).ownsRow B e k (.slice (some ⟨g, 0, none⟩) n c) n (xs.set o u) := by
  obtain ⟨h1, h2 | ⟨g', cap, cur, h3, h4, h5, h6, h7, h8, h9⟩⟩ := h
  · cases h2.1
  · cases h3
    refine ⟨by rw [List.length_set]; exact h1, .inr ⟨g, c, cur.setIfInBounds o u, rfl, h4, ?_, h6, h7, by simpa using h8, ?_⟩⟩
    · simp [World.setCell, Array.getElem?_modify, h5]
    · rw [Array.toList_setIfInBounds, List.take_set, h9]
theorem cs_set (l : List Nm) (i : Nat) (a : Nm) (hi : i < l.length) : (((l.map Nm.cs).flatten.set (i * 2) (.int .u8 a.y)).set (i * 2 + 1) (.int .i64 a.n)) = ((l.set i a).map Nm.cs).flatten := by
  induction l generalizing i with
  | nil => simp at hi
  | cons b l ih =>
    cases i with
    | zero => simp [Nm.cs]
    | succ i =>
      have := ih i (by simpa using hi)
      rw [show (i + 1) * 2 = i * 2 + 1 + 1 by omega]
      simpa [Nm.cs] using this
/-- The exchange of two neighbours. -/
def swp (l : List Nm) (k : Nat) : List Nm := (l.set k (ni l (k - 1))).set (k - 1) (ni l k)
theorem swp_len (l : List Nm) (k : Nat) : (swp l k).length = l.length := by unfold swp; simp
theorem swp_at {l : List Nm} {k j : Nat} (h0 : 0 < k) (hk : k < l.length) : ni (swp l k) j = if j = k - 1 then ni l k else if j = k then ni l (k - 1) else ni l j := by
  unfold swp ni
  by_cases h1 : j = k - 1
  · rw [if_pos h1]; subst h1; simp [List.getD, show k - 1 < l.length by omega, hk]
  · rw [if_neg h1]
    by_cases h2 : j = k
    · rw [if_pos h2]; subst h2; simp [List.getD, List.getElem?_set, hk, show ¬ (j - 1 = j) by omega, show j - 1 < l.length by omega]
    · rw [if_neg h2]; simp [List.getD, List.getElem?_set, Ne.symm h1, Ne.symm h2]
theorem swp_perm {l : List Nm} {k : Nat} (h0 : 0 < k) (hk : k < l.length) : (swp l k).Perm l := by
  obtain ⟨m, rfl⟩ : ∃ m, k = m + 1 := ⟨k - 1, by omega⟩
  have e : l = l.take m ++ l[m] :: l[m + 1] :: l.drop (m + 2) := by
    rw [List.getElem_cons_drop, List.getElem_cons_drop, List.take_append_drop]
  have hn1 : ni l m = l[m] := ni_of (by omega)
  have hn2 : ni l (m + 1) = l[m + 1] := ni_of hk
  have hl : (l.take m).length = m := by rw [List.length_take]; omega
  have e2 : swp l (m + 1) = l.take m ++ l[m + 1] :: l[m] :: l.drop (m + 2) := by
    unfold swp
    rw [Nat.add_sub_cancel, hn1, hn2]
    refine List.ext_getElem? fun j => ?_
    rw [List.getElem?_set, List.getElem?_set, List.length_set]
    by_cases h1 : m = j
    · subst h1
      rw [if_pos rfl, if_pos (by omega), List.getElem?_append_right (by omega), hl]; simp
    · rw [if_neg h1]
      by_cases h2 : m + 1 = j
      · subst h2
        rw [if_pos rfl, if_pos hk, List.getElem?_append_right (by omega), hl, show m + 1 - m = 0 + 1 by omega]; simp
      · rw [if_neg h2]
        conv => lhs; rw [e]
        rcases Nat.lt_or_ge j m with h3 | h3
        · rw [List.getElem?_append_left (by omega), List.getElem?_append_left (by omega)]
        · rw [List.getElem?_append_right (by omega), List.getElem?_append_right (by omega), hl, show j - m = (j - m - 2) + 1 + 1 by omega]; simp; congr 1; omega
  rw [e2]
  conv => rhs; rw [e]
  exact List.Perm.append_left _ (List.Perm.swap _ _ _)
/-- The first i + 1 are ascending, but for the one at k. -/
def SrI (l : List Nm) (i k : Nat) : Prop := ∀ p q, p < q → q ≤ i → q ≠ k → ¬ ltN (ni l q) (ni l p)
theorem not_lt_trans {a b c : Nm} (h : ¬ ltN b a) (k : ¬ ltN c b) : ¬ ltN c a := by unfold ltN at *; omega
theorem SrI.swap {l : List Nm} {i k : Nat} (h : SrI l i k) (h0 : 0 < k) (hk : k ≤ i) (hi : i < l.length) (hlt : ltN (ni l k) (ni l (k - 1))) : SrI (swp l k) i (k - 1) := fun p q hpq hqi hqk => by
  have hl : ¬ ltN (ni l (k - 1)) (ni l k) := fun e => ltN_irr (ltN_trans e hlt)
  rw [swp_at h0 (by omega), swp_at h0 (by omega), if_neg hqk]
  by_cases e1 : q = k
  · subst e1
    rw [if_pos rfl]
    by_cases e2 : p = q - 1
    · rw [if_pos e2]; exact hl
    · rw [if_neg e2, if_neg (by omega)]; exact h p (q - 1) (by omega) (by omega) (by omega)
  · rw [if_neg e1]
    by_cases e2 : p = k - 1
    · rw [if_pos e2]; exact h k q (by omega) hqi e1
    · rw [if_neg e2]
      by_cases e3 : p = k
      · rw [if_pos e3]; exact h (k - 1) q (by omega) hqi e1
      · rw [if_neg e3]; exact h p q hpq hqi e1
theorem SrI.done {l : List Nm} {i k : Nat} (h : SrI l i k) (hk : k = 0 ∨ ¬ ltN (ni l k) (ni l (k - 1))) : ∀ p q, p < q → q ≤ i → ¬ ltN (ni l q) (ni l p) := fun p q hpq hqi => by
  by_cases e : q = k
  · subst e
    rcases hk with hk | hk
    · omega
    · by_cases e2 : p = q - 1
      · rw [e2]; exact hk
      · exact not_lt_trans (h p (q - 1) (by omega) (by omega) (by omega)) hk
  · exact h p q hpq hqi e
end Go.Proofs.YtlhkehfplcclgaaDoor
