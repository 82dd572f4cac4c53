/- Texts of this claim in one file: libraries and walks. -/
import Derived.Test.YtlhkehfplcclgaaDoorMCheck1
import Derived.Test.YtlhkehfplcclgaaDoorMCheck2
/- The law FabricsSame: what each change leaves, in memory. -/
namespace Go.Proofs.YtlhkehfplcclgaaDoor
set_option linter.unusedVariables false
set_option linter.unusedSimpArgs false
set_option maxRecDepth 8000
open Go Go.RowKit

/-- What the switch leaves: the fabric's box, a fabric that may be valid, and whether it differs. -/
def PostS (w : World) (gb : Nat) (f : Fab) (c : Value) (wx : World) : Prop := ∃ t1 t2 t3 c1 c2 c3 h1 h2 h3 f1 f2 f3 g D, c = .bool D ∧ B4 wx gb (.slice t1 t2 t3) (.slice c1 c2 c3) (.slice h1 h2 h3) (.slice f1 f2 f3) 35 ∧ FB wx (.slice t1 t2 t3) (.slice c1 c2 c3) (.slice h1 h2 h3) (.slice f1 f2 f3) g ∧ FIn g ∧ OKT g.ys ∧ g.ys.length = 6 ∧ decide (f = g) = !D ∧ Ext w wx
theorem PostS.of {w wx : World} {gb : Nat} {t1 c1 h1 f1 : Option Addr} {t2 t3 c2 c3 h2 h3 f2 f3 : Nat} {f : Fab} (g : Fab) (D : Bool) (a : B4 wx gb (.slice t1 t2 t3) (.slice c1 c2 c3) (.slice h1 h2 h3) (.slice f1 f2 f3) 35) (b : FB wx (.slice t1 t2 t3) (.slice c1 c2 c3) (.slice h1 h2 h3) (.slice f1 f2 f3) g) (d : FIn g) (e : OKT g.ys) (e0 : g.ys.length = 6) (k : decide (f = g) = !D) (x : Ext w wx) : PostS w gb f (.bool D) wx := ⟨_, _, _, _, _, _, _, _, _, _, _, _, g, D, rfl, a, b, d, e, e0, k, x⟩
theorem cells_fz {w : World} {B k n g c : Nat} {e : TypeId} {m : Nat} {xs : List Value} (h : w.ownsRow B e k (.slice (some ⟨g, 0, none⟩) m c) n xs) (o : Nat) : w.frozen? ⟨g, o, none⟩ = false := by
  obtain ⟨_, h2 | ⟨g', cap', cur, h3, h4, h5, h6⟩⟩ := h
  · cases h2.1
  · cases h3; simp [World.frozen?, h5]
theorem own_cell {w : World} {B k n g c o : Nat} {e : TypeId} {m : Nat} {xs : List Value} {v : Value} (h : w.ownsRow B e k (.slice (some ⟨g, 0, none⟩) m c) n xs) (ho : xs[o]? = some v) : w.cell? ⟨g, o, none⟩ = some v := by
  obtain ⟨_, h2 | ⟨g', cap', cur, h3, h4, h5, h6, h7, h8, h9⟩⟩ := h
  · cases h2.1
  · cases h3
    refine cell_blk' h5 ?_
    rw [← h9] at ho
    rw [List.getElem?_take] at ho
    split at ho
    · rw [← Array.getElem?_toList]; exact ho
    · cases ho
theorem PostS.ext {w wx wy : World} {gb : Nat} {f : Fab} {c : Value} (h : PostS w gb f c wx) (x : Ext wx wy) : PostS w gb f c wy := by
  obtain ⟨t1, t2, t3, c1, c2, c3, h1, h2, h3, f1, f2, f3, g, D, rfl, a, b, d, e, e0, k, x0⟩ := h
  exact ⟨t1, t2, t3, c1, c2, c3, h1, h2, h3, f1, f2, f3, g, D, rfl, a.ext x, b.ext x, d, e, e0, k, x0.trans x⟩
theorem ps_cell {w : World} {B k n g c m : Nat} {e : TypeId} {l : List Ps} (h : w.ownsRow B e k (.slice (some ⟨g, 0, none⟩) m c) n (l.map Ps.cs).flatten) (h0 : l ≠ []) : w.cell? ⟨g, 2, none⟩ = some (.bool (qi l 0).f) := own_cell h (by
  obtain ⟨p, r, rfl⟩ := List.exists_cons_of_ne_nil h0
  rfl)
theorem xs_cell {w : World} {B k n g c m : Nat} {e : TypeId} {l : List Xg} (h : w.ownsRow B e k (.slice (some ⟨g, 0, none⟩) m c) n (l.map Xg.cs).flatten) (h0 : l ≠ []) : w.cell? ⟨g, 4, none⟩ = some (.int .i64 (xi l 0).n) := own_cell h (by
  obtain ⟨p, r, rfl⟩ := List.exists_cons_of_ne_nil h0
  rfl)
/-- The second fabric at the switch, in memory of its own (that lies behind W2). -/
structure SwC (W2 w1 w : World) (gb g0 : Nat) (F : Nat → Value) (us vs : Nat → Nat → Value) (s : TS) (lv mv : Value) (ka la fa : Option Addr) (kn kc ln lc fn fc : Nat) (f : Fab) : Prop where
  b : B4 w gb (.slice (some ⟨g0, 0, none⟩) 6 6) (.slice ka kn kc) (.slice la ln lc) (.slice fa fn fc) 35
  o : OT g0 w F us vs s lv mv
  rc : w.ownsRow w1.heap.size 52 5 (.slice ka kn kc) kn (f.cr.map Xg.cs).flatten
  rh : w.ownsRow w1.heap.size 41 2 (.slice la ln lc) ln (f.held.map Nm.cs).flatten
  rf : w.ownsRow w1.heap.size 41 2 (.slice fa fn fc) fn (f.fallen.map Nm.cs).flatten
  d : DJ (.slice la ln lc) (.slice fa fn fc)
  x : Ext W2 w
  ys : f.ys = s.t
  l6 : s.t.length = 6
  ek : kn = f.cr.length
  el : ln = f.held.length
  ef : fn = f.fallen.length
  z1 : w1.heap.size ≤ w.heap.size
  z2 : W2.heap.size ≤ g0
  z3 : g0 < w1.heap.size
  zb : W2.heap.size ≤ gb
  i : FIn f
  ok : OKT f.ys
  nd : f.held.Nodup
  cr : ∀ c ∈ f.cr, c.n ≠ 0 ∧ -30 ≤ c.n ∧ c.n ≤ 30
  bd : ln + fn ≤ 20
/-- The four cells of a loop in a row of one's own. -/
theorem LRo.at4 {N g m c n : Nat} {w : World} {ls : List Lp} {us vs : Nat → Value} (h : LRo N w (.slice (some ⟨g, 0, none⟩) m c) ls us vs) (hn : n < ls.length) :
    w.cell? ⟨g, n * 4, none⟩ = some (.int .u8 (li ls n).bed) ∧ w.cell? ⟨g, n * 4 + 1, none⟩ = some (.bool (li ls n).new) ∧ w.cell? ⟨g, n * 4 + 2, none⟩ = some (us n) ∧ w.cell? ⟨g, n * 4 + 3, none⟩ = some (vs n) := by
  have key : ∀ j v, j < 4 → ([Value.int .u8 (li ls n).bed, .bool (li ls n).new, us n, vs n].getD j undef) = v → w.cell? ⟨g, n * 4 + j, none⟩ = some v := fun j v hj hv => by
    refine own_cell h.row ?_
    have := h.ks.get n j (by rw [cL_len]; exact hn) hj
    rw [this, cL_get hn, hv]
  exact ⟨key 0 _ (by decide) rfl, key 1 _ (by decide) rfl, key 2 _ (by decide) rfl, key 3 _ (by decide) rfl⟩
section
variable {W2 w1 w : World} {gb g0 : Nat} {F : Nat → Value} {us vs : Nat → Nat → Value} {s : TS} {lv mv : Value} {ka la fa : Option Addr} {kn kc ln lc fn fc : Nat} {f : Fab}
theorem SwC.ext {w' : World} (h : SwC W2 w1 w gb g0 F us vs s lv mv ka la fa kn kc ln lc fn fc f) (x : Ext w w') : SwC W2 w1 w' gb g0 F us vs s lv mv ka la fa kn kc ln lc fn fc f :=
  ⟨h.b.ext x, h.o.ext x, own_extk h.rc x, own_extk h.rh x, own_extk h.rf x, h.d, h.x.trans x, h.ys, h.l6, h.ek, h.el, h.ef, Nat.le_trans h.z1 x.size, h.z2, h.z3, h.zb, h.i, h.ok, h.nd, h.cr, h.bd⟩
theorem SwC.tb (h : SwC W2 w1 w gb g0 F us vs s lv mv ka la fa kn kc ln lc fn fc f) : TB w (.slice (some ⟨g0, 0, none⟩) 6 6) 6 f.ys := by rw [h.ys]; exact h.o.tb h.l6
/-- Nothing is changed. -/
theorem SwC.same (h : SwC W2 w1 w gb g0 F us vs s lv mv ka la fa kn kc ln lc fn fc f) : PostS W2 gb f (.bool false) w :=
  PostS.of f false h.b ⟨⟨_, h.tb⟩, own_xl h.rc h.ek, own_nl h.rh h.el, own_nl h.rf h.ef⟩ h.i h.ok (by rw [h.ys, h.l6]) (by simp) h.x
/-- A loop is changed. -/
theorem SwC.loop {y n blk off : Nat} {l' : Lp} {v : Value} (h : SwC W2 w1 w gb g0 F us vs s lv mv ka la fa kn kc ln lc fn fc f) (hy : y < 6) (hn : n < (yi s.t y).length) (hb : W2.heap.size ≤ blk) (hbb : gb ≠ blk)
    (hc : (Value.slice ka kn kc).ownBlock ≠ some blk) (hh : (Value.slice la ln lc).ownBlock ≠ some blk) (hf : (Value.slice fa fn fc).ownBlock ≠ some blk)
    (ht : TB (w.setCell ⟨blk, off, none⟩ v) (.slice (some ⟨g0, 0, none⟩) 6 6) 6 (tset s.t y n l')) (ch : ChL (li (yi s.t y) n) l') (hne : l' ≠ li (yi s.t y) n) : PostS W2 gb f (.bool true) (w.setCell ⟨blk, off, none⟩ v) := by
  have hy' : y < f.ys.length := by rw [h.ys, h.l6]; exact hy
  rw [← h.ys] at hn ht ch hne
  refine PostS.of { f with ys := tset f.ys y n l' } true (h.b.set hbb _) ⟨⟨_, ht⟩, own_xl (own_set h.rc hc _) h.ek, own_nl (own_set h.rh hh _) h.el, own_nl (own_set h.rf hf _) h.ef⟩ (h.i.tset hy' hn ch) (h.ok.tset hy' hn ch) (by show (tset f.ys y n l').length = 6; rw [tset_len, h.ys, h.l6]) ?_ (Ext.setCell h.x hb _)
  refine decide_eq_false fun e => tset_ne hy' hn hne ?_
  exact (congrArg Fab.ys e).symm
theorem SwC.row (h : SwC W2 w1 w gb g0 F us vs s lv mv ka la fa kn kc ln lc fn fc f) {y : Nat} (hy : y < 6) {B' k' n' : Nat} {e' : TypeId} {g : Nat} {a c' : Nat} {xs : List Value} (hr : w.ownsRow (g0 + 1) e' k' (.slice (some ⟨g, 0, none⟩) a c') n' xs) (h1 : 52 ≠ e') (h2 : 41 ≠ e') (h3 : e' ≠ 35) :
    W2.heap.size ≤ g ∧ gb ≠ g ∧ (Value.slice ka kn kc).ownBlock ≠ some g ∧ (Value.slice la ln lc).ownBlock ≠ some g ∧ (Value.slice fa fn fc).ownBlock ≠ some g := by
  have hz := h.z2
  have hg := (hr.lt g rfl).1
  exact ⟨by omega, fun e => own_b4 hr h.b h3 (by rw [e]; rfl), fun e => own_ty h.rc hr h1 g e rfl, fun e => own_ty h.rh hr h2 g e rfl, fun e => own_ty h.rf hr h2 g e rfl⟩
theorem SwC.right (h : SwC W2 w1 w gb g0 F us vs s lv mv ka la fa kn kc ln lc fn fc f) {y n : Nat} (hy : y < 6) (hn : n < (yi s.t y).length) : RightL s.t (li (yi s.t y) n) := by
  have h1 := h.ok.r
  rw [h.ys] at h1
  exact (h1.ri _ (yi_mem (by rw [h.l6]; exact hy)) _ (li_mem hn)).1
variable {y n g m c : Nat}
theorem SwC.put0 (h : SwC W2 w1 w gb g0 F us vs s lv mv ka la fa kn kc ln lc fn fc f) (hy : y < 6) (hn : n < (yi s.t y).length) (hF : F y = .slice (some ⟨g, 0, none⟩) m c) (hm : m = (yi s.t y).length) : PostS W2 gb f (.bool true) (w.setCell ⟨g, n * 4, none⟩ (.int .u8 (1 - (li (yi s.t y) n).bed))) := by
  have hr := (h.o.rows y hy).row
  rw [hF] at hr
  obtain ⟨a1, a2, a3, a4, a5⟩ := h.row hy (B' := 0) hr (by decide) (by decide) (by decide)
  refine h.loop hy hn a1 a2 a3 a4 a5 (h.o.put0 h.l6 hy hn hF hm _) (ch_bed (h.right hy hn)) fun e => ?_
  have := congrArg Lp.bed e
  dsimp only at this
  have := (h.right hy hn).bed
  omega
theorem SwC.put1 (h : SwC W2 w1 w gb g0 F us vs s lv mv ka la fa kn kc ln lc fn fc f) (hy : y < 6) (hn : n < (yi s.t y).length) (hF : F y = .slice (some ⟨g, 0, none⟩) m c) (hm : m = (yi s.t y).length) : PostS W2 gb f (.bool true) (w.setCell ⟨g, n * 4 + 1, none⟩ (.bool (!(li (yi s.t y) n).new))) := by
  have hr := (h.o.rows y hy).row
  rw [hF] at hr
  obtain ⟨a1, a2, a3, a4, a5⟩ := h.row hy (B' := 0) hr (by decide) (by decide) (by decide)
  refine h.loop hy hn a1 a2 a3 a4 a5 (h.o.put1 h.l6 hy hn hF hm _) (ch_new (h.right hy hn)) fun e => ?_
  have h1 := congrArg Lp.new e
  dsimp only at h1
  cases hb : (li (yi s.t y) n).new <;> rw [hb] at h1 <;> cases h1
theorem SwC.put2 {v : Value} {k : Nat} (h : SwC W2 w1 w gb g0 F us vs s lv mv ka la fa kn kc ln lc fn fc f) (hy : y < 6) (hn : n < (yi s.t y).length) (hF : F y = .slice (some ⟨g, 0, none⟩) m c) (hm : m = (yi s.t y).length) (h1 : 1 < (li (yi s.t y) n).thr.length) {N : Nat} (hN : w1.heap.size ≤ N)
    (hv : w.ownsRow N 41 2 v k (((li (yi s.t y) n).thr.drop 1 ++ [ni (li (yi s.t y) n).thr 0]).map Nm.cs).flatten) (hk : k = (li (yi s.t y) n).thr.length) : PostS W2 gb f (.bool true) (w.setCell ⟨g, n * 4 + 2, none⟩ v) := by
  have hr := (h.o.rows y hy).row
  rw [hF] at hr
  obtain ⟨a1, a2, a3, a4, a5⟩ := h.row hy (B' := 0) hr (by decide) (by decide) (by decide)
  have h0 : (li (yi s.t y) n).thr ≠ [] := fun e => by rw [e] at h1; simp at h1
  have hl : ((li (yi s.t y) n).thr.drop 1 ++ [ni (li (yi s.t y) n).thr 0]).length = k := by rw [hk, (rot_perm h0).length_eq]
  have hz := h.z3
  have hv' := own_mono (B' := g0 + 1) hv (by omega)
  rw [← hl] at hv'
  refine h.loop hy hn a1 a2 a3 a4 a5 (h.o.put2 h.l6 hy hn hF hm hv') (ch_thr (h.right hy hn) h0) fun e => ?_
  have h2 := congrArg Lp.thr e
  dsimp only at h2
  have hok := h.ok
  rw [h.ys] at hok
  exact rot_ne (thr_nodup hok (by rw [h.l6]; exact hy) hn) h1 h2
theorem SwC.putP {gp d a : Nat} (h : SwC W2 w1 w gb g0 F us vs s lv mv ka la fa kn kc ln lc fn fc f) (hy : y < 6) (hn : n < (yi s.t y).length) (hv : vs y n = .slice (some ⟨gp, 0, none⟩) a d) (hm : a = (li (yi s.t y) n).past.length) (h1 : (li (yi s.t y) n).past ≠ []) {b : Bool} (hb : b = !(qi (li (yi s.t y) n).past 0).f) : PostS W2 gb f (.bool true) (w.setCell ⟨gp, 2, none⟩ (.bool b)) := by
  have hr := (h.o.rows y hy).v n hn
  rw [hv] at hr
  obtain ⟨a1, a2, a3, a4, a5⟩ := h.row hy (B' := 0) hr (by decide) (by decide) (by decide)
  refine h.loop hy hn a1 a2 a3 a4 a5 (h.o.putP h.l6 hy hn hv hm h1 hb) (ch_past (h.right hy hn) h1) fun e => ?_
  have h2 := congrArg Lp.past e
  dsimp only at h2
  exact flipP_ne h1 h2
/-- The blocks of the lists lie behind the table's. -/
theorem SwC.agr {blk off : Nat} {v : Value} (h : SwC W2 w1 w gb g0 F us vs s lv mv ka la fa kn kc ln lc fn fc f) (hb : w1.heap.size ≤ blk) (u : Agr g0 w1 w) : Agr g0 w1 (w.setCell ⟨blk, off, none⟩ v) := u.set (.inr hb) _
/-- The first two that are held change places. -/
theorem SwC.swap (h : SwC W2 w1 w gb g0 F us vs s lv mv ka (some ⟨g, 0, none⟩) fa kn kc ln lc fn fc f) (hO : OT g0 w1 F us vs s lv mv) (u : Agr g0 w1 w) (h1 : 1 < ln) {X Y : Nm} (hX : X = ni f.held 0) (hY : Y = ni f.held 1) :
    PostS W2 gb f (.bool true) ((((w.setCell ⟨g, 0, none⟩ (.int .u8 Y.y)).setCell ⟨g, 1, none⟩ (.int .i64 Y.n)).setCell ⟨g, 2, none⟩ (.int .u8 X.y)).setCell ⟨g, 3, none⟩ (.int .i64 X.n)) := by
  have hg := (h.rh.lt g rfl).1
  have hz2 := h.z2; have hz3 := h.z3
  have hgw : W2.heap.size ≤ g := by omega
  have hgb : gb ≠ g := fun e => own_b4 h.rh h.b (by decide) (by rw [e]; rfl)
  have hdc : (Value.slice ka kn kc).ownBlock ≠ some g := fun e => own_ty h.rc h.rh (by decide) g e rfl
  have hdf : (Value.slice fa fn fc).ownBlock ≠ some g := fun e => h.d g rfl e
  have hln := h.el
  have hl2 : (f.held.map Nm.cs).flatten.length = ln * 2 := by rw [(Ks.nm _).len, List.length_map, ← h.el]
  have hof4 : ((((w.setCell ⟨g, 0, none⟩ (.int .u8 Y.y)).setCell ⟨g, 1, none⟩ (.int .i64 Y.n)).setCell ⟨g, 2, none⟩ (.int .u8 X.y)).setCell ⟨g, 3, none⟩ (.int .i64 X.n)).ownsRow w1.heap.size 41 2 (.slice (some ⟨g, 0, none⟩) ln lc) ln ((swp f.held 1).map Nm.cs).flatten := by
    have h1 := own_setAt (own_setAt h.rh (o := 0) (by rw [hl2]; omega) (.int .u8 Y.y)) (o := 1) (by rw [List.length_set, hl2]; omega) (.int .i64 Y.n)
    have e1 := cs_set f.held 0 Y (by omega)
    simp only [Nat.zero_mul, Nat.zero_add] at e1
    rw [e1] at h1
    have hl3 : ((f.held.set 0 Y).map Nm.cs).flatten.length = ln * 2 := by rw [(Ks.nm _).len, List.length_map, List.length_set, ← h.el]
    have h2 := own_setAt (own_setAt h1 (o := 2) (by rw [hl3]; omega) (.int .u8 X.y)) (o := 3) (by rw [List.length_set, hl3]; omega) (.int .i64 X.n)
    have e2 := cs_set (f.held.set 0 Y) 1 X (by rw [List.length_set]; omega)
    simp only [Nat.one_mul] at e2
    rw [e2] at h2
    have e3 : swp f.held 1 = (f.held.set 0 Y).set 1 X := by unfold swp; rw [hX, hY]; exact List.set_comm _ _ (by decide)
    rw [e3]; exact h2
  refine PostS.of { f with held := swp f.held 1 } true (B4.set (B4.set (B4.set (B4.set h.b hgb _) hgb _) hgb _) hgb _)
    (fb_of hO h.l6 ((((u.set (.inr hg) _).set (.inr hg) _).set (.inr hg) _).set (.inr hg) _) h.ys
      (own_xl (own_set (own_set (own_set (own_set h.rc hdc _) hdc _) hdc _) hdc _) h.ek)
      (own_nl hof4 (by show ln = (swp f.held 1).length; rw [swp_len]; exact h.el))
      (own_nl (own_set (own_set (own_set (own_set h.rf hdf _) hdf _) hdf _) hdf _) h.ef))
    ⟨fun a ha => h.i.held a ((swp_perm (by decide) (by omega)).mem_iff.1 ha), h.i.fallen, h.i.cr, h.i.ys, by show (swp f.held 1).length ≤ 1000; rw [swp_len]; exact h.i.n1, h.i.n2, h.i.n3, h.i.n4, h.i.n5, h.i.n6⟩ h.ok (by show f.ys.length = 6; rw [h.ys, h.l6]) ?_ (Ext.setCell (Ext.setCell (Ext.setCell (Ext.setCell h.x hgw _) hgw _) hgw _) hgw _)
  exact decide_eq_false fun e => swp_ne h.nd (by omega) (congrArg Fab.held e).symm
theorem cs_set4 (l : List Xg) (h : l ≠ []) (v : Int) : (l.map Xg.cs).flatten.set 4 (.int .i64 v) = ((l.set 0 ⟨(xi l 0).a, (xi l 0).b, v⟩).map Xg.cs).flatten := by
  obtain ⟨c, r, rfl⟩ := List.exists_cons_of_ne_nil h
  rfl
/-- The first crossing counts twice. -/
theorem SwC.cross (h : SwC W2 w1 w gb g0 F us vs s lv mv (some ⟨g, 0, none⟩) la fa kn kc ln lc fn fc f) (hO : OT g0 w1 F us vs s lv mv) (u : Agr g0 w1 w) (h1 : 0 < kn) {v : Int} (hv : v = (xi f.cr 0).n * 2) :
    PostS W2 gb f (.bool true) (w.setCell ⟨g, 4, none⟩ (.int .i64 v)) := by
  have hg := (h.rc.lt g rfl).1
  have hz2 := h.z2; have hz3 := h.z3
  have hgw : W2.heap.size ≤ g := by omega
  have hgb : gb ≠ g := fun e => own_b4 h.rc h.b (by decide) (by rw [e]; rfl)
  have hdh : (Value.slice la ln lc).ownBlock ≠ some g := fun e => own_ty h.rh h.rc (by decide) g e rfl
  have hdf : (Value.slice fa fn fc).ownBlock ≠ some g := fun e => own_ty h.rf h.rc (by decide) g e rfl
  have hkn := h.ek
  have h0 : f.cr ≠ [] := fun e => by rw [e] at hkn; simp at hkn; omega
  have hl2 : (f.cr.map Xg.cs).flatten.length = kn * 5 := by rw [(Ks.xg _).len, List.length_map, ← h.ek]
  have h2 := own_setAt h.rc (o := 4) (by rw [hl2]; omega) (.int .i64 v)
  rw [cs_set4 _ h0] at h2
  have hc0 := h.cr _ (xi_mem (l := f.cr) (i := 0) (by omega))
  refine PostS.of { f with cr := f.cr.set 0 ⟨(xi f.cr 0).a, (xi f.cr 0).b, v⟩ } true (B4.set h.b hgb _)
    (fb_of hO h.l6 (u.set (.inr hg) _) h.ys (own_xl h2 (by show kn = (f.cr.set 0 _).length; rw [List.length_set]; exact h.ek)) (own_nl (own_set h.rh hdh _) h.el) (own_nl (own_set h.rf hdf _) h.ef))
    ⟨h.i.held, h.i.fallen, fun c hc => ?_, h.i.ys, h.i.n1, h.i.n2, by show (f.cr.set 0 _).length ≤ 1000; rw [List.length_set]; exact h.i.n3, h.i.n4, h.i.n5, h.i.n6⟩ h.ok (by show f.ys.length = 6; rw [h.ys, h.l6]) ?_ (Ext.setCell h.x hgw _)
  · rcases List.mem_or_eq_of_mem_set hc with hc | hc
    · exact h.i.cr c hc
    · have h3 := h.i.cr _ (xi_mem (l := f.cr) (i := 0) (by omega))
      rw [hc]
      exact ⟨h3.1, h3.2.1, by dsimp only; omega, by dsimp only; omega⟩
  · refine decide_eq_false fun e => ?_
    have h3 : f.cr = f.cr.set 0 ⟨(xi f.cr 0).a, (xi f.cr 0).b, v⟩ := congrArg Fab.cr e
    have h4 := congrArg (fun l => (xi l 0).n) h3
    have h5 : xi (f.cr.set 0 ⟨(xi f.cr 0).a, (xi f.cr 0).b, v⟩) 0 = ⟨(xi f.cr 0).a, (xi f.cr 0).b, v⟩ := by
      rw [xi_of (by rw [List.length_set]; omega)]; simp
    have h6 : (xi f.cr 0).n = v := by
      have h7 : (xi f.cr 0).n = (xi (f.cr.set 0 ⟨(xi f.cr 0).a, (xi f.cr 0).b, v⟩) 0).n := h4
      rw [h5] at h7; exact h7
    omega
/-- What is held first has fallen. -/
theorem SwC.fall {w' : World} {fb : Option Addr} {fm fd : Nat} {r : List Nm} {la' : Option Addr} {lc' : Nat} (h : SwC W2 w1 w gb g0 F us vs s lv mv ka la fa kn kc ln lc fn fc f) (hO : OT g0 w1 F us vs s lv mv) (u : Agr g0 w1 w) (h1 : 0 < ln) (x : Ext w w')
    (hp : r.Perm (f.fallen ++ [ni f.held 0])) (hr : w'.ownsRow w.heap.size 41 2 (.slice fb fm fd) r.length (r.map Nm.cs).flatten)
    (hd : ∀ W, w1.heap.size ≤ W.heap.size → W.ownsRow w1.heap.size 41 2 (.slice la ln lc) ln (f.held.map Nm.cs).flatten → NL W (.slice la' (ln - 1) lc') lc' (f.held.drop 1)) :
    PostS W2 gb f (.bool true) ((w'.setCell ⟨gb, 3, none⟩ (.slice fb fm fd)).setCell ⟨gb, 2, none⟩ (.slice la' (ln - 1) lc')) := by
  have hs := h.ext x
  have hln := h.el
  have h0 : 0 < f.held.length := by omega
  have hm0 : ni f.held 0 ∈ f.held := ni_mem h0
  have hrl := hp.length_eq
  rw [List.length_append, List.length_singleton] at hrl
  have hfn := h.ef
  have hz1 := h.z1
  have hr1 := own_mono hr hz1
  have hb3 := hs.b.put3 (.slice fb fm fd)
  have hgb : w1.heap.size ≤ gb ∨ gb < w1.heap.size := by omega
  have e1 : ∀ {k n' : Nat} {e : TypeId} {v : Value} {xs : List Value}, w'.ownsRow w1.heap.size e k v n' xs → e ≠ 35 → ((w'.setCell ⟨gb, 3, none⟩ (.slice fb fm fd)).setCell ⟨gb, 2, none⟩ (.slice la' (ln - 1) lc')).ownsRow w1.heap.size e k v n' xs := fun h1 h2 => own_box (own_box h1 hs.b h2 _ _) hb3 h2 _ _
  have hO' : OT g0 ((w'.setCell ⟨gb, 3, none⟩ (.slice fb fm fd)).setCell ⟨gb, 2, none⟩ (.slice la' (ln - 1) lc')) F us vs s lv mv := by
    have k0 : ∀ {w : World} {x1 x2 x3 x4 : Value}, B4 w gb x1 x2 x3 x4 35 → OT g0 w F us vs s lv mv → ∀ o v, OT g0 (w.setCell ⟨gb, o, none⟩ v) F us vs s lv mv := fun hb ho o v =>
      ⟨ho.tab.setOther (fun e => by
          dsimp only at e
          obtain ⟨c, k1, _⟩ := ho.tab
          unfold B4 at hb
          rw [e, hb] at k1
          cases k1) v,
        fun y hy => (ho.rows y hy).set (a := ⟨gb, o, none⟩) (own_b4 (ho.rows y hy).row hb (by decide)) (fun i hi => own_b4 ((ho.rows y hy).u i hi) hb (by decide)) (fun i hi => own_b4 ((ho.rows y hy).v i hi) hb (by decide)) v,
        own_set ho.free (own_b4 ho.free hb (by decide)) v, own_set ho.made (own_b4 ho.made hb (by decide)) v, ho.dR, ho.dU, ho.dF, ho.dV⟩
    exact k0 hb3 (k0 hs.b hs.o _ _) _ _
  refine PostS.of { f with held := f.held.drop 1, fallen := r } true (hb3.put2 _)
    ⟨⟨6, by show TB _ _ 6 f.ys; rw [h.ys]; exact hO'.tb h.l6⟩, own_xl (e1 hs.rc (by decide)) h.ek, ⟨_, hd _ (by simp only [World.setCell, Array.size_modify]; have := x.size; omega) (e1 hs.rh (by decide))⟩, ?_⟩
    ⟨fun a ha => h.i.held a (List.mem_of_mem_drop ha), fun a ha => ?_, h.i.cr, h.i.ys, by have := h.i.n1; show (f.held.drop 1).length ≤ 1000; rw [List.length_drop]; omega, ?_, h.i.n3, h.i.n4, h.i.n5, h.i.n6⟩ h.ok (by show f.ys.length = 6; rw [h.ys, h.l6]) ?_ (Ext.setCell (Ext.setCell (h.x.trans x) h.zb _) h.zb _)
  · have h2 := e1 hr1 (by decide)
    obtain ⟨a, c, e, _⟩ := own_slice h2
    have e2 := Value.slice.inj e
    exact own_nl (n := r.length) h2 rfl
  · rcases List.mem_append.1 (hp.mem_iff.1 ha) with ha | ha
    · exact h.i.fallen a ha
    · rw [List.mem_singleton.1 ha]; exact h.i.held _ hm0
  · have := h.bd; show r.length ≤ 1000; omega
  · refine decide_eq_false fun e => ?_
    have h2 := congrArg (fun f : Fab => f.held.length) e
    have h3 : f.held.length = (f.held.drop 1).length := h2
    rw [List.length_drop] at h3
    omega
end
end Go.Proofs.YtlhkehfplcclgaaDoor
