/- Texts of this claim in one file: libraries and walks. -/
import Derived.OpenShut
import Derived.ChangeArms
import Derived.Lib.SmallJoins
import Derived.Test.YtigffblelngpjaaDoorRows
import Derived.Lib.LaidU8
import Derived.Test.YtigffblelngpjaaDoorL1
import Derived.Test.YtigffblelngpjaaDoorL19
/- The law NormalsMoves: its walk. -/
namespace Go.Proofs.YtigffblelngpjaaDoor
set_option linter.unusedVariables false
set_option linter.unusedSimpArgs false
set_option maxRecDepth 100000
open Go Go.RowKit

theorem oth_br {n : Int} {W : List Int} (ms : List (Int × Int)) (hv : Val n W) (hl : W.length ≤ 24) : Br n W (oth n W ms) ∧ Val n (oth n W ms) ∧ (oth n W ms).length ≤ 24 := by
  unfold oth
  by_cases h : n ≤ 1
  · rw [if_pos h]; exact ⟨Br.refl _ _, hv, by omega⟩
  · rw [if_neg h]; exact mvs_br (by omega) _ hv (by omega)
theorem wcheck_val {n : Int} {w : List Int} (h1 : 1 ≤ n) (h8 : n ≤ 8) (hl : w.length ≤ 64) (h : Val n w) : wcheck n w = 0 := wcheck_mem h1 h8 hl h
theorem wordOf_24 (n : Int) (xs : List Int) : (wordOf n xs).length ≤ 24 := by
  unfold wordOf; split
  · simp
  · simp; omega
theorem wordOf_val {n : Int} {xs : List Int} (h : n ≤ 8) (hb : ∀ i, i < xs.length → 0 ≤ gi xs i ∧ gi xs i ≤ 255) : Val n (wordOf n xs) := fun x hx => (wordOf_mem h hb x hx).1
/-- The same braid: the same normal form. -/
theorem nf_br {n : Nat} {u v : List Int} (hu : Val n u) (hv : Val n v) (hbr : Br n u v) {q p : Int} {ls ms : List (List Int)} (h : NFo n q ls) (hq : Qv n (raw n u) (q, pms n ls)) (k : NFo n p ms) (kq : Qv n (raw n v) (p, pms n ms)) : q = p ∧ ls = ms := by
  rcases Nat.lt_or_ge n 2 with hlt | hge
  · have hn : n = 1 := by have := h.n1; omega
    have e1 : ls = [] := by
      cases ls with
      | nil => rfl
      | cons x ls => have := (h.at (i := 0) (by simp)).2.2.2; omega
    have e2 : ms = [] := by
      cases ms with
      | nil => rfl
      | cons x ls => have := (k.at (i := 0) (by simp)).2.2.2; omega
    exact ⟨by rw [h.one hn, k.one hn], by rw [e1, e2]⟩
  · have e := (nfw_eq hge hu h.can hq).trans ((nfw_br hge hbr).trans (nfw_eq hge hv k.can kq).symm)
    simp only [Prod.mk.injEq] at e
    exact ⟨e.1, h.pl.eq k.pl e.2⟩
theorem NX.v {w : World} {v : Value} {N q : Int} {ls : List (List Int)} (h : NX w v N q ls) : ∃ a m, v = .agg #[.int .i64 N, .int .i64 q, .slice a m m] ∧ NX w (.agg #[.int .i64 N, .int .i64 q, .slice a m m]) N q ls := by
  have h0 := h
  obtain ⟨a, rfl, _⟩ := h; exact ⟨a, _, rfl, h0⟩

set_option maxHeartbeats 8000000 in
theorem NormalsMoves_walk (n : Int) (va vb : Value) (ca cb : Nat) (xs : List Int) (ms : List (Int × Int)) (w : World) (hn : 0 ≤ n ∧ n ≤ 255) (h : IS .u8 w va ca xs) (hp : PS w vb cb ms) (hb : ∀ i, i < xs.length → 0 ≤ gi xs i ∧ gi xs i ≤ 255)
    (hms : ∀ i, i < ms.length → 0 ≤ (pi ms i).1 ∧ (pi ms i).1 ≤ 255 ∧ 0 ≤ (pi ms i).2 ∧ (pi ms i).2 ≤ 255) (ht : PTab w) :
    Calls Tryd.prog 3 #[.int .u8 n, .agg #[va, vb]] w fun e w' => e = .returned (.bool true) ∧ Ext w w' := by
  obtain ⟨m, hm⟩ : ∃ m : Nat, (m : Int) = 1 + n % 6 := ⟨(1 + n % 6).toNat, by omega⟩
  have m1 : 1 ≤ m := by omega
  have m6 : m ≤ 6 := by omega
  have hStr := fun w => Strands_m n m w hn hm
  obtain ⟨a1, n1, c1, rfl, hn1, rfl, h1⟩ := h.out
  obtain ⟨a2, N2, rfl, hN2, _⟩ := hp.open
  have hOf := fun w' (x : Ext w w') => WOf_calls m (.slice a1 n1 c1) c1 xs w' (h1.ext x) hb ⟨by omega, by omega⟩
  have hOt := fun w' (x : Ext w w') => Other_calls m (.slice a1 n1 c1) (.slice a2 N2 cb) c1 cb xs ms w' (h1.ext x) (hp.ext x) hb hms ⟨by omega, by omega⟩ (wordOf_24 _ _)
  have hv : Val m (wordOf m xs) := wordOf_val (by omega) hb
  have hl24 := wordOf_24 m xs
  obtain ⟨hbr, hvv, hvl⟩ := oth_br (n := m) ms hv hl24
  obtain ⟨W, hW⟩ : ∃ W, W = wordOf m xs := ⟨_, rfl⟩
  obtain ⟨V, hV⟩ : ∃ V, V = oth m (wordOf m xs) ms := ⟨_, rfl⟩
  rw [← hV] at hOt hbr hvv hvl
  rw [← hW] at hOf hv hl24 hbr
  have hwW : wcheck m W = 0 := wcheck_val (by omega) (by omega) (by omega) hv
  have hwV : wcheck m V = 0 := wcheck_val (by omega) (by omega) (by omega) hvv
  have hnW := fun v c w' (hi : IS .i64 w' v c W) => NOf2_calls m v c W w' hi hwW hv m1 (by omega) (by omega)
  have hnV := fun v c w' (hi : IS .i64 w' v c V) => NOf2_calls m v c V w' hi hwV hvv m1 (by omega) (by omega)
  have heq := fun (q p : Int) (ls ms : List (List Int)) (h : NFo m q ls) hq (k : NFo m p ms) kq => nf_br hv hvv hbr h hq k kq
  have HS := Lib.hid hStr; have HOf := Lib.hid hOf; have HOt := Lib.hid hOt; have HnW := Lib.hid hnW; have HnV := Lib.hid hnV; have HEq := Lib.hid heq; have HT := Lib.hid ht
  clear hStr hOf hOt hnW hnV heq ht hwW hwV hv hvv hbr hl24 hvl hW hV hm hb hms h h1 hn1 hp hN2
  obtain ⟨wb, hwb⟩ : ∃ wb, wb = w.alloc (.cells #[.slice a1 n1 c1, .slice a2 N2 cb] 26) := ⟨_, rfl⟩
  have hB : B2 wb w.heap.size (.slice a1 n1 c1) (.slice a2 N2 cb) 26 := by rw [hwb]; exact B2.new w _ _ _
  have xb : Ext w wb := by rw [hwb]; exact (Ext.refl w).alloc _
  have hb0 := hB.c0
  have Xb := Lib.hid xb; have HB := Lib.hid hB; have HWb := Lib.hid hwb
  clear xb hB hwb
  go_enter Tryd.func3, Tryd.ntmps3
  go_wp2_with fail
  rw [← HWb.out]
  refine (HS.out _).mono ?_
  rintro e w1 ⟨rfl, rfl⟩
  go_wp2_with fail
  refine (HOf.out wb Xb.out).mono ?_
  intro e w2 hr
  obtain ⟨a3, n3, c3, rfl, hn3, h3, x2⟩ := hr.open
  have X2 := Lib.hid (Xb.out.trans x2)
  replace HB := Lib.hid (HB.out.ext x2)
  have H3 := Lib.hid h3
  clear hr hn3 h3 x2 hb0
  go_wp2_with fail
  refine (HnW.out _ _ _ H3.out).mono ?_
  intro e w3 hr
  obtain ⟨v3, q, ls, rfl, hx, ho, hq, _, _, _, x3⟩ := hr
  obtain ⟨a4, m4, rfl, hx⟩ := hx.v
  have X3 := Lib.hid (X2.out.trans x3)
  replace HB := Lib.hid (HB.out.ext x3)
  have HX := Lib.hid hx; have HO := Lib.hid ho; have HQ := Lib.hid hq
  clear hx ho hq x3 H3 X2
  have bb0 := ((HB.out.alloc (.cells #[.int .i64 (m : Int), .int .i64 q, .slice a4 m4 m4] 30))).c0
  have bb1 := ((HB.out.alloc (.cells #[.int .i64 (m : Int), .int .i64 q, .slice a4 m4 m4] 30))).c1
  have bN := B3.new w3 (.int .i64 (m : Int)) (.int .i64 q) (.slice a4 m4 m4) 30
  have HbN := Lib.hid bN
  clear bN
  go_wp2_with fail
  refine (HOt.out _ (X3.out.alloc _)).mono ?_
  intro e w4 hr
  obtain ⟨a5, n5, c5, rfl, hn5, h5, x4⟩ := hr.open
  have X4 := Lib.hid ((X3.out.alloc _).trans x4)
  replace HB := Lib.hid (HB.out.ext (((Ext.refl w3).alloc _).trans x4)); replace HbN : Hid (B3 _ _ _ _ _ _) := Lib.hid (x4.block HbN.out); replace HX := Lib.hid (HX.out.ext (((Ext.refl w3).alloc _).trans x4))
  have H5 := Lib.hid h5
  clear hr hn5 h5 x4 bb0 bb1 X3
  go_wp2_with fail
  refine (HnV.out _ _ _ H5.out).mono ?_
  intro e w5 hr
  obtain ⟨v6, q2, ls2, rfl, hx, ho, hq, _, _, _, x5⟩ := hr
  obtain ⟨a6, m6', rfl, hx⟩ := hx.v
  have X5 := Lib.hid (X4.out.trans x5)
  replace HbN : Hid (B3 _ _ _ _ _ _) := Lib.hid (x5.block HbN.out); replace HX := Lib.hid (HX.out.ext x5)
  have hE := HEq.out _ _ _ _ HO.out HQ.out ho hq
  obtain ⟨rfl, rfl⟩ := hE
  have HX2 := Lib.hid hx
  have hby := HO.out.pl.byt HO.out.n8
  have Hby := Lib.hid hby
  clear hx ho hq x5 H5 X4 HO HQ hby HB
  obtain ⟨w6, hw6⟩ : ∃ w6, w6 = w5.alloc (.cells #[.int .i64 (m : Int), .int .i64 q, .slice a6 m6' m6'] 30) := ⟨_, rfl⟩
  have b6 : B3 w6 w5.heap.size (.int .i64 (m : Int)) (.int .i64 q) (.slice a6 m6' m6') 30 := by rw [hw6]; exact B3.new _ _ _ _ _
  have x6 : Ext w5 w6 := by rw [hw6]; exact (Ext.refl w5).alloc _
  have X6 := Lib.hid (X5.out.trans x6); have B6 := Lib.hid b6
  replace HbN : Hid (B3 _ _ _ _ _ _) := Lib.hid (x6.block HbN.out); replace HX := Lib.hid (HX.out.ext x6); replace HX2 := Lib.hid (HX2.out.ext x6)
  have g0 := HbN.out.c0; have g1 := HbN.out.c1; have g2 := HbN.out.c2
  have k0 := B6.out.c0; have k1 := B6.out.c1; have k2 := B6.out.c2
  have H6 := Lib.hid hw6
  rw [hw6] at g0 g1 g2 k0 k1 k2
  clear b6 x6 hw6 X5
  go_wp2_with fail
  rw [← H6.out]
  refine (NSame_calls _ _ m m q q ls ls w6 HX.out.ns HX2.out.ns Hby.out Hby.out).mono ?_
  rintro e w7 ⟨rfl, x7⟩
  rw [show nsame (m : Int) m q q ls ls = true from decide_eq_true ⟨rfl, rfl, rfl⟩]
  have X7 := Lib.hid (X6.out.trans x7)
  clear x7 g0 g1 g2 k0 k1 k2
  go_wp2_with fail
  refine (Lives_calls w7 (HT.out.ext X7.out)).mono ?_
  rintro e w8 ⟨rfl, x8⟩
  have X8 := Lib.hid (X7.out.trans x8)
  clear x8
  go_wp2
  go_ret
  exact ⟨rfl, X8.out⟩
end Go.Proofs.YtigffblelngpjaaDoor
/- What a word with changes that came in reads as. -/
namespace Go.Proofs.YtigffblelngpjaaDoor
set_option linter.unusedVariables false
set_option linter.unusedSimpArgs false
set_option maxRecDepth 100000
open Go Go.RowKit Go.ChangeShapes Go.WideShapes Go.ChangeAt

theorem cells_two {w : World} {base : Nat} {a : Addr} {cs : List Value} (h : w.cells? base a 2 = some cs) : ∃ u v, cs = [u, v] ∧ w.cell? a = some u ∧ w.cell? (a.add 1) = some v := by
  have e0 : a.add 0 = a := by simp [Addr.add]
  unfold World.cells? at h
  split at h
  · simp only [List.range_succ, List.range_zero, List.nil_append, List.cons_append, List.mapM_cons, List.mapM_nil, e0] at h
    cases hu : w.cell? a with
    | none => simp [hu] at h
    | some u =>
      cases hv : w.cell? (a.add 1) with
      | none => simp [hu, hv] at h
      | some v => simp [hu, hv] at h; exact ⟨u, v, h.symm, rfl, rfl⟩
  · cases h

section
variable {H : Type} {enc : TypeId × Value → H} {P : Program} {w : World} {base : Nat} {sp : Nat → Bool} {held : Bool}
theorem trod_pair {t e : TypeId} {fuel : Nat} {u v : Value} {x : DataW H × List MemPlace} (ht : P.underlying t = some (.array 2 e)) (he : P.underlying e = some (.int .u8)) (hce : P.cellsOf e = 1) (hct : P.cellsOf t = 2)
    (h : DataW.trod enc P w base sp held fuel t [u, v] = some x) : ∃ a b, u = .int .u8 a ∧ v = .int .u8 b ∧ (Lit.int .u8 a).wf = true ∧ (Lit.int .u8 b).wf = true := by
  cases fuel with
  | zero => simp [DataW.trod] at h
  | succ fuel =>
    simp only [DataW.trod, ht, hce, hct, Nat.mul_one] at h
    split at h
    · obtain ⟨xs, hm, hx⟩ := Option.map_eq_some_iff.1 h
      simp only [List.range_succ, List.range_zero, List.nil_append, List.cons_append, List.mapM_cons, List.mapM_nil] at hm
      cases h0 : DataW.trod enc P w base sp held fuel e (([u, v].drop 0).take 1) with
      | none => simp at h0; simp [h0] at hm
      | some y0 =>
        cases h1 : DataW.trod enc P w base sp held fuel e (([u, v].drop 1).take 1) with
        | none => simp at h0 h1; simp [h0, h1] at hm
        | some y1 =>
          obtain ⟨a, ha, _, wa⟩ := DataW.trod_int he h0
          obtain ⟨b, hb, _, wb⟩ := DataW.trod_int he h1
          simp at ha hb
          exact ⟨a, b, ha, hb, wa, wb⟩
    · cases h

theorem pairs_in {t e f : TypeId} {fuel : Nat} {v : Value} {x : DataW H × List MemPlace} (ht : P.underlying t = some (.slice e)) (he : P.underlying e = some (.array 2 f)) (hf : P.underlying f = some (.int .u8)) (hcf : P.cellsOf f = 1) (hce : P.cellsOf e = 2)
    (h : DataW.trod enc P w base sp held fuel t [v] = some x) : ∃ c ms, PS w v c ms ∧ ∀ i, i < ms.length → 0 ≤ (pi ms i).1 ∧ (pi ms i).1 ≤ 255 ∧ 0 ≤ (pi ms i).2 ∧ (pi ms i).2 ≤ 255 := by
  rcases DataW.trod_slice ht h with ⟨hcs, _⟩ | ⟨a, len, cap, elems, rest, n, _, hcs, _, _, hl, hm, hlen, hel, _⟩
  · obtain rfl : v = .slice none 0 0 := by simpa using hcs
    exact ⟨0, [], ⟨none, rfl, Nat.le_refl _, by unfold maxLen; omega, .inl rfl⟩, fun i hi => by simp at hi⟩
  · obtain rfl : v = .slice (some a) len cap := by simpa using hcs
    have key : ∀ i, i < len → ∃ p q : Int, w.cell? (a.add (i * 2)) = some (.int .u8 p) ∧ w.cell? ((a.add (i * 2)).add 1) = some (.int .u8 q) ∧ 0 ≤ p ∧ p ≤ 255 ∧ 0 ≤ q ∧ q ≤ 255 := by
      intro i hi
      have hE := hel i hi
      rw [hce] at hE
      rw [List.getElem?_eq_getElem (by omega)] at hE
      simp only [Option.bind_eq_some_iff] at hE
      obtain ⟨cs, hc, hy⟩ := hE
      obtain ⟨u, u', rfl, h1, h2⟩ := cells_two hc
      obtain ⟨p, q, rfl, rfl, wp, wq⟩ := trod_pair he hf hcf hce hy
      have hp := wf8 wp
      have hq := wf8 wq
      exact ⟨p, q, h1, h2, hp.1, hp.2, hq.1, hq.2⟩
    obtain ⟨F, hF⟩ : ∃ F : Nat → Int × Int, ∀ i, i < len → w.cell? (a.add (i * 2)) = some (.int .u8 (F i).1) ∧ w.cell? ((a.add (i * 2)).add 1) = some (.int .u8 (F i).2) ∧ 0 ≤ (F i).1 ∧ (F i).1 ≤ 255 ∧ 0 ≤ (F i).2 ∧ (F i).2 ≤ 255 :=
      ⟨fun i => if h : i < len then ((key i h).choose, (key i h).choose_spec.choose) else (0, 0), fun i hi => by simp only [hi, dif_pos]; exact (key i hi).choose_spec.choose_spec⟩
    have hpi : ∀ i, i < len → pi ((List.range len).map F) i = F i := fun i hi => by unfold pi; simp [List.getD, hi]
    refine ⟨cap, (List.range len).map F, ⟨some a, by simp, by simpa using hl, hm, ?_⟩, fun i hi => ?_⟩
    · by_cases h0 : len = 0
      · subst h0; exact .inl rfl
      · have hs : a.spot = none := by
          have := (hF 0 (by omega)).1
          rw [Nat.zero_mul, show a.add 0 = a from by simp [Addr.add]] at this
          exact cell_spot this
        obtain ⟨b, o, s⟩ := a
        have hs' : s = none := hs
        subst hs'
        refine .inr ⟨b, o, rfl, fun i hi => ?_⟩
        have hi' : i < len := by simpa using hi
        have hk := hF i hi'
        rw [Addr.add_lit, Addr.add_lit] at hk
        have e := hpi i hi'
        unfold pi at e
        rw [e]
        exact ⟨hk.1, hk.2.1⟩
    · have hi' : i < len := by simpa using hi
      rw [hpi i hi']
      exact (hF i hi').2.2

theorem bytes_in {t e : TypeId} {fuel : Nat} {v : Value} {x : DataW H × List MemPlace} (ht : P.underlying t = some (.slice e)) (he : P.underlying e = some (.int .u8)) (hc : P.cellsOf e = 1)
    (h : DataW.trod enc P w base (fun _ => true) held fuel t [v] = some x) : ∃ c xs, IS .u8 w v c xs ∧ ∀ i, i < xs.length → 0 ≤ gi xs i ∧ gi xs i ≤ 255 := by
  rcases open_ints ht he hc h with ⟨hcs, _⟩ | ⟨x, l, c, zs, hcs, _, hl, hm, hz, _, hcell, hwz⟩
  · obtain rfl : v = .slice none 0 0 := by simpa using hcs
    exact ⟨0, [], IS.nil _ _, fun i hi => by simp at hi⟩
  · obtain rfl : v = .slice (some x) l c := by simpa using hcs
    have hr : IsRow .u8 w (some x) l c zs := .inr ⟨_, rfl, hl, hm, by simpa using hz, hcell, hwz⟩
    exact ⟨c, zs.take l, hr.is, hr.bd⟩
end

/-- A word and its changes, as they come in. -/
def XIn (w : World) (v : Value) : Prop := ∃ va vb ca cb xs ms, v = .agg #[va, vb] ∧ IS .u8 w va ca xs ∧ (∀ i, i < xs.length → 0 ≤ gi xs i ∧ gi xs i ≤ 255) ∧ PS w vb cb ms ∧
  ∀ i, i < ms.length → 0 ≤ (pi ms i).1 ∧ (pi ms i).1 ≤ 255 ∧ 0 ≤ (pi ms i).2 ∧ (pi ms i).2 ≤ 255
theorem open_X {H : Type} {enc : TypeId × Value → H} {w : World} {b0 : Nat} {v : Value} {d : DataW H} {p : List MemPlace}
    (hv : Value.okWide Tryd.prog w .any b0 26 v) (h : DataW.Trod enc Tryd.prog w 0 (fun _ => true) true 26 v d p) : XIn w v := by
  obtain ⟨v0, v1, y0, y1, n, rfl, _, _, g0, g1⟩ := Joins.open_agg2 Tryd.underlying26 (by kernel_rfl) (show Tryd.prog.cellsOf 26 = 2 by kernel_rfl) hv h
  obtain ⟨ca, xs, h1, h2⟩ := bytes_in Tryd.underlying23 Tryd.underlying5 (by kernel_rfl) g0
  obtain ⟨cb, ms, h3, h4⟩ := pairs_in Tryd.underlying24 Tryd.underlying65 Tryd.underlying5 (by kernel_rfl) (by kernel_rfl) g1
  exact ⟨v0, v1, ca, cb, xs, ms, rfl, h1, h2, h3, h4⟩
end Go.Proofs.YtigffblelngpjaaDoor
/- What the listed variables give: the table of powers of ten. -/
namespace Go.Proofs.YtigffblelngpjaaDoor
set_option linter.unusedVariables false
set_option linter.unusedSimpArgs false
open Go Go.RowKit

theorem ptab_of {w : World} {l : List (String × DataW Unit)} (h : laidMet Tryd.prog l w) (hm : ("internal/strconv.uint64pow10", Rows.laid_internal_strconv_uint64pow10) ∈ l) : PTab w := by
  obtain ⟨g, t, cs, fuel, p, hg, ht, hv, hd⟩ := Lib.laidMet.reads h hm
  obtain ⟨n, e, h1, h2, h3, h4⟩ : ∃ n e, Tryd.prog.underlying t = some (.array n e) ∧ Tryd.prog.underlying e = some (.int .u64) ∧ Tryd.prog.cellsOf e = 1 ∧ Tryd.prog.cellsOf t = n := by
    have hh : ((Tryd.prog.globalNamed "internal/strconv.uint64pow10").bind fun g => (Tryd.prog.globals[g]?).map (·.type)) = some t := by rw [hg]; exact ht
    have hk : ((Tryd.prog.globalNamed "internal/strconv.uint64pow10").bind fun g => (Tryd.prog.globals[g]?).map (·.type)) = some (125) := by kernel_rfl
    obtain rfl := Option.some.inj (hk.symm.trans hh)
    exact ⟨20, 117, by kernel_rfl, by kernel_rfl, by kernel_rfl, by kernel_rfl⟩
  have hd' : DataW.trod (fun _ => ()) Tryd.prog w 0 (fun _ => true) false fuel t cs.toList = some (Lib.tabData .u64 Lib.pow10Tab, p) := by
    rw [hd]; exact congrArg (fun x => some (x, p)) (by kernel_rfl)
  have := Lib.cells_of_tab h1 h2 h3 h4 hd'
  unfold PTab Lib.TabIs
  rw [hv, ← this]
end Go.Proofs.YtigffblelngpjaaDoor
