/- Contract of Act's closure: what one letter makes of the images. -/
import Derived.Test.YtbappfeojdehgaaWi
import Derived.Test.YtbappfeojdehgaaWj
import Derived.Deep.RegionHeld3
namespace Go.Proofs.Ytbappfeojdehgaa
set_option linter.unusedVariables false
set_option linter.unusedSimpArgs false
set_option maxRecDepth 8000
open Go Go.RowKit

/-- The images in memory: the outer row at block B, the variable that holds it at block B + 1. -/
structure Img (w : World) (B n : Nat) (vs : Nat → Value) (rows : List (List Int)) : Prop where
  len : rows.length = n
  var : w.heap[B + 1]? = some (.cells #[.slice (some ⟨B, 0, none⟩) n n] 34 (0, 0))
  outer : w.rowIs B 25 n vs
  rows : ∀ i, i < n → ∃ c, IS .i64 w (vs i) c (ri rows i) ∧ NN (vs i)

/-- A row of slices is no row of numbers: a store into it leaves what the numbers read as. -/
theorem IS.setSlice {k : IntKind} {w : World} {v : Value} {c : Nat} {xs : List Int} (h : IS k w v c xs) {B : Nat} {t : TypeId} {n : Nat} {vs : Nat → Value} (hr : w.rowIs B t n vs) (hs : ∀ i, i < n → ∃ a m c, vs i = .slice a m c) (i : Nat) (u : Value) :
    IS k (w.setCell ⟨B, i, none⟩ u) v c xs := by
  obtain ⟨ao, hv, h1, h2, h3, h4⟩ := h
  refine ⟨ao, hv, h1, h2, h3, fun a ha => ⟨(h4 a ha).1, fun j x hj => ?_⟩⟩
  have hc := (h4 a ha).2 j x hj
  by_cases hb : a.block = B
  · exfalso
    rw [hb] at hc
    obtain ⟨cur, hcur, hn, hf⟩ := hr
    rw [List.getElem?_map] at hj
    obtain ⟨y, _, rfl⟩ := Option.map_eq_some_iff.1 hj
    simp only [World.cell?, hcur] at hc
    by_cases ho : a.off + j < n
    · obtain ⟨q, m, d, hq⟩ := hs _ ho
      rw [hf _ ho, hq] at hc
      simp at hc
    · have hc' : cur[a.off + j]? = some (Value.int k y) := by simpa using hc
      rw [Array.getElem?_eq_none (by omega)] at hc'
      cases hc'
  · rw [← hc]
    exact World.cell?_of_block (w := w) (Below.heap_setCell _ _ _ _ (by simpa using hb))

theorem Img.slices {w : World} {B n : Nat} {vs : Nat → Value} {rows : List (List Int)} (h : Img w B n vs rows) : ∀ i, i < n → ∃ a m c, vs i = .slice a m c := by
  intro i hi
  obtain ⟨c, ⟨ao, hv, _⟩, _⟩ := h.rows i hi
  exact ⟨_, _, _, hv⟩
theorem Img.ext {w w' : World} {B n : Nat} {vs : Nat → Value} {rows : List (List Int)} (h : Img w B n vs rows) (e : Ext w w') : Img w' B n vs rows :=
  ⟨h.len, e.block h.var, e.row h.outer, fun i hi => let ⟨c, h1, h2⟩ := h.rows i hi; ⟨c, h1.ext e, h2⟩⟩
/-- One image is put in. -/
theorem Img.put {w : World} {B n : Nat} {vs : Nat → Value} {rows : List (List Int)} (h : Img w B n vs rows) {i : Nat} (hi : i < n) {u : Value} {c : Nat} {xs : List Int} (hu : IS .i64 w u c xs) (hn : NN u) :
    Img (w.setCell ⟨B, i, none⟩ u) B n (fun j => if j = i then u else vs j) (rows.set i xs) := by
  refine ⟨by simpa using h.len, ?_, h.outer.set i u, fun j hj => ?_⟩
  · rw [Below.heap_setCell _ _ _ _ (by simp)]; exact h.var
  · rw [ri_set _ _ _ _ (by rw [h.len]; exact hi)]
    by_cases e : j = i
    · simp only [e, if_true]; exact ⟨c, hu.setSlice h.outer h.slices i u, hn⟩
    · simp only [e, if_false]
      obtain ⟨c', h1, h2⟩ := h.rows j hj
      exact ⟨c', h1.setSlice h.outer h.slices i u, h2⟩

/-- Letters from -100 to 100, not too many. -/
def Okr (m : Nat) (xs : List Int) : Prop := xs.length ≤ m ∧ ∀ i, i < xs.length → -100 ≤ gi xs i ∧ gi xs i ≤ 100

theorem okr_prod {m m' : Nat} {a b : List Int} (ha : Okr m a) (hb : Okr m' b) : Okr (m + m') (prodL a b) :=
  ⟨by have := prodL_len a b; have := ha.1; have := hb.1; omega, prodL_mem (fun x => -100 ≤ x ∧ x ≤ 100) ha.2 hb.2⟩
def invL (a : List Int) : List Int := a.reverse.map (fun x => -x)
theorem okr_inv {m : Nat} {a : List Int} (ha : Okr m a) : Okr m (invL a) := by
  refine ⟨by unfold invL; simpa using ha.1, fun i hi => ?_⟩
  have hi' : i < a.length := by unfold invL at hi; simpa using hi
  unfold invL
  rw [negs_gi hi']
  have := ha.2 (a.length - 1 - i) (by omega)
  omega

/-- What a letter makes of the images. -/
def letterRows (rows : List (List Int)) (k : Int) : List (List Int) :=
  if 0 < k then
    let i := (k - 1).toNat
    (rows.set i (prodL (prodL (ri rows i) (ri rows (i + 1))) (invL (ri rows i)))).set (i + 1) (ri rows i)
  else
    let i := (-k - 1).toNat
    (rows.set i (ri rows (i + 1))).set (i + 1) (prodL (prodL (invL (ri rows (i + 1))) (ri rows i)) (ri rows (i + 1)))
/-- .. and the length of the one that may have grown. -/
def letterLen (rows : List (List Int)) (k : Int) : Nat :=
  if 0 < k then (ri (letterRows rows k) (k - 1).toNat).length else (ri (letterRows rows k) (-k).toNat).length

/-- What the closure hands back: a length; the images behind it. -/
def RetA (B n : Nat) (w : World) (rows : List (List Int)) (m : Nat) (e : Ending) (w' : World) : Prop := e = .returned (.int .i64 (m : Int)) ∧ (∃ vs, Img w' B n vs rows) ∧ Below B w w'

theorem Act1_pos (i B n : Nat) (vs : Nat → Value) (rows : List (List Int)) (w : World) (h : Img w B n vs rows) (hi : i + 1 < n) (hn : n ≤ 8) (hb : ∀ j, j < n → Okr 262144 (ri rows j)) :
    Calls Try.prog 33 #[.int .i64 ((i : Int) + 1), .pointer (some ⟨B + 1, 0, none⟩)] w (RetA B n w ((rows.set i (prodL (prodL (ri rows i) (ri rows (i + 1))) (invL (ri rows i)))).set (i + 1) (ri rows i)) (prodL (prodL (ri rows i) (ri rows (i + 1))) (invL (ri rows i))).length) := by
  have c0 := cell_of_one h.var
  have c1 := h.outer.cell (i := i) (by omega)
  have c2 := h.outer.cell (i := i + 1) (by omega)
  obtain ⟨ca, ha, na⟩ := h.rows i (by omega)
  obtain ⟨cb, hb', nb⟩ := h.rows (i + 1) (by omega)
  have oa := hb i (by omega)
  have ob := hb (i + 1) (by omega)
  obtain ⟨_, _, ba, fa, hva, _⟩ := ha.nn na
  obtain ⟨_, _, bb, fb, hvb, _⟩ := hb'.nn nb
  obtain ⟨la, hla⟩ : ∃ l, l = (ri rows i).length := ⟨_, rfl⟩
  obtain ⟨lb, hlb⟩ : ∃ l, l = (ri rows (i + 1)).length := ⟨_, rfl⟩
  rw [← hla] at hva
  rw [← hlb] at hvb
  rw [hva] at c1 ha
  rw [hvb] at c2 hb'
  have Hm := Lib.hid h
  have Ha := Lib.hid ha; have Hb := Lib.hid hb'; have Oa := Lib.hid oa; have Ob := Lib.hid ob
  have Hva := Lib.hid hva; have Hvb := Lib.hid hvb
  clear h ha hb' na nb oa ob hb hva hvb hla hlb
  have e0 : (0 : Int) < (i : Int) + 1 := by omega
  have e1 : (i : Int) + 1 < n := by omega
  have e2 : (i : Int) < n := by omega
  have e3 : (0 : Int) ≤ (i : Int) := by omega
  have e4 : (0 : Int) ≤ (i : Int) + 1 := by omega
  have e5 : IntKind.i64.wrap (i : Int) = (i : Int) := IntWalk.i64_in _ ⟨by omega, by omega⟩
  have e6 : ((i : Int) + 1).toNat = i + 1 := by omega
  go_enter Try.func33, Try.ntmps33
  go_wp2
  go_quiet (fail)
  go_wp2
  go_region_held3 (fun w' => w'.cell? ⟨B + 1, 0, none⟩ = some (.slice (some ⟨B, 0, none⟩) n n)) (first | assumption | go_keep) (first
    | (go_at_call_of 34 ba; refine (product_calls _ _ ca cb _ _ _ (Ha.out.ext ((Ext.refl w).drewN _)) (Hb.out.ext ((Ext.refl w).drewN _)) NN.mk NN.mk (by have := Oa.out.1; omega) (by have := Ob.out.1; omega) Ob.out.2).mono ?_; rintro e w1 ⟨b1, f1, l1, d1, rfl, hl1, h1, x1⟩; have X1 := Lib.hid (((Ext.refl w).drewN _).trans x1); have V1 := Lib.hid h1; have s1 : w1.cell? ⟨B + 1, 0, none⟩ = _ := X1.out.cell c0; clear h1 x1 hl1)
    | (go_at_call 27; refine (inverse_calls _ ca _ _ (Ha.out.ext X1.out) (by have := Oa.out.1; omega) (fun j hj => by have := Oa.out.2 j hj; omega)).mono ?_; rintro e w2 ⟨v2, rfl, h1, x1, n1⟩; have X2 := Lib.hid x1; have V2 := Lib.hid h1; have N2 := Lib.hid n1; have s2 : w2.cell? ⟨B + 1, 0, none⟩ = _ := X2.out.cell s1; clear h1 n1 x1)
    | (go_at_call 34; refine (product_calls _ v2 _ _ _ _ _ (V1.out.ext X2.out) V2.out NN.mk N2.out (by have := (okr_prod Oa.out Ob.out).1; omega) (by have := (okr_inv Oa.out).1; unfold invL at this; omega) (okr_inv Oa.out).2).mono ?_; rintro e w3 ⟨b3, f3, l3, d3, rfl, hl3, h1, x1⟩; have L3 := Lib.hid hl3; have X3 := Lib.hid (X1.out.trans (X2.out.trans x1)); have V3 := Lib.hid h1; have s3 : w3.cell? ⟨B + 1, 0, none⟩ = _ := X3.out.cell c0; have s4 : w3.cell? ⟨B, i, none⟩ = _ := X3.out.cell c1; have s5 : w3.cell? ⟨B, i + 1, none⟩ = _ := X3.out.cell c2; have s6 : w3.frozen? ⟨B, i, none⟩ = false := (X3.out.row Hm.out.outer).frozen _; have s7 : w3.frozen? ⟨B, i + 1, none⟩ = false := (X3.out.row Hm.out.outer).frozen _; clear h1 hl3 x1))
  go_wp2
  go_ret
  refine ⟨ret_int (congrArg (fun m : Nat => (m : Int)) L3.out), ⟨_, ((Hm.out.ext X3.out).put (by omega) V3.out NN.mk).put (by omega) ((Ha.out.ext X3.out).setSlice (X3.out.row Hm.out.outer) Hm.out.slices _ _) NN.mk⟩, ?_⟩
  exact ((X3.out.below (Below.refl B w) (by have := Hm.out.outer.lt; omega)).setCell (p := ⟨B, i, none⟩) (Nat.le_refl _) _).setCell (p := ⟨B, i + 1, none⟩) (Nat.le_refl _) _

theorem Act1_neg (i B n : Nat) (vs : Nat → Value) (rows : List (List Int)) (w : World) (h : Img w B n vs rows) (hi : i + 1 < n) (hn : n ≤ 8) (hb : ∀ j, j < n → Okr 262144 (ri rows j)) :
    Calls Try.prog 33 #[.int .i64 (-((i : Int) + 1)), .pointer (some ⟨B + 1, 0, none⟩)] w (RetA B n w ((rows.set i (ri rows (i + 1))).set (i + 1) (prodL (prodL (invL (ri rows (i + 1))) (ri rows i)) (ri rows (i + 1)))) (prodL (prodL (invL (ri rows (i + 1))) (ri rows i)) (ri rows (i + 1))).length) := by
  have c0 := cell_of_one h.var
  have c1 := h.outer.cell (i := i) (by omega)
  have c2 := h.outer.cell (i := i + 1) (by omega)
  obtain ⟨ca, ha, na⟩ := h.rows i (by omega)
  obtain ⟨cb, hb', nb⟩ := h.rows (i + 1) (by omega)
  have oa := hb i (by omega)
  have ob := hb (i + 1) (by omega)
  obtain ⟨_, _, ba, fa, hva, _⟩ := ha.nn na
  obtain ⟨_, _, bb, fb, hvb, _⟩ := hb'.nn nb
  obtain ⟨la, hla⟩ : ∃ l, l = (ri rows i).length := ⟨_, rfl⟩
  obtain ⟨lb, hlb⟩ : ∃ l, l = (ri rows (i + 1)).length := ⟨_, rfl⟩
  rw [← hla] at hva
  rw [← hlb] at hvb
  rw [hva] at c1 ha
  rw [hvb] at c2 hb'
  have Hm := Lib.hid h
  have Ha := Lib.hid ha; have Hb := Lib.hid hb'; have Oa := Lib.hid oa; have Ob := Lib.hid ob
  have Hva := Lib.hid hva; have Hvb := Lib.hid hvb
  clear h ha hb' na nb oa ob hb hva hvb hla hlb
  have e0 : (0 : Int) < (i : Int) + 1 := by omega
  have e1 : (i : Int) + 1 < n := by omega
  have e2 : (i : Int) < n := by omega
  have e3 : (0 : Int) ≤ (i : Int) := by omega
  have e4 : (0 : Int) ≤ (i : Int) + 1 := by omega
  have e5 : IntKind.i64.wrap (i : Int) = (i : Int) := IntWalk.i64_in _ ⟨by omega, by omega⟩
  have e6 : ((i : Int) + 1).toNat = i + 1 := by omega
  have e7 : IntKind.i64.wrap ((i : Int) + 1) = (i : Int) + 1 := IntWalk.i64_in _ ⟨by omega, by omega⟩
  go_enter Try.func33, Try.ntmps33
  go_wp2
  go_quiet (fail)
  go_wp2
  go_region_held3 (fun w' => w'.cell? ⟨B + 1, 0, none⟩ = some (.slice (some ⟨B, 0, none⟩) n n)) (first | assumption | go_keep) (first
    | (go_at_call 27; refine (inverse_calls _ cb _ _ (Hb.out.ext ((Ext.refl w).drewN _)) (by have := Ob.out.1; omega) (fun j hj => by have := Ob.out.2 j hj; omega)).mono ?_; rintro e w1 ⟨v1, rfl, h1, x1, n1⟩; have X1 := Lib.hid (((Ext.refl w).drewN _).trans x1); have V1 := Lib.hid h1; have N1 := Lib.hid n1; have s1 : w1.cell? ⟨B + 1, 0, none⟩ = _ := X1.out.cell c0; clear h1 n1 x1)
    | (go_at_call_of 34 ba; refine (product_calls v1 _ _ ca _ _ _ V1.out (Ha.out.ext X1.out) N1.out NN.mk (by have := (okr_inv Ob.out).1; unfold invL at this; omega) (by have := Oa.out.1; omega) Oa.out.2).mono ?_; rintro e w2 ⟨b2, f2, l2, d2, rfl, hl2, h1, x1⟩; have X2 := Lib.hid (X1.out.trans x1); have V2 := Lib.hid h1; have s2 : w2.cell? ⟨B + 1, 0, none⟩ = _ := X2.out.cell c0; clear h1 x1 hl2)
    | (go_at_call_of 34 bb; refine (product_calls _ _ _ cb _ _ _ V2.out (Hb.out.ext X2.out) NN.mk NN.mk (by have := (okr_prod (okr_inv Ob.out) Oa.out).1; unfold invL at this; omega) (by have := Ob.out.1; omega) Ob.out.2).mono ?_; rintro e w3 ⟨b3, f3, l3, d3, rfl, hl3, h1, x1⟩; have L3 := Lib.hid hl3; have X3 := Lib.hid (X2.out.trans x1); have V3 := Lib.hid h1; have s3 : w3.cell? ⟨B + 1, 0, none⟩ = _ := X3.out.cell c0; have s4 : w3.cell? ⟨B, i, none⟩ = _ := X3.out.cell c1; have s5 : w3.cell? ⟨B, i + 1, none⟩ = _ := X3.out.cell c2; have s6 : w3.frozen? ⟨B, i, none⟩ = false := (X3.out.row Hm.out.outer).frozen _; have s7 : w3.frozen? ⟨B, i + 1, none⟩ = false := (X3.out.row Hm.out.outer).frozen _; clear h1 hl3 x1))
  go_wp2
  go_ret
  refine ⟨ret_int (congrArg (fun m : Nat => (m : Int)) L3.out), ⟨_, ((Hm.out.ext X3.out).put (by omega) (Hb.out.ext X3.out) NN.mk).put (by omega) (V3.out.setSlice (X3.out.row Hm.out.outer) Hm.out.slices _ _) NN.mk⟩, ?_⟩
  exact ((X3.out.below (Below.refl B w) (by have := Hm.out.outer.lt; omega)).setCell (p := ⟨B, i, none⟩) (Nat.le_refl _) _).setCell (p := ⟨B, i + 1, none⟩) (Nat.le_refl _) _

end Go.Proofs.Ytbappfeojdehgaa
