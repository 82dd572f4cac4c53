/- Texts of this claim in one file: libraries and walks. -/
import Derived.Test.YtlhkehfplcclgaaDoorL13
import Derived.Test.YtlhkehfplcclgaaDoorL18
import Derived.Test.YtlhkehfplcclgaaDoorMCheck0
/- Cross: plain laws; a fabric stays where a fabric's box is set. -/
namespace Go.Proofs.YtlhkehfplcclgaaDoor
set_option linter.unusedVariables false
set_option linter.unusedSimpArgs false
set_option maxRecDepth 8000
open Go Go.RowKit

theorem cmpX_same (a b : Nm) (m n : Int) : cmpX ⟨a, b, m⟩ ⟨a, b, n⟩ = 0 := cmpX_eq.2 ⟨rfl, rfl⟩
theorem addX_front {a b : Nm} {s : Int} {l : List Xg} (h : ∀ d ∈ l, ltX ⟨a, b, 0⟩ d) : addX l a b s = ⟨a, b, s⟩ :: l := by
  cases l with
  | nil => rfl
  | cons d l =>
    have h1 := cmpX_gt.2 (h d List.mem_cons_self)
    rw [addX, if_neg (by omega), if_pos h1]
theorem ltX_key {c d : Xg} {a b : Nm} (h : ltX c d) (e : c.a = a ∧ c.b = b) : ltX ⟨a, b, 0⟩ d := by
  unfold ltX at h ⊢
  rw [e.1, e.2] at h; exact h
theorem addX_inv {a b : Nm} {s : Int} : ∀ {l : List Xg}, List.Pairwise ltX l → (∀ c ∈ l, c.n ≠ 0) → s ≠ 0 → addX (addX l a b s) a b (-s) = l
  | [], _, _, hs => by
    rw [addX, addX, if_pos (cmpX_same a b _ _), if_pos (by dsimp only; omega)]
  | c :: l, h, h0, hs => by
    obtain ⟨h1, h2⟩ := List.pairwise_cons.1 h
    have hl := fun d hd => h0 d (List.mem_cons_of_mem c hd)
    have hc0 := h0 c List.mem_cons_self
    rw [addX]
    by_cases e : cmpX c ⟨a, b, 0⟩ = 0
    · have e' := cmpX_eq.1 e
      rw [if_pos e]
      by_cases hz : c.n + s = 0
      · rw [if_pos hz, addX_front fun d hd => ltX_key (h1 d hd) e']
        congr 1
        obtain ⟨ca, cb, cn⟩ := c
        dsimp only at e' hz ⊢
        rw [← e'.1, ← e'.2, show -s = cn by omega]
      · rw [if_neg hz, addX, if_pos (cmpX_same a b _ _), if_neg (by dsimp only; omega)]
        congr 1
        obtain ⟨ca, cb, cn⟩ := c
        dsimp only at e' hz ⊢
        rw [← e'.1, ← e'.2, show cn + s + -s = cn by omega]
    · rw [if_neg e]
      by_cases g : 0 < cmpX c ⟨a, b, 0⟩
      · rw [if_pos g, addX, if_pos (cmpX_same a b _ _), if_pos (by dsimp only; omega)]
      · rw [if_neg g, addX, if_neg e, if_neg g, addX_inv h2 hl hs]
theorem lnk_gt {a b : Nm} : ∀ {l : List Xg}, (∀ d ∈ l, ltX ⟨a, b, 0⟩ d) → lnk l a b = 0
  | [], _ => rfl
  | c :: l, h => by
    have h1 := cmpX_gt.2 (h c List.mem_cons_self)
    rw [lnk, if_neg (by omega)]
    exact lnk_gt fun d hd => h d (List.mem_cons_of_mem _ hd)
theorem lnk_addX {a b : Nm} {s : Int} : ∀ {l : List Xg}, List.Pairwise ltX l → lnk (addX l a b s) a b = lnk l a b + s
  | [], _ => by
    simp [addX, lnk, cmpX_same]
  | c :: l, h => by
    obtain ⟨h1, h2⟩ := List.pairwise_cons.1 h
    rw [addX]
    by_cases e : cmpX c ⟨a, b, 0⟩ = 0
    · have e' := cmpX_eq.1 e
      rw [if_pos e]
      conv => rhs; rw [lnk, if_pos e]
      by_cases hz : c.n + s = 0
      · rw [if_pos hz, lnk_gt fun d hd => ltX_key (h1 d hd) e']; omega
      · rw [if_neg hz, lnk, if_pos (cmpX_same a b _ _)]
    · rw [if_neg e]
      conv => rhs; rw [lnk, if_neg e]
      by_cases g : 0 < cmpX c ⟨a, b, 0⟩
      · rw [if_pos g, lnk, if_pos (cmpX_same a b _ _)]
        have g' := cmpX_gt.1 g
        rw [lnk_gt fun d hd => ltX_trans g' (h1 d hd)]; dsimp only; omega
      · rw [if_neg g, lnk, if_neg e, lnk_addX h2]
theorem lnk_bd {a b : Nm} {k : Int} (hk : 0 ≤ k) : ∀ {l : List Xg}, (∀ c ∈ l, c.n ≠ 0 ∧ -k ≤ c.n ∧ c.n ≤ k) → -k ≤ lnk l a b ∧ lnk l a b ≤ k
  | [], _ => by rw [lnk]; omega
  | c :: l, h => by
    rw [lnk]
    split
    · exact (h c List.mem_cons_self).2
    · exact lnk_bd hk fun d hd => h d (List.mem_cons_of_mem _ hd)
theorem pairX_ord {a b : Nm} (h : cmpN a b < 0) : pairX a b = ⟨a, b, 0⟩ ∧ pairX b a = ⟨a, b, 0⟩ := by
  have h1 := cmpN_neg a b
  unfold pairX
  exact ⟨if_neg (by omega), if_pos (by omega)⟩
/-- The fabric f with other crossings. -/
def Fab.wc (f : Fab) (l : List Xg) : Fab := { f with cr := l }
theorem wc_chk {f : Fab} {k k' : Int} {l : List Xg} (h : fchk f = 0) (hx : XOk f.ys k l) (hk : k ≤ 1048576) : fchk (f.wc l) = 0 := by
  unfold fchk at h ⊢
  have h1 : lchk f.ys = 0 := by
    by_cases e : lchk f.ys = 0
    · exact e
    · rw [if_neg e] at h; exact absurd h e
  rw [if_pos h1] at h
  have h2 : pchk f = 0 := by
    by_cases e : cchk f.ys f.cr = 0
    · rw [if_pos e] at h; exact h
    · rw [if_neg e] at h; exact absurd h e
  have h3 : cchk (f.wc l).ys (f.wc l).cr = 0 := hx.chk hk
  rw [show lchk (f.wc l).ys = 0 from h1, if_pos rfl, if_pos h3]; exact h2
theorem wc_in {f : Fab} {k : Int} {l : List Xg} (h : FIn f) (hb : ∀ a, hasB f.ys a = true → a.In) (hx : XOk f.ys k l) (hk : k ≤ 1048576) (hl : l.length ≤ 1000) : FIn (f.wc l) :=
  ⟨h.held, h.fallen, fun c hc => ⟨hb _ (hx.m c hc).1, hb _ (hx.m c hc).2.1, by have := hx.n c hc; omega, by have := hx.n c hc; omega⟩, h.ys, h.n1, h.n2, hl, h.n4, h.n5, h.n6⟩
theorem wc_crossE {f : Fab} {k : Int} {l : List Xg} (h : fchk f = 0) (hx : XOk f.ys k l) (hk0 : 0 ≤ k) (hk : k ≤ 1000) {a b : Nm} {s : Int} (ha : hasB f.ys a = true) (hb : hasB f.ys b = true) (hs : s = 1 ∨ s = -1) :
    crossE (f.wc l) a b s = if a = b then 1 else 0 := by
  unfold crossE
  rw [if_pos (wc_chk (k' := k) h hx (by omega))]
  by_cases e : a = b
  · rw [if_neg (fun k => k.2 e), if_pos e]
  · rw [if_pos ⟨hs, e⟩, if_neg e, if_pos ⟨ha, hb⟩]
    have h1 := lnk_bd (a := (pairX a b).a) (b := (pairX a b).b) hk0 hx.n
    rw [if_pos]
    show -1048576 ≤ s + lnk l _ _ ∧ s + lnk l _ _ ≤ 1048576
    omega
theorem wc_crossF (f : Fab) (l : List Xg) (a b : Nm) (s : Int) : crossF (f.wc l) a b s = f.wc (addX l (pairX a b).a (pairX a b).b s) := rfl
theorem wc_self (f : Fab) : f.wc f.cr = f := rfl

/-! ### What stays -/
theorem CK.frame {k g : Nat} {w w' : World} {v : Value} {c : Nat} {xs : List (List Value)} (h : CK k w v c xs) (hw : ∀ b o u, b ≠ g → w.cell? ⟨b, o, none⟩ = some u → w'.cell? ⟨b, o, none⟩ = some u)
    (hn : xs ≠ [] → ∀ b o, (∀ i, i < xs.length → AtC w b (o + i * k) (xs.getD i [])) → b ≠ g) : CK k w' v c xs := by
  obtain ⟨ao, h1, h2, h3, h4⟩ := h
  refine ⟨ao, h1, h2, h3, ?_⟩
  rcases h4 with h4 | ⟨b, o, h5, h6⟩
  · exact .inl h4
  · refine .inr ⟨b, o, h5, fun i hi j hj => ?_⟩
    exact hw _ _ _ (hn (fun e => by rw [e] at hi; simp at hi) b o h6) (h6 i hi j hj)
/-- A block of four slices: no integer lies in it. -/
structure SBx (w : World) (g : Nat) : Prop where
  s : ∀ o k n, w.cell? ⟨g, o, none⟩ ≠ some (.int k n)
  l : ∀ o, 4 ≤ o → w.cell? ⟨g, o, none⟩ = none
theorem SBx.of {w : World} {g : Nat} {a1 a2 a3 a4 : Option Addr} {n1 n2 n3 n4 c1 c2 c3 c4 : Nat} {t : TypeId} (h : B4 w g (.slice a1 n1 c1) (.slice a2 n2 c2) (.slice a3 n3 c3) (.slice a4 n4 c4) t) : SBx w g := by
  unfold B4 at h
  refine ⟨fun o k n e => ?_, fun o ho => ?_⟩
  · have h4 : o = 0 ∨ o = 1 ∨ o = 2 ∨ o = 3 ∨ 4 ≤ o := by omega
    rcases h4 with rfl | rfl | rfl | rfl | h4
    · simp [World.cell?, h] at e
    · simp [World.cell?, h] at e
    · simp [World.cell?, h] at e
    · simp [World.cell?, h] at e
    · simp [World.cell?, h, Array.getElem?_eq_none (xs := #[Value.slice a1 n1 c1, .slice a2 n2 c2, .slice a3 n3 c3, .slice a4 n4 c4]) (i := o) (by simpa using h4)] at e
  · simp [World.cell?, h, Array.getElem?_eq_none (xs := #[Value.slice a1 n1 c1, .slice a2 n2 c2, .slice a3 n3 c3, .slice a4 n4 c4]) (i := o) (by simpa using ho)]
theorem SBx.int {k g : Nat} {w : World} (h : SBx w g) {xs : List (List Value)} (hi : ∀ x ∈ xs, ∃ q n r, x = .int q n :: r) : xs ≠ [] → ∀ b o, (∀ i, i < xs.length → AtC w b (o + i * k) (xs.getD i [])) → b ≠ g := fun h0 b o ha e => by
  subst e
  have hl : 0 < xs.length := List.length_pos_iff.2 h0
  have h1 := ha 0 hl 
  obtain ⟨q, n, r, hx⟩ := hi (xs.getD 0 []) (by
    have : xs.getD 0 [] = xs[0] := by simp [List.getD, hl]
    rw [this]; exact List.getElem_mem hl)
  rw [hx] at h1
  have := h1 0 (by simp)
  exact h.s _ _ _ (by simpa using this)
section
variable {w w' : World} {g : Nat}
theorem NL.frame {v : Value} {c : Nat} {l : List Nm} (h : NL w v c l) (hs : SBx w g) (hw : ∀ b o u, b ≠ g → w.cell? ⟨b, o, none⟩ = some u → w'.cell? ⟨b, o, none⟩ = some u) : NL w' v c l :=
  CK.frame h hw (hs.int fun x hx => by obtain ⟨a, _, rfl⟩ := List.mem_map.1 hx; exact ⟨_, _, _, rfl⟩)
theorem PL.frame {v : Value} {c : Nat} {l : List Ps} (h : PL w v c l) (hs : SBx w g) (hw : ∀ b o u, b ≠ g → w.cell? ⟨b, o, none⟩ = some u → w'.cell? ⟨b, o, none⟩ = some u) : PL w' v c l :=
  CK.frame h hw (hs.int fun x hx => by obtain ⟨a, _, rfl⟩ := List.mem_map.1 hx; exact ⟨_, _, _, rfl⟩)
theorem XL.frame {v : Value} {c : Nat} {l : List Xg} (h : XL w v c l) (hs : SBx w g) (hw : ∀ b o u, b ≠ g → w.cell? ⟨b, o, none⟩ = some u → w'.cell? ⟨b, o, none⟩ = some u) : XL w' v c l :=
  CK.frame h hw (hs.int fun x hx => by obtain ⟨a, _, rfl⟩ := List.mem_map.1 hx; exact ⟨_, _, _, rfl⟩)
theorem LR.frame {v : Value} {c : Nat} {l : List Lp} (h : LR w v c l) (hs : SBx w g) (hw : ∀ b o u, b ≠ g → w.cell? ⟨b, o, none⟩ = some u → w'.cell? ⟨b, o, none⟩ = some u) : LR w' v c l := by
  obtain ⟨us, vs, h1, h2⟩ := h
  refine ⟨us, vs, CK.frame h1 hw (hs.int fun x hx => by obtain ⟨a, _, rfl⟩ := List.mem_map.1 hx; exact ⟨_, _, _, rfl⟩), fun i hi => ?_⟩
  obtain ⟨⟨d, h3⟩, e, h4⟩ := h2 i hi
  exact ⟨⟨d, h3.frame hs hw⟩, e, h4.frame hs hw⟩
theorem TB.frame {v : Value} {c : Nat} {t : Tab} (h : TB w v c t) (h6 : t.length = 6) (hs : SBx w g) (hw : ∀ b o u, b ≠ g → w.cell? ⟨b, o, none⟩ = some u → w'.cell? ⟨b, o, none⟩ = some u) : TB w' v c t := by
  obtain ⟨vs, h1, h2⟩ := h
  refine ⟨vs, CK.frame h1 hw fun _ b o ha e => ?_, fun i hi => ?_⟩
  · subst e
    have hl : 5 < ((List.range t.length).map fun i => [vs i]).length := by simp [h6]
    have h3 := ha 5 hl 0 (by simp [List.getD, h6])
    rw [hs.l _ (by omega)] at h3; cases h3
  · obtain ⟨d, h3⟩ := h2 i hi
    exact ⟨d, h3.frame hs hw⟩
theorem FB.frame {tv cv hv fv : Value} {f : Fab} (h : FB w tv cv hv fv f) (h6 : f.ys.length = 6) (hs : SBx w g) (hw : ∀ b o u, b ≠ g → w.cell? ⟨b, o, none⟩ = some u → w'.cell? ⟨b, o, none⟩ = some u) : FB w' tv cv hv fv f := by
  obtain ⟨⟨c1, h1⟩, ⟨c2, h2⟩, ⟨c3, h3⟩, c4, h4⟩ := h
  exact ⟨⟨c1, h1.frame h6 hs hw⟩, ⟨c2, h2.frame hs hw⟩, ⟨c3, h3.frame hs hw⟩, c4, h4.frame hs hw⟩
end
theorem set4_keeps (w : World) (g : Nat) (x y z u : Value) : ∀ b o v, b ≠ g → w.cell? ⟨b, o, none⟩ = some v → ((((w.setCell ⟨g, 0, none⟩ x).setCell ⟨g, 1, none⟩ y).setCell ⟨g, 2, none⟩ z).setCell ⟨g, 3, none⟩ u).cell? ⟨b, o, none⟩ = some v :=
  fun b o v hb h => cell_set (cell_set (cell_set (cell_set h hb _) hb _) hb _) hb _
end Go.Proofs.YtlhkehfplcclgaaDoor
/- What is spoilt, and what Check says of it. No program in sight. -/
namespace Go.Proofs.YtlhkehfplcclgaaDoor
set_option linter.unusedVariables false
set_option linter.unusedSimpArgs false
set_option maxRecDepth 8000
open Go Go.RowKit

theorem fchk_parts {f : Fab} (h : fchk f = 0) : lchk f.ys = 0 ∧ cchk f.ys f.cr = 0 ∧ pchk f = 0 := by
  unfold fchk at h
  by_cases e : lchk f.ys = 0
  · rw [if_pos e] at h
    by_cases e2 : cchk f.ys f.cr = 0
    · rw [if_pos e2] at h; exact ⟨e, e2, h⟩
    · rw [if_neg e2] at h; exact absurd h e2
  · rw [if_neg e] at h; exact absurd h e
theorem pchk_parts {f : Fab} (h : pchk f = 0) : (∀ a ∈ f.held ++ f.fallen, hasB f.ys a = true) ∧ (∀ i, i < f.fallen.length → srtB f.fallen i = true) ∧ ∀ y, y < f.ys.length → ∀ n, n < (yi f.ys y).length → tms f ⟨(y : Int) + 1, n⟩ = 1 := by
  have h0 : ∀ a ∈ f.held ++ f.fallen, hasB f.ys a = true := fun a ha => by
    cases e : hasB f.ys a with
    | true => rfl
    | false => rw [pchk7 ha e] at h; cases h
  have h1 : ∀ i, i < f.fallen.length → srtB f.fallen i = true := fun i hi => by
    cases e : srtB f.fallen i with
    | true => rfl
    | false => rw [pchk6 h0 hi e] at h; cases h
  refine ⟨h0, h1, fun y hy n hn => ?_⟩
  cases e : onceB f y n with
  | true => exact of_decide_eq_true e
  | false => rw [pchk66 h0 h1 hy hn e] at h; cases h
theorem fchk_p {f g : Fab} (h : fchk f = 0) (hy : g.ys = f.ys) (hc : g.cr = f.cr) : fchk g = pchk g := by
  obtain ⟨h1, h2, _⟩ := fchk_parts h
  unfold fchk
  rw [hy, hc, if_pos h1, if_pos h2]
theorem fchk_c {f g : Fab} (h : fchk f = 0) (hy : g.ys = f.ys) (hc : cchk f.ys g.cr = 1) : fchk g = 1 := by
  obtain ⟨h1, _, _⟩ := fchk_parts h
  unfold fchk
  rw [hy, if_pos h1, hc, if_neg (by decide)]
theorem tms_eq (f : Fab) (a : Nm) : tms f a = ((f.held ++ f.fallen ++ thrT f.ys).count a : Nat) := by
  unfold tms addN cntN; simp
/-- Once more. -/
theorem spoil0 {f : Fab} (h : fchk f = 0) {a : Nm} (ha : hasB f.ys a = true) : fchk { f with held := f.held ++ [a] } = 6 := by
  rw [fchk_p h (g := { f with held := f.held ++ [a] }) rfl rfl]
  obtain ⟨h0, h1, h2⟩ := pchk_parts (fchk_parts h).2.2
  obtain ⟨y, n, rfl, hy, hn⟩ := hasB_iff ha
  refine pchk66 (y := y) (n := n) (fun b hb => ?_) h1 hy hn ?_
  · rcases List.mem_append.1 hb with hb | hb
    · rcases List.mem_append.1 hb with hb | hb
      · exact h0 b (List.mem_append_left _ hb)
      · rw [List.mem_singleton.1 hb]; exact ha
    · exact h0 b (List.mem_append_right _ hb)
  · refine decide_eq_false fun e => ?_
    have e2 := h2 y hy n hn
    rw [tms_eq] at e e2
    dsimp only at e
    simp only [List.count_append, List.count_singleton_self] at e e2
    omega
theorem spoil7 {f : Fab} (h : fchk f = 0) {a : Nm} (ha : hasB f.ys a = false) : fchk { f with held := f.held ++ [a] } = 7 ∧ fchk { f with fallen := f.fallen ++ [a] } = 7 := by
  rw [fchk_p h (g := { f with held := f.held ++ [a] }) rfl rfl, fchk_p h (g := { f with fallen := f.fallen ++ [a] }) rfl rfl]
  exact ⟨pchk7 (a := a) (by simp) ha, pchk7 (a := a) (by simp) ha⟩
theorem spoil3 {f : Fab} (h : fchk f = 0) (hl : f.held ≠ []) : fchk { f with held := f.held.drop 1 } = 6 := by
  rw [fchk_p h (g := { f with held := f.held.drop 1 }) rfl rfl]
  obtain ⟨h0, h1, h2⟩ := pchk_parts (fchk_parts h).2.2
  obtain ⟨a, l, hal⟩ := List.exists_cons_of_ne_nil hl
  obtain ⟨y, n, rfl, hy, hn⟩ := hasB_iff (h0 a (by rw [hal]; simp))
  refine pchk66 (y := y) (n := n) (fun b hb => ?_) h1 hy hn ?_
  · rcases List.mem_append.1 hb with hb | hb
    · exact h0 b (List.mem_append_left _ (List.mem_of_mem_drop hb))
    · exact h0 b (List.mem_append_right _ hb)
  · refine decide_eq_false fun e => ?_
    have e2 := h2 y hy n hn
    rw [tms_eq] at e e2
    dsimp only at e
    rw [hal] at e e2
    simp only [List.drop_succ_cons, List.drop_zero, List.cons_append, List.count_append, List.count_cons_self] at e e2
    omega
theorem spoil4 {f : Fab} (h : fchk f = 0) (hl : 1 < f.fallen.length) : fchk { f with fallen := swp f.fallen 1 } = 6 := by
  rw [fchk_p h (g := { f with fallen := swp f.fallen 1 }) rfl rfl]
  obtain ⟨h0, h1, h2⟩ := pchk_parts (fchk_parts h).2.2
  refine pchk6 (i := 1) (fun b hb => ?_) (by dsimp only; rw [swp_len]; exact hl) ?_
  · rcases List.mem_append.1 hb with hb | hb
    · exact h0 b (List.mem_append_left _ hb)
    · exact h0 b (List.mem_append_right _ ((swp_perm (by decide) hl).mem_iff.1 hb))
  · have h3 := h1 1 hl
    unfold srtB at h3 ⊢
    rw [decide_eq_false (show ¬ (1 = 0) by decide), Bool.false_or, decide_eq_true_iff] at h3
    rw [decide_eq_false (show ¬ (1 = 0) by decide), Bool.false_or]
    refine decide_eq_false fun e => ?_
    dsimp only at e
    rw [swp_at (by decide) hl, swp_at (by decide) hl, if_pos (by rfl), if_neg (by decide), if_pos rfl] at e
    have k1 := cmpN_lt.1 e
    have k2 := cmpN_lt.1 h3
    exact ltN_irr (ltN_trans k1 k2)
theorem spoil5 {f : Fab} (h : fchk f = 0) (a : Nm) : fchk { f with cr := ⟨a, a, 1⟩ :: f.cr } = 1 := by
  refine fchk_c h rfl (cchk_bad (i := 0) (by simp) ?_)
  unfold crB
  rw [xi_zero]
  have : ¬ cmpN a a < 0 := fun e => ltN_irr (cmpN_lt.1 e)
  simp [this]
theorem spoil6 {f : Fab} (h : fchk f = 0) (hl : f.cr ≠ []) {v : Int} (hv : v = 0 ∨ v = 1048577 ∨ v = -1048577) : fchk { f with cr := f.cr.set 0 ⟨(xi f.cr 0).a, (xi f.cr 0).b, v⟩ } = 1 := by
  have h0 : 0 < f.cr.length := List.length_pos_iff.2 hl
  refine fchk_c h rfl (cchk_bad (i := 0) (by simpa using h0) ?_)
  have e : xi (f.cr.set 0 ⟨(xi f.cr 0).a, (xi f.cr 0).b, v⟩) 0 = ⟨(xi f.cr 0).a, (xi f.cr 0).b, v⟩ := by
    rw [xi_of (by simpa using h0)]; simp
  unfold crB
  rw [e]
  rcases hv with rfl | rfl | rfl <;> simp
theorem spoil7c {f : Fab} (h : fchk f = 0) (hl : f.cr ≠ []) : fchk { f with cr := f.cr ++ [xi f.cr (f.cr.length - 1)] } = 1 := by
  have h0 : 0 < f.cr.length := List.length_pos_iff.2 hl
  refine fchk_c h rfl (cchk_bad (i := f.cr.length) (by simp) ?_)
  have e1 : xi (f.cr ++ [xi f.cr (f.cr.length - 1)]) f.cr.length = xi f.cr (f.cr.length - 1) := by
    rw [xi_of (by simp)]; simp
  have e2 : xi (f.cr ++ [xi f.cr (f.cr.length - 1)]) (f.cr.length - 1) = xi f.cr (f.cr.length - 1) := by
    rw [xi_of (by simp; omega), List.getElem_append_left (by omega), xi_of (by omega)]
  unfold crB
  rw [e1, e2]
  have k1 : ¬ cmpX (xi f.cr (f.cr.length - 1)) (xi f.cr (f.cr.length - 1)) < 0 := by rw [cmpX_eq.2 ⟨rfl, rfl⟩]; decide
  have k2 : ¬ f.cr.length = 0 := by omega
  simp [k1, k2]
theorem spoil8 {f : Fab} (h6 : f.ys.length = 6) : fchk { f with ys := f.ys.take 5 } = 5 := by
  have : lchk (f.ys.take 5) = 5 := by unfold lchk; rw [if_neg (by rw [List.length_take, h6]; decide)]
  unfold fchk
  rw [if_neg (by dsimp only; rw [this]; decide)]; exact this
theorem bad_cross {f : Fab} {e : Int} (h : fchk f = e) (he : e ≠ 0) (a : Nm) : crossE f a a 1 = e := by
  unfold crossE; rw [if_neg (by rw [h]; exact he)]; exact h
end Go.Proofs.YtlhkehfplcclgaaDoor
/- The law FabricsCheck: memory; Empty. -/
namespace Go.Proofs.YtlhkehfplcclgaaDoor
set_option linter.unusedVariables false
set_option linter.unusedSimpArgs false
set_option maxRecDepth 8000
open Go Go.RowKit

def emptyF : Fab := ⟨[[], [], [], [], [], []], [], [], []⟩
set_option maxHeartbeats 4000000 in
theorem LEmpty_calls (w : World) : Calls Tryd.prog 47 #[] w fun e w' => e = .returned (.slice (some ⟨w.heap.size, 0, none⟩) 6 6) ∧ w' = w.alloc (.cells (madeCells #[.slice none 0 0] 6) 47) := by
  have hmk : ∀ w, (Instr.makeSlice 31 (.int .i64 6) (.int .i64 6)).run Tryd.prog w = .ok (.slice (some ⟨w.heap.size, 0, none⟩) 6 6) (w.alloc (.cells (madeCells #[.slice none 0 0] 6) 47)) := fun w => by
    have h1 := make_k ekT (by decide) 6 (by omega) .i64 .i64 w
    exact h1
  go_enter Tryd.func47, Tryd.ntmps47
  go_wp2
  go_ret
  exact ⟨rfl, rfl⟩
set_option maxHeartbeats 4000000 in
theorem Empty_calls (w : World) : Calls Tryd.prog 15 #[] w fun e w' => (∃ g, e = .returned (.agg #[.slice (some ⟨g, 0, none⟩) 6 6, .slice none 0 0, .slice none 0 0, .slice none 0 0]) ∧ FB w' (.slice (some ⟨g, 0, none⟩) 6 6) (.slice none 0 0) (.slice none 0 0) (.slice none 0 0) emptyF) ∧ Ext w w' := by
  obtain ⟨W, hW⟩ : ∃ W, W = w.alloc (.cells #[.slice none 0 0, .slice none 0 0, .slice none 0 0, .slice none 0 0] 35) := ⟨_, rfl⟩
  have HB := Lib.hid (show B4 W w.heap.size (.slice none 0 0) (.slice none 0 0) (.slice none 0 0) (.slice none 0 0) 35 by rw [hW]; exact B4.new _ _ _ _ _ _)
  have XW := Lib.hid (show Ext w W by rw [hW]; exact (Ext.refl _).alloc _)
  have HW := Lib.hid hW
  have Hs := Lib.hid (show W.heap.size = w.heap.size + 1 by rw [hW]; simp)
  clear hW
  go_enter Tryd.func15, Tryd.ntmps15
  go_wp2_with fail
  rw [← HW.out]
  refine (LEmpty_calls W).mono ?_
  rintro e w2 ⟨rfl, hw2⟩
  have x2 : Ext W w2 := by rw [hw2]; exact (Ext.refl _).alloc _
  have hrow : w2.rowIs W.heap.size 47 6 (fun _ => .slice none 0 0) := by rw [hw2]; exact World.rowIs_made W _ 6 _
  have hB := HB.out.ext x2
  have hlt : w.heap.size < W.heap.size := by rw [Hs.out]; omega
  obtain ⟨g, hg⟩ : ∃ g, g = W.heap.size := ⟨_, rfl⟩
  rw [← hg] at hrow ⊢
  obtain ⟨VF, hVF⟩ : ∃ VF, VF = (((w2.setCell ⟨w.heap.size, 0, none⟩ (.slice (some ⟨g, 0, none⟩) 6 6)).setCell ⟨w.heap.size, 1, none⟩ (.slice none 0 0)).setCell ⟨w.heap.size, 2, none⟩ (.slice none 0 0)).setCell ⟨w.heap.size, 3, none⟩ (.slice none 0 0) := ⟨_, rfl⟩
  have zF := hB.put4 (.slice (some ⟨g, 0, none⟩) 6 6) (.slice none 0 0) (.slice none 0 0) (.slice none 0 0)
  rw [← hVF] at zF
  have d0 := zF.c0; have d1 := zF.c1; have d2 := zF.c2; have d3 := zF.c3
  have hr2 : VF.rowIs g 47 6 (fun _ => .slice none 0 0) := hrow.of_block (by
    rw [hVF, Below.heap_setCell _ _ _ _ (by dsimp only; omega), Below.heap_setCell _ _ _ _ (by dsimp only; omega), Below.heap_setCell _ _ _ _ (by dsimp only; omega), Below.heap_setCell _ _ _ _ (by dsimp only; omega)])
  have HE := Lib.hid (show (∃ g', Ending.returned (.agg #[.slice (some ⟨g, 0, none⟩) 6 6, .slice none 0 0, .slice none 0 0, .slice none 0 0]) = .returned (.agg #[.slice (some ⟨g', 0, none⟩) 6 6, .slice none 0 0, .slice none 0 0, .slice none 0 0]) ∧ FB VF (.slice (some ⟨g', 0, none⟩) 6 6) (.slice none 0 0) (.slice none 0 0) (.slice none 0 0) emptyF) ∧ Ext w VF from
    ⟨⟨g, rfl, ⟨⟨6, (OT.init hr2).tb rfl⟩, ⟨0, XL.nil _⟩, ⟨0, NL.nil _⟩, 0, NL.nil _⟩⟩, by rw [hVF]; exact Ext.set4 (XW.out.trans x2) (Nat.le_refl _) _ _ _ _⟩)
  obtain ⟨q0, q1, q2, q3⟩ := B4.cells hB
  have qf := hB.fr; have ql := hB.lt
  have HVF := Lib.hid hVF
  clear hw2 hrow hB hlt hg hVF zF hr2 x2
  go_wp2
  rw [← HVF.out]
  exact bodyPost_ret (v := .agg #[.slice (some ⟨g, 0, none⟩) 6 6, .slice none 0 0, .slice none 0 0, .slice none 0 0]) (by simp [results, Tryd.results15, go_sem, d0, d1, d2, d3]) rfl HE.out
theorem ofF_empty {x : FD} (h : (ofT x.t).made.length = 0) : ofF x = emptyF := by
  have h1 : x.t = [] := by
    have h2 := (ofT_inv x.t).2
    rw [h, List.length_take] at h2
    exact List.eq_nil_of_length_eq_zero (by omega)
  unfold ofF
  rw [h1]
  rfl
/-- A fabric's four slices, the table as Of has made it. -/
theorem fb_of {g0 : Nat} {w w1 : World} {F : Nat → Value} {us vs : Nat → Nat → Value} {lv mv cv hv fv : Value} {s : TS} {f : Fab} (hO : OT g0 w1 F us vs s lv mv) (h6 : s.t.length = 6) (u : Agr g0 w1 w) (hy : f.ys = s.t)
    (hc : ∃ c, XL w cv c f.cr) (hh : ∃ c, NL w hv c f.held) (hf : ∃ c, NL w fv c f.fallen) : FB w (.slice (some ⟨g0, 0, none⟩) 6 6) cv hv fv f := ⟨⟨6, by rw [hy]; exact (hO.agr u).tb h6⟩, hc, hh, hf⟩
theorem own_nl {w : World} {N n : Nat} {v : Value} {l : List Nm} (h : w.ownsRow N 41 2 v n (l.map Nm.cs).flatten) (hn : n = l.length) : ∃ c, NL w v c l := CK.of_own h (Ks.nm l) (by rw [List.length_map]; exact hn) (by decide)
theorem own_xl {w : World} {N n : Nat} {v : Value} {l : List Xg} (h : w.ownsRow N 52 5 v n (l.map Xg.cs).flatten) (hn : n = l.length) : ∃ c, XL w v c l := CK.of_own h (Ks.xg l) (by rw [List.length_map]; exact hn) (by decide)
theorem Agr.grown {g0 : Nat} {w1 w w' : World} {v : Option Nat} (h : Agr g0 w1 w) (hs : w1.heap.size ≤ w.heap.size) (hg : w.grownBy w' v) (hv : ∀ g, v = some g → w1.heap.size ≤ g) : Agr g0 w1 w' := fun k h1 h2 => by
  rw [hg.block k (by omega) (fun e => by have := hv k e.symm; omega)]; exact h k h1 h2
theorem own_box {w : World} {N n k b : Nat} {v x y z u : Value} {xs : List Value} {e : TypeId} (h : w.ownsRow N e k v n xs) (hb : B4 w b x y z u 35) (he : e ≠ 35) (o : Nat) (q : Value) : (w.setCell ⟨b, o, none⟩ q).ownsRow N e k v n xs := own_set h (own_b4 h hb he) q
theorem own_lit1 (w : World) (cs : List Value) (e : TypeId) (k : Nat) (hk : cs.length = k) : (w.alloc (.cells cs.toArray e)).ownsRow w.heap.size e k (.slice (some ⟨w.heap.size, 0, none⟩) 1 1) 1 cs :=
  ⟨by simp [hk], .inr ⟨w.heap.size, 1, cs.toArray, rfl, Nat.le_refl _, Deep.blk_alloc_new _ _, Nat.le_refl _, by unfold maxLen; omega, by simp [hk], by rw [Nat.one_mul, List.take_of_length_le (by simp [hk])]⟩⟩
end Go.Proofs.YtlhkehfplcclgaaDoor
/- decimal, name, names. -/
namespace Go.Proofs.YtlhkehfplcclgaaDoor
set_option linter.unusedVariables false
set_option linter.unusedSimpArgs false
set_option maxRecDepth 8000
open Go Go.RowKit Go.Sort

theorem conv1 (x : Int) (W : World) (g : Nat) (hg : g = W.heap.size) :
    (convert 25 9 (.slice (some ⟨g, 0, none⟩) 1 1)).run Tryd.prog (W.alloc (.cells #[.int .u8 x] 5)) = .ok (.string (bst [UInt8.ofNat x.toNat])) (W.alloc (.cells #[.int .u8 x] 5)) := by
  have h : IS .u8 (W.alloc (.cells #[.int .u8 x] 5)) (.slice (some ⟨g, 0, none⟩) 1 1) 1 [x] := IS.lit rfl hg rfl (by omega)
  exact run_bstr h Tryd.underlying25 Tryd.underlying5 Tryd.underlying9
theorem conv1w (x : Int) (w : World) (g : Nat) (hb : w.heap[g]? = some (.cells #[.int .u8 x] 5 (0, 0))) :
    (convert 25 9 (.slice (some ⟨g, 0, none⟩) 1 1)).run Tryd.prog w = .ok (.string (bst [UInt8.ofNat x.toNat])) w := by
  have h : IS .u8 w (.slice (some ⟨g, 0, none⟩) 1 1) 1 [x] := by
    refine ⟨some ⟨g, 0, none⟩, rfl, by simp, by unfold maxLen; omega, fun h => (by cases h), fun a e => ?_⟩
    cases e
    refine ⟨fun _ => rfl, fun j u hj => ?_⟩
    cases j with
    | zero => simp at hj; subst hj; simp [World.cell?, hb]
    | succ j => simp at hj
  exact run_bstr h Tryd.underlying25 Tryd.underlying5 Tryd.underlying9
theorem dec_lt {u : Nat} (h : u < 10) : Lib.decDigits u = [UInt8.ofNat (48 + u)] := by unfold Lib.decDigits; rw [dif_pos h]
theorem dec_ge {u : Nat} (h : ¬ u < 10) : Lib.decDigits u = Lib.decDigits (u / 10) ++ [UInt8.ofNat (48 + u % 10)] := by
  conv => lhs; unfold Lib.decDigits
  rw [dif_neg h]
theorem dec_len {u : Nat} (h : u ≤ 9223372036854775807) : (Lib.decDigits u).length ≤ 21 := by
  have := Lib.itoa_length_le (u : Int) (by omega) (by omega)
  unfold Lib.itoa at this
  rw [if_neg (by omega)] at this; simpa using this
set_option maxHeartbeats 8000000 in
theorem Dec_calls : ∀ (k u : Nat) (w : World), u ≤ 9223372036854775807 → u ≤ k → Calls Tryd.prog 20 #[.int .i64 u] w fun e w' => e = .returned (.string (bst (Lib.decDigits u))) ∧ Ext w w' := by
  intro k
  induction k with
  | zero =>
    intro u w h9 hk
    obtain rfl : u = 0 := by omega
    have hc := conv1
    have HE := Lib.hid (show bst [UInt8.ofNat (48 : Int).toNat] = bst (Lib.decDigits 0) by rw [dec_lt (by decide)]; rfl)
    have X := Lib.hid (show Ext w (w.alloc (.cells #[.int .u8 48] 5)) from (Ext.refl _).alloc _)
    rw [← HE.out]
    go_enter Tryd.func20, Tryd.ntmps20
    go_wp2
    go_ret
    exact ⟨rfl, X.out⟩
  | succ k ih =>
    intro u w h9 hk
    by_cases h10 : u < 10
    · have hc := conv1
      have f1 : (u : Int) < 10 := by omega
      have e1 : IntKind.u8.wrap (u : Int) = u := IntWalk.u8_in _ ⟨by omega, by omega⟩
      have e2 : IntKind.u8.wrap (48 + (u : Int)) = 48 + u := IntWalk.u8_in _ ⟨by omega, by omega⟩
      have HE := Lib.hid (show bst [UInt8.ofNat (48 + (u : Int)).toNat] = bst (Lib.decDigits u) by rw [dec_lt h10]; congr 2)
      have X := Lib.hid (show Ext w (w.alloc (.cells #[.int .u8 (48 + (u : Int))] 5)) from (Ext.refl _).alloc _)
      rw [← HE.out]
      go_enter Tryd.func20, Tryd.ntmps20
      go_wp2
      go_ret
      exact ⟨rfl, X.out⟩
    · have f1 : ¬ (u : Int) < 10 := by omega
      have hdl := dec_len (u := u / 10) (by omega)
      have HD := Lib.hid (show ∀ w', Calls Tryd.prog 20 #[.int .i64 ((u / 10 : Nat) : Int)] w' fun e w'' => e = .returned (.string (bst (Lib.decDigits (u / 10)))) ∧ Ext w' w'' from fun w' => ih (u / 10) w' (by omega) (by omega))
      obtain ⟨S1, hS1⟩ : ∃ S1, S1 = bst (Lib.decDigits (u / 10)) := ⟨_, rfl⟩
      rw [← hS1] at HD
      have z1 : S1.size ≤ 21 := by rw [hS1, bst_size]; exact hdl
      obtain ⟨q, hq⟩ : ∃ q, q = u / 10 := ⟨_, rfl⟩
      obtain ⟨d, hd⟩ : ∃ d, d = u % 10 := ⟨_, rfl⟩
      have hd10 : d < 10 := by omega
      rw [← hq] at HD
      have e0 : (u : Int).tdiv 10 = (q : Int) := by rw [hq, Int.tdiv_eq_ediv_of_nonneg (by omega)]; omega
      have e0' : (u : Int) / 10 = (q : Int) := by omega
      have e1 : (u : Int).tmod 10 = (d : Int) := by rw [hd, Int.tmod_eq_emod_of_nonneg (by omega)]; omega
      have e1' : (u : Int) % 10 = (d : Int) := by omega
      have e2 : IntKind.u8.wrap (d : Int) = d := IntWalk.u8_in _ ⟨by omega, by omega⟩
      have e4 : IntKind.i64.wrap (q : Int) = q := IntWalk.i64_in _ ⟨by omega, by omega⟩
      have e3 : IntKind.u8.wrap (48 + (d : Int)) = 48 + d := IntWalk.u8_in _ ⟨by omega, by omega⟩
      obtain ⟨S2, hS2⟩ : ∃ S2, S2 = bst [UInt8.ofNat (48 + (d : Int)).toNat] := ⟨_, rfl⟩
      have HE := Lib.hid (show S1 ++ S2 = bst (Lib.decDigits u) by rw [dec_ge h10, hS1, hS2, bst_app, ← hd]; congr 3)
      have y1 : S2.size = 1 := by rw [hS2, bst_size]; rfl
      have y2 : ¬ 9223372036854775807 < S1.size + S2.size := by omega
      have y3 : ¬ 9223372036854775807 < S1.size + 1 := by omega
      have hc := conv1
      have hcw := conv1w (48 + (d : Int))
      rw [← hS2] at hcw
      have hc2 := fun W g h => conv1 (48 + (d : Int)) W g h
      rw [← hS2] at hc2
      rw [← HE.out]
      have HC := Lib.hid hc2; have HCw := Lib.hid hcw
      clear hc hc2 hcw hS1 hS2 hq hd hdl ih h10
      go_enter Tryd.func20, Tryd.ntmps20
      go_upto_region 3 with fail
      refine wp_region_held_drew (S := fun w' => True) (by kernel_rfl) ?_ (fun hHeld => ?_)
      · exact trivial
      refine wpAnyH_take (i := 0) (v := ?va94_0) rfl (by kernel_rfl) (by kernel_rfl) (by kernel_rfl) (fun _ _ _ h => h) (Or.inl ⟨by rfl, fun w hSw => ?ti94_0⟩) (by assumption) ?rest94_0
      case ti94_0 => ((try dsimp only at hSw); go_simp; (first | done | with_reducible rfl))
      try simp only [Act.put, List.getElem_toArray, List.getElem_cons_zero, List.getElem_cons_succ, List.setIfInBounds_toArray, List.set_cons_zero, List.set_cons_succ]
      refine wpAnyH_take (i := 1) (v := ?va97_1) rfl (by kernel_rfl) (by kernel_rfl) (by kernel_rfl) (fun _ _ _ h => h) (Or.inl ⟨by rfl, fun w hSw => ?ti97_1⟩) (by assumption) ?rest97_1
      case ti97_1 => ((try dsimp only at hSw); go_simp; (first | done | with_reducible rfl))
      try simp only [Act.put, List.getElem_toArray, List.getElem_cons_zero, List.getElem_cons_succ, List.setIfInBounds_toArray, List.set_cons_zero, List.set_cons_succ]
      refine wpAnyH_take (i := 3) (v := ?va100_3) rfl (by kernel_rfl) (by kernel_rfl) (by kernel_rfl) (fun _ _ _ h => h) (Or.inl ⟨by rfl, fun w hSw => ?ti100_3⟩) (by assumption) ?rest100_3
      case ti100_3 => ((try dsimp only at hSw); go_simp; (first | done | with_reducible rfl))
      try simp only [Act.put, List.getElem_toArray, List.getElem_cons_zero, List.getElem_cons_succ, List.setIfInBounds_toArray, List.set_cons_zero, List.set_cons_succ]
      refine wpAnyH_take (i := 4) (v := ?va103_4) rfl (by kernel_rfl) (by kernel_rfl) (by kernel_rfl) (fun _ _ _ h => h) (Or.inl ⟨by rfl, fun w hSw => ?ti103_4⟩) (by assumption) ?rest103_4
      case ti103_4 => ((try dsimp only at hSw); go_simp; (first | done | with_reducible rfl))
      try simp only [Act.put, List.getElem_toArray, List.getElem_cons_zero, List.getElem_cons_succ, List.setIfInBounds_toArray, List.set_cons_zero, List.set_cons_succ]
      refine wpAnyH_take (i := 5) (v := ?va106_5) rfl (by kernel_rfl) (by kernel_rfl) (by kernel_rfl) (fun _ _ _ h => h) (Or.inl ⟨by rfl, fun w hSw => ?ti106_5⟩) (by assumption) ?rest106_5
      case ti106_5 => ((try dsimp only at hSw); go_simp; (first | done | with_reducible rfl))
      try simp only [Act.put, List.getElem_toArray, List.getElem_cons_zero, List.getElem_cons_succ, List.setIfInBounds_toArray, List.set_cons_zero, List.set_cons_succ]
      refine wpAnyH_take (i := 6) (v := ?va109_6) rfl (by kernel_rfl) (by kernel_rfl) (by kernel_rfl) (fun _ _ _ h => h) (Or.inl ⟨by rfl, fun w hSw => ?ti109_6⟩) (by assumption) ?rest109_6
      case ti109_6 => ((try dsimp only at hSw); go_simp; (first | done | with_reducible rfl))
      try simp only [Act.put, List.getElem_toArray, List.getElem_cons_zero, List.getElem_cons_succ, List.setIfInBounds_toArray, List.set_cons_zero, List.set_cons_succ]
      refine wpAnyH_ready (rs := [2, 7]) (by kernel_rfl) (by simp) ?_
      refine AllReadyH.cons rfl (fun K hK => ?_) (AllReadyH.cons rfl (fun K hK => ?_) AllReadyH.nil)
      · go_simp
        refine (HD.out _).mono ?_
        rintro e w1 ⟨rfl, x⟩
        have Xw1 : Hid (Ext w w1) := Lib.hid (Ext.trans (by (focus (repeat (first | (with_reducible exact Ext.refl _) | (with_reducible apply Ext.drew) | (with_reducible apply Ext.drewN) | (with_reducible apply Ext.alloc))))) x)
        clear x
        go_simp
        refine hK.out _ _ trivial (fun hHeld => ?_)
        clear hK K; try simp only [Act.put, List.getElem_toArray, List.getElem_cons_zero, List.getElem_cons_succ, List.setIfInBounds_toArray, List.set_cons_zero, List.set_cons_succ]
        refine wpAnyH_ready (rs := [7]) (by kernel_rfl) (by simp) ?_
        refine AllReadyH.cons rfl (fun K hK => ?_) AllReadyH.nil
        go_simp
        refine hK.out _ _ trivial (fun hHeld => ?_)
        clear hK K; try simp only [Act.put, List.getElem_toArray, List.getElem_cons_zero, List.getElem_cons_succ, List.setIfInBounds_toArray, List.set_cons_zero, List.set_cons_succ]
        refine wpAnyH_ready (rs := [8]) (by kernel_rfl) (by simp) ?_
        refine AllReadyH.cons rfl (fun K hK => ?_) AllReadyH.nil
        have hcv := HC.out w1 w1.heap.size rfl
        go_simp
        clear hcv
        refine hK.out _ _ trivial (fun hHeld => ?_)
        clear hK K; try simp only [Act.put, List.getElem_toArray, List.getElem_cons_zero, List.getElem_cons_succ, List.setIfInBounds_toArray, List.set_cons_zero, List.set_cons_succ]
        refine wpAnyH_ready (rs := [9]) (by kernel_rfl) (by simp) ?_
        refine AllReadyH.cons rfl (fun K hK => ?_) AllReadyH.nil
        go_simp
        refine hK.out _ _ trivial (fun hHeld => ?_)
        clear hK K; try simp only [Act.put, List.getElem_toArray, List.getElem_cons_zero, List.getElem_cons_succ, List.setIfInBounds_toArray, List.set_cons_zero, List.set_cons_succ]
        refine wpAnyH_ready (rs := [10]) (by kernel_rfl) (by simp) ?_
        refine AllReadyH.cons rfl (fun K hK => ?_) AllReadyH.nil
        go_simp
        refine hK.out _ _ trivial (fun hHeld => ?_)
        clear hK K; try simp only [Act.put, List.getElem_toArray, List.getElem_cons_zero, List.getElem_cons_succ, List.setIfInBounds_toArray, List.set_cons_zero, List.set_cons_succ]
        refine wpAnyH_done (by kernel_rfl) ?_ _
        go_wp2
        go_ret
        exact ⟨rfl, Xw1.out.trans ((Ext.refl _).alloc _)⟩
      · go_simp
        refine hK.out _ _ trivial (fun hHeld => ?_)
        clear hK K; try simp only [Act.put, List.getElem_toArray, List.getElem_cons_zero, List.getElem_cons_succ, List.setIfInBounds_toArray, List.set_cons_zero, List.set_cons_succ]
        refine wpAnyH_ready (rs := [2, 8]) (by kernel_rfl) (by simp) ?_
        refine AllReadyH.cons rfl (fun K hK => ?_) (AllReadyH.cons rfl (fun K hK => ?_) AllReadyH.nil)
        · go_simp
          refine (HD.out _).mono ?_
          rintro e w2 ⟨rfl, x⟩
          have Xw2 : Hid (Ext w w2) := Lib.hid (Ext.trans (by (focus (repeat (first | (with_reducible exact Ext.refl _) | (with_reducible apply Ext.drew) | (with_reducible apply Ext.drewN) | (with_reducible apply Ext.alloc))))) x)
          have hcv := HCw.out w2 w.heap.size (Ext.block x (Deep.blk_alloc_new w _))
          clear x
          go_simp
          refine hK.out _ _ trivial (fun hHeld => ?_)
          clear hK K; try simp only [Act.put, List.getElem_toArray, List.getElem_cons_zero, List.getElem_cons_succ, List.setIfInBounds_toArray, List.set_cons_zero, List.set_cons_succ]
          refine wpAnyH_ready (rs := [8]) (by kernel_rfl) (by simp) ?_
          refine AllReadyH.cons rfl (fun K hK => ?_) AllReadyH.nil
          go_simp
          clear hcv
          refine hK.out _ _ trivial (fun hHeld => ?_)
          clear hK K; try simp only [Act.put, List.getElem_toArray, List.getElem_cons_zero, List.getElem_cons_succ, List.setIfInBounds_toArray, List.set_cons_zero, List.set_cons_succ]
          refine wpAnyH_ready (rs := [9]) (by kernel_rfl) (by simp) ?_
          refine AllReadyH.cons rfl (fun K hK => ?_) AllReadyH.nil
          go_simp
          refine hK.out _ _ trivial (fun hHeld => ?_)
          clear hK K; try simp only [Act.put, List.getElem_toArray, List.getElem_cons_zero, List.getElem_cons_succ, List.setIfInBounds_toArray, List.set_cons_zero, List.set_cons_succ]
          refine wpAnyH_ready (rs := [10]) (by kernel_rfl) (by simp) ?_
          refine AllReadyH.cons rfl (fun K hK => ?_) AllReadyH.nil
          go_simp
          refine hK.out _ _ trivial (fun hHeld => ?_)
          clear hK K; try simp only [Act.put, List.getElem_toArray, List.getElem_cons_zero, List.getElem_cons_succ, List.setIfInBounds_toArray, List.set_cons_zero, List.set_cons_succ]
          refine wpAnyH_done (by kernel_rfl) ?_ _
          go_wp2
          go_ret
          exact ⟨rfl, Xw2.out⟩
        · have hcv := HCw.out ((w.alloc (.cells #[.int .u8 (48 + (d : Int))] 5))).drew w.heap.size (Deep.blk_alloc_new w _)
          go_simp
          clear hcv
          refine hK.out _ _ trivial (fun hHeld => ?_)
          clear hK K; try simp only [Act.put, List.getElem_toArray, List.getElem_cons_zero, List.getElem_cons_succ, List.setIfInBounds_toArray, List.set_cons_zero, List.set_cons_succ]
          refine wpAnyH_ready (rs := [2]) (by kernel_rfl) (by simp) ?_
          refine AllReadyH.cons rfl (fun K hK => ?_) AllReadyH.nil
          go_simp
          refine (HD.out _).mono ?_
          rintro e w2 ⟨rfl, x⟩
          have Xw2 : Hid (Ext w w2) := Lib.hid (Ext.trans (by (focus (repeat (first | (with_reducible exact Ext.refl _) | (with_reducible apply Ext.drew) | (with_reducible apply Ext.drewN) | (with_reducible apply Ext.alloc))))) x)
          clear x
          go_simp
          refine hK.out _ _ trivial (fun hHeld => ?_)
          clear hK K; try simp only [Act.put, List.getElem_toArray, List.getElem_cons_zero, List.getElem_cons_succ, List.setIfInBounds_toArray, List.set_cons_zero, List.set_cons_succ]
          refine wpAnyH_ready (rs := [9]) (by kernel_rfl) (by simp) ?_
          refine AllReadyH.cons rfl (fun K hK => ?_) AllReadyH.nil
          go_simp
          refine hK.out _ _ trivial (fun hHeld => ?_)
          clear hK K; try simp only [Act.put, List.getElem_toArray, List.getElem_cons_zero, List.getElem_cons_succ, List.setIfInBounds_toArray, List.set_cons_zero, List.set_cons_succ]
          refine wpAnyH_ready (rs := [10]) (by kernel_rfl) (by simp) ?_
          refine AllReadyH.cons rfl (fun K hK => ?_) AllReadyH.nil
          go_simp
          refine hK.out _ _ trivial (fun hHeld => ?_)
          clear hK K; try simp only [Act.put, List.getElem_toArray, List.getElem_cons_zero, List.getElem_cons_succ, List.setIfInBounds_toArray, List.set_cons_zero, List.set_cons_succ]
          refine wpAnyH_done (by kernel_rfl) ?_ _
          go_wp2
          go_ret
          exact ⟨rfl, Xw2.out⟩
theorem itoa_nn {n : Int} (h : 0 ≤ n) : Lib.itoa n = Lib.decDigits n.toNat := by unfold Lib.itoa; rw [if_neg (by omega)]
theorem Dec2_calls (n : Int) (w : World) (h0 : 0 ≤ n) (h9 : n ≤ 9223372036854775807) : Calls Tryd.prog 20 #[.int .i64 n] w fun e w' => e = .returned (.string (bst (Lib.itoa n))) ∧ Ext w w' := by
  have h := Dec_calls n.toNat n.toNat w (by omega) (Nat.le_refl _)
  rw [Int.toNat_of_nonneg h0] at h
  rw [itoa_nn h0]; exact h
set_option maxHeartbeats 4000000 in
theorem LName_calls (a : Nm) (w : World) (ha : a.In) (h0 : 0 ≤ a.n) : Calls Tryd.prog 18 #[a.val] w fun e w' => e = .returned (.string (bst (nameT a))) ∧ Ext w w' := by
  obtain ⟨⟨h1, h2⟩, h3, h4⟩ := ha
  have k1 := Lib.itoa_length_le a.y (by omega) (by omega)
  have k2 := Lib.itoa_length_le a.n h3 h4
  obtain ⟨W, hW⟩ : ∃ W, W = w.alloc (.cells #[.int .u8 a.y, .int .i64 a.n] 41) := ⟨_, rfl⟩
  have XW := Lib.hid (show Ext w W by rw [hW]; exact (Ext.refl _).alloc _)
  obtain ⟨q0_1, q0_2⟩ := (show BN W w.heap.size a by rw [hW]; exact BN.new w a).at
  simp only [Nat.zero_add] at q0_2
  obtain ⟨S1, hS1⟩ : ∃ S1, S1 = bst (Lib.itoa a.y) := ⟨_, rfl⟩
  obtain ⟨S2, hS2⟩ : ∃ S2, S2 = bst (Lib.itoa a.n) := ⟨_, rfl⟩
  have H1 := Lib.hid (show ∀ w', Ext w w' → Calls Tryd.prog 20 #[.int .i64 a.y] w' fun e w'' => e = .returned (.string S1) ∧ Ext w' w'' from fun w' x => by rw [hS1]; exact Dec2_calls a.y w' h1 (by omega))
  have H2 := Lib.hid (show ∀ w', Ext w w' → Calls Tryd.prog 20 #[.int .i64 a.n] w' fun e w'' => e = .returned (.string S2) ∧ Ext w' w'' from fun w' x => by rw [hS2]; exact Dec2_calls a.n w' h0 h4)
  have z1 : S1.size ≤ 21 := by rw [hS1, bst_size]; exact k1
  have z2 : S2.size ≤ 21 := by rw [hS2, bst_size]; exact k2
  have y1 : ¬ 9223372036854775807 < S1.size + 1 := by omega
  have y2 : ¬ 9223372036854775807 < S1.size + 1 + S2.size := by omega
  have HE := Lib.hid (show S1 ++ bst [46] ++ S2 = bst (nameT a) by rw [hS1, hS2, bst_app, bst_app]; rfl)
  rw [← HE.out]
  have t1 : IntKind.i64.wrap a.y = a.y := IntWalk.i64_in _ ⟨by omega, by omega⟩
  have HW := Lib.hid hW
  unfold Nm.val
  clear hW hS1 hS2 k1 k2
  go_enter Tryd.func18, Tryd.ntmps18
  go_wp2
  rw [← HW.out]
  generalize a.y = Y at *
  generalize a.n = N at *
  go_region_held3 (fun w' => w'.cell? ⟨w.heap.size, 0, Option.none⟩ = some (.int .u8 Y) ∧ w'.cell? ⟨w.heap.size, 1, Option.none⟩ = some (.int .i64 N)) (first | (with_reducible exact ⟨q0_1, q0_2⟩) | (with_reducible exact ⟨q1_1, q1_2⟩) | (with_reducible exact ⟨q2_1, q2_2⟩) | go_keep) (first
    | (go_at_call_of 20 (Value.int .i64 Y); (refine (H1.out _ ?_).mono ?_); (focus (refine Ext.trans XW.out ?_; (focus (repeat (first | (with_reducible exact Ext.refl _) | (with_reducible apply Ext.drew) | (with_reducible apply Ext.drewN) | (with_reducible apply Ext.alloc)))))); intro e w1 hh; obtain ⟨rfl, x⟩ := hh; have Xa : Hid (Ext W w1) := Lib.hid (Ext.trans (by ((repeat (first | (with_reducible exact Ext.refl _) | (with_reducible apply Ext.drew) | (with_reducible apply Ext.drewN) | (with_reducible apply Ext.alloc))); done)) x); have q1_1 := Xa.out.cell q0_1; have q1_2 := Xa.out.cell q0_2; clear x)
    | (go_at_call_of 20 (Value.int .i64 N); (refine (H2.out _ ?_).mono ?_); (focus (refine Ext.trans (XW.out.trans Xa.out) ?_; (focus (repeat (first | (with_reducible exact Ext.refl _) | (with_reducible apply Ext.drew) | (with_reducible apply Ext.drewN) | (with_reducible apply Ext.alloc)))))); intro e w2 hh; obtain ⟨rfl, x⟩ := hh; have Xb : Hid (Ext W w2) := Lib.hid (Ext.trans Xa.out (Ext.trans (by ((repeat (first | (with_reducible exact Ext.refl _) | (with_reducible apply Ext.drew) | (with_reducible apply Ext.drewN) | (with_reducible apply Ext.alloc))); done)) x)); have q2_1 := Xb.out.cell q0_1; have q2_2 := Xb.out.cell q0_2; clear x))
  all_goals go_wp2
  all_goals go_ret
  all_goals exact ⟨rfl, XW.out.trans Xb.out⟩
/-- Words, each behind a space. -/
def sp (l : List (List UInt8)) : List UInt8 := (l.map fun x => 32 :: x).flatten
theorem sp_nil : sp [] = [] := rfl
theorem sp_cons (x : List UInt8) (l : List (List UInt8)) : sp (x :: l) = 32 :: (x ++ sp l) := by unfold sp; simp
theorem sp_app (l m : List (List UInt8)) : sp (l ++ m) = sp l ++ sp m := by unfold sp; simp
theorem sp_len {k : Nat} : ∀ {l : List (List UInt8)}, (∀ x ∈ l, x.length ≤ k) → (sp l).length ≤ l.length * (k + 1)
  | [], _ => by simp [sp]
  | x :: l, h => by
    have h1 := h x List.mem_cons_self
    have h2 := sp_len (l := l) fun y hy => h y (List.mem_cons_of_mem _ hy)
    rw [sp_cons, List.length_cons, List.length_append, List.length_cons, Nat.succ_mul]; omega
theorem sp_take {l : List Nm} {k : Nat} (h : k < l.length) : sp ((l.take (k + 1)).map nameT) = sp ((l.take k).map nameT) ++ ([32] ++ nameT (ni l k)) := by
  rw [List.take_succ_eq_append_getElem h, List.map_append, sp_app, ni_of h]; simp [sp]
theorem nms_len {l : List Nm} (h : ∀ a ∈ l, a.In) (h9 : l.length ≤ 1000) (k : Nat) : (sp ((l.take k).map nameT)).length ≤ 44000 := by
  have h1 := sp_len (k := 43) (l := (l.take k).map nameT) fun x hx => by
    obtain ⟨a, ha, rfl⟩ := List.mem_map.1 hx
    exact nameT_len (h a (List.mem_of_mem_take ha))
  rw [List.length_map, List.length_take] at h1
  have h2 : min k l.length ≤ 1000 := by omega
  have h3 := Nat.mul_le_mul_right 44 h2
  omega
set_option maxHeartbeats 4000000 in
theorem LNames_calls (lv : Value) (c : Nat) (l : List Nm) (w : World) (h : NL w lv c l) (hin : ∀ a ∈ l, a.In ∧ 0 ≤ a.n) (h9 : l.length ≤ 1000) :
    Calls Tryd.prog 19 #[lv] w fun e w' => e = .returned (.string (bst (sp (l.map nameT)))) ∧ Ext w w' := by
  obtain ⟨la, n, rfl, hn, hnc, hc9, hat⟩ := h.open
  have HN := Lib.hid (fun i (hi : i < n) w' => LName_calls (ni l i) w' (hin _ (ni_mem (by omega))).1 (hin _ (ni_mem (by omega))).2)
  have HL := Lib.hid (fun i (hi : i < n) => nameT_len (hin _ (ni_mem (l := l) (i := i) (by omega))).1)
  have HS := Lib.hid (fun i (hi : i < n) => sp_take (l := l) (k := i) (by omega))
  have HB := Lib.hid (nms_len (fun a ha => (hin a ha).1) h9)
  have HE := Lib.hid (show sp (l.map nameT) = sp ((l.take n).map nameT) by rw [List.take_of_length_le (by omega)])
  have Hat := Lib.hid hat
  have n9 : n ≤ 1000 := by omega
  rw [HE.out]
  unfold Nm.val at HN
  clear hat hin h hn h9
  go_enter Tryd.func19, Tryd.ntmps19
  go_wp2
  go_loopg [3, 4] n (fun g sv iv wr => ∃ (k : Nat) (B : ByteArray), g + k = n ∧ iv = .int .i64 k ∧ sv = .string B ∧ B.size ≤ 44000 ∧ Hid (Ext w wr ∧ B = bst (sp ((l.take k).map nameT))))
  case atStart => exact ⟨0, bst [], by omega, rfl, rfl, by decide, Lib.hid ⟨Ext.refl _, by rw [List.take_zero]; rfl⟩⟩
  case round =>
    obtain ⟨k, B, hgk, rfl, rfl, hB9, G⟩ := hrel
    have Hgk := Lib.hid hgk
    by_cases hk : k < n
    · have f1 : (k : Int) < n := by omega
      have f2 : (0 : Int) ≤ k := by omega
      clear hgk
      obtain ⟨b, o, rfl, hA⟩ := Hat.out k hk
      obtain ⟨S1, hS1⟩ : ∃ S1, S1 = bst (nameT (ni l k)) := ⟨_, rfl⟩
      have hz : S1.size ≤ 43 := by rw [hS1, bst_size]; exact HL.out k hk
      have HC := Lib.hid (HN.out k hk)
      rw [← hS1] at HC
      have HB2 := Lib.hid (show (B ++ (bst [32] ++ S1)).size ≤ 44000 ∧ B ++ (bst [32] ++ S1) = bst (sp ((l.take (k + 1)).map nameT)) by
        have e : B ++ (bst [32] ++ S1) = bst (sp ((l.take (k + 1)).map nameT)) := by rw [HS.out k hk, G.out.2, hS1, bst_app, bst_app]
        exact ⟨by rw [e, bst_size]; exact HB.out _, e⟩)
      obtain ⟨a, ha⟩ : ∃ a, a = ni l k := ⟨_, rfl⟩
      rw [← ha] at hA HC
      obtain ⟨p0, p1⟩ := hA.ext G.out.1
      have y1 : ¬ 9223372036854775807 < 1 + S1.size := by omega
      have y2 : ¬ 9223372036854775807 < B.size + (1 + S1.size) := by omega
      clear hA hS1 ha
      go_wp2_with fail
      refine (HC.out _).mono ?_
      rintro e w2 ⟨rfl, x2⟩
      have X2 := Lib.hid (G.out.1.trans x2)
      clear x2 p0 p1
      go_wp2_with fail
      go_roundg (n - (k + 1))
      case measure => have := Hgk.out; omega
      case rel => exact ⟨k + 1, _, by omega, by go_num, rfl, HB2.out.1, Lib.hid ⟨X2.out, HB2.out.2⟩⟩
    · obtain rfl : k = n := by omega
      have f1 : ¬ (k : Int) < k := by omega
      have HR := Lib.hid G.out
      go_wp2
      go_ret
      exact ⟨by rw [← List.map_take, ← HR.out.2]; rfl, HR.out.1⟩
end Go.Proofs.YtlhkehfplcclgaaDoor
/- The text of a fabric, line by line, as the law writes it. No program in sight. -/
namespace Go.Proofs.YtlhkehfplcclgaaDoor
set_option linter.unusedVariables false
set_option linter.unusedSimpArgs false
set_option maxRecDepth 8000
open Go Go.RowKit

def P1 (a : Nm) (l : Lp) : List UInt8 := nameT a ++ (32 :: (if l.bed = 1 then backT else frontT))
def P2 (l : Lp) : List UInt8 := if l.new = true then 32 :: newT else []
def P3 (l : Lp) : List UInt8 := if l.thr = [] then [] else (32 :: throughT) ++ sp (l.thr.map nameT)
def P4 (l : Lp) : List UInt8 := if l.past = [] then [] else 32 :: pastT
def P5 (l : Lp) (k : Nat) : List UInt8 := sp ((l.past.take k).map passT)
theorem join_sp (x : List UInt8) (r : List (List UInt8)) : Lib.join (x :: r) [32] = x ++ sp r := by
  rw [Lib.join_cons]; rfl
theorem line_eq (a : Nm) (l : Lp) : lineT (descT a l) = P1 a l ++ P2 l ++ P3 l ++ P4 l ++ P5 l l.past.length ++ [10] := by
  have e : descT a l = nameT a :: ((if l.bed = 1 then backT else frontT) :: ((if l.new = true then [newT] else []) ++ ((if l.thr = [] then [] else throughT :: l.thr.map nameT) ++ ((if l.past = [] then [] else [pastT]) ++ l.past.map passT)))) := by
    unfold descT d4T d3T d2T d1T; simp
  rw [e]
  unfold lineT
  rw [join_sp, sp_cons, sp_app, sp_app, sp_app]
  unfold P1 P2 P3 P4 P5
  rw [List.take_length]
  have h1 : sp (if l.new = true then [newT] else []) = if l.new = true then 32 :: newT else [] := by split <;> simp [sp]
  have h2 : sp (if l.thr = [] then [] else throughT :: l.thr.map nameT) = if l.thr = [] then [] else (32 :: throughT) ++ sp (l.thr.map nameT) := by split <;> simp [sp]
  have h3 : sp (if l.past = [] then [] else [pastT]) = if l.past = [] then [] else 32 :: pastT := by split <;> simp [sp]
  rw [h1, h2, h3]
  simp [List.append_assoc]
theorem P5_succ {l : Lp} {k : Nat} (h : k < l.past.length) : P5 l (k + 1) = P5 l k ++ ([32] ++ passT (qi l.past k)) := by
  unfold P5
  rw [List.take_succ_eq_append_getElem h, List.map_append, sp_app, qi_of h]; simp [sp]
theorem passT_len {p : Ps} (h : p.In) : (passT p).length ≤ 45 := by
  have := nameT_len h.1
  unfold passT
  rw [List.length_append, List.length_append]
  have h1 : (if p.d = 1 then ([62] : List UInt8) else [60]).length = 1 := by split <;> rfl
  have h2 : (if p.f = true then ([43] : List UInt8) else []).length ≤ 1 := by split <;> simp
  omega
theorem P5_len {l : Lp} (h : l.In) (k : Nat) (hk : k ≤ 1000) : (P5 l k).length ≤ 46000 := by
  have h1 := sp_len (k := 45) (l := (l.past.take k).map passT) fun x hx => by
    obtain ⟨p, hp, rfl⟩ := List.mem_map.1 hx
    exact passT_len (h.2.2 p (List.mem_of_mem_take hp))
  rw [List.length_map, List.length_take] at h1
  have h2 : min k l.past.length ≤ 1000 := by omega
  have h3 := Nat.mul_le_mul_right 46 h2
  unfold P5; omega
theorem crW_eq (c : Xg) : lineT (crW c) = crossW ++ sp [nameT c.a, nameT c.b] ++ [32] ++ Lib.itoa c.n ++ [10] := by
  unfold lineT crW
  rw [join_sp]; simp [sp]
theorem nms_eq (w : List UInt8) (l : List Nm) : lineT (w :: l.map nameT) = w ++ sp (l.map nameT) ++ [10] := by
  unfold lineT; rw [join_sp]
/-- The bounds of what the law's text is made of. -/
structure TBd6 (f : Fab) : Prop where
  inn : FIn f
  l6 : f.ys.length = 6
  nn : (∀ a ∈ f.held, 0 ≤ a.n) ∧ (∀ a ∈ f.fallen, 0 ≤ a.n) ∧ ∀ c ∈ f.cr, 0 ≤ c.a.n ∧ 0 ≤ c.b.n
  cn : ∀ c ∈ f.cr, -1000 ≤ c.n ∧ c.n ≤ 1000
  ln : ∀ r ∈ f.ys, ∀ l ∈ r, (l.bed = 0 ∨ l.bed = 1) ∧ (∀ a ∈ l.thr, 0 ≤ a.n) ∧ ∀ p ∈ l.past, 0 ≤ p.id.n ∧ (p.d = 0 ∨ p.d = 1)
theorem yid_in {y n : Nat} (hy : y < 6) (hn : n < 1000) : (⟨(y : Int) + 1, (n : Nat)⟩ : Nm).In := ⟨⟨by dsimp only; omega, by dsimp only; omega⟩, by dsimp only; omega, by dsimp only; omega⟩
theorem rowP_len {f : Fab} (h : TBd6 f) {y : Nat} (hy : y < 6) : ∀ n, n ≤ (yi f.ys y).length → (rowP y (yi f.ys y) n).length ≤ n * 100000
  | 0, _ => by simp [rowP]
  | n + 1, hn => by
    have ih := rowP_len h hy n (by omega)
    have hm := yi_mem (l := f.ys) (i := y) (by rw [h.l6]; exact hy)
    have h5 := h.inn.n5 _ hm
    have h6 := h.inn.n6 _ hm _ (li_mem (l := yi f.ys y) (i := n) (by omega))
    have h7 := (desc_le (a := ⟨(y : Int) + 1, (n : Nat)⟩) (l := li (yi f.ys y) n) (yid_in hy (by omega)) (h.inn.ys _ hm _ (li_mem (by omega))) h6.1 h6.2).2.2
    rw [rowP_succ, List.length_append, Nat.succ_mul]; omega
theorem tabP_len {f : Fab} (h : TBd6 f) : ∀ y, y ≤ 6 → (tabP f.ys y).length ≤ y * 100000000
  | 0, _ => by simp [tabP]
  | y + 1, hy => by
    have ih := tabP_len h y (by omega)
    have h1 := rowP_len h (y := y) (by omega) _ (Nat.le_refl _)
    have h5 := h.inn.n5 _ (yi_mem (l := f.ys) (i := y) (by rw [h.l6]; omega))
    have h3 := Nat.mul_le_mul_right 100000 h5
    rw [tabP_succ, List.length_append, Nat.succ_mul]
    unfold rowT; omega
theorem crP_len {f : Fab} (h : TBd6 f) : ∀ k, k ≤ f.cr.length → (crP f.cr k).length ≤ k * 100000
  | 0, _ => by simp [crP]
  | k + 1, hk => by
    have ih := crP_len h k (by omega)
    have h1 := cr_le (h.inn.cr _ (xi_mem (l := f.cr) (i := k) (by omega)))
    rw [crP_succ (by omega), List.length_append, Nat.succ_mul]; omega
theorem FOk.bd6 {x : FD} (h : FOk x) (hx : x.cross.length ≤ 1000) : TBd6 (ofF x) := by
  have hin := h.fin hx
  have hn : ∀ a, hasB (ofT x.t).t a = true → 0 ≤ a.n := fun a ha => by
    obtain ⟨y, n, rfl, _, _⟩ := hasB_iff ha
    dsimp only; omega
  have hm : ∀ a, a ∈ (ofT x.t).made → 0 ≤ a.n := fun a ha => hn a ((h.inv.cov a).2 ha)
  refine ⟨hin, h.inv.l6, ⟨fun a ha => hm a (h.hm a (List.mem_append_left _ ha)), fun a ha => hm a (h.hm a (List.mem_append_right _ ha)), fun c hc => ⟨hn _ (h.cr.m c hc).1, hn _ (h.cr.m c hc).2.1⟩⟩, fun c hc => by have := h.cr.n c hc; omega, fun r hr l hl => ?_⟩
  have h1 := (h.inv.ri r hr l hl).1
  obtain ⟨d, hd, hd2⟩ := h1.one
  exact ⟨h1.bed, fun a ha => hn a (h1.i1 a ha).2, fun p hp => ⟨hn _ (h1.i2 p hp).2, by rw [hd2 p hp]; exact hd⟩⟩
theorem itoa_neg' {n : Int} (h : n < 0) : Lib.itoa n = 45 :: Lib.itoa (-n) := by
  unfold Lib.itoa
  rw [if_pos h, if_neg (by omega)]
  congr 2; omega
theorem nmsT_eq (w : List UInt8) (l : List Nm) : nmsT w l = if l = [] then [] else w ++ sp (l.map nameT) ++ [10] := by
  unfold nmsT; split
  · rfl
  · exact nms_eq w l
theorem nmsT_len {w : List UInt8} {l : List Nm} (hw : w.length ≤ 43) (hin : ∀ a ∈ l, a.In) (h9 : l.length ≤ 1000) : (nmsT w l).length ≤ 100000 := by
  unfold nmsT; split
  · simp
  · exact names_le hw hin h9
end Go.Proofs.YtlhkehfplcclgaaDoor
