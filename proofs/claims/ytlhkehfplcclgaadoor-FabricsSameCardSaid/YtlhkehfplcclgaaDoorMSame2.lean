/- Texts of this claim in one file: libraries and walks. -/
import Derived.Test.YtlhkehfplcclgaaDoorMSame0
import Derived.Test.YtlhkehfplcclgaaDoorMSame1
/- Cross: plain laws; a fabric stays where a fabric's box is set. -/
namespace Go.Proofs.YtlhkehfplcclgaaDoor
set_option linter.unusedVariables false
set_option linter.unusedSimpArgs false
set_option maxRecDepth 8000
open Go Go.RowKit

theorem cmpX_same (a b : Nm) (m n : Int) : cmpX ⟨a, b, m⟩ ⟨a, b, n⟩ = 0 := cmpX_eq.2 ⟨rfl, rfl⟩
theorem addX_front {a b : Nm} {s : Int} {l : List Xg} (h : ∀ d ∈ l, ltX ⟨a, b, 0⟩ d) : addX l a b s = ⟨a, b, s⟩ :: l := by
  cases l with
  | nil => rfl
  | cons d l =>
    have h1 := cmpX_gt.2 (h d List.mem_cons_self)
    rw [addX, if_neg (by omega), if_pos h1]
theorem ltX_key {c d : Xg} {a b : Nm} (h : ltX c d) (e : c.a = a ∧ c.b = b) : ltX ⟨a, b, 0⟩ d := by
  unfold ltX at h ⊢
  rw [e.1, e.2] at h; exact h
theorem addX_inv {a b : Nm} {s : Int} : ∀ {l : List Xg}, List.Pairwise ltX l → (∀ c ∈ l, c.n ≠ 0) → s ≠ 0 → addX (addX l a b s) a b (-s) = l
  | [], _, _, hs => by
    rw [addX, addX, if_pos (cmpX_same a b _ _), if_pos (by dsimp only; omega)]
  | c :: l, h, h0, hs => by
    obtain ⟨h1, h2⟩ := List.pairwise_cons.1 h
    have hl := fun d hd => h0 d (List.mem_cons_of_mem c hd)
    have hc0 := h0 c List.mem_cons_self
    rw [addX]
    by_cases e : cmpX c ⟨a, b, 0⟩ = 0
    · have e' := cmpX_eq.1 e
      rw [if_pos e]
      by_cases hz : c.n + s = 0
      · rw [if_pos hz, addX_front fun d hd => ltX_key (h1 d hd) e']
        congr 1
        obtain ⟨ca, cb, cn⟩ := c
        dsimp only at e' hz ⊢
        rw [← e'.1, ← e'.2, show -s = cn by omega]
      · rw [if_neg hz, addX, if_pos (cmpX_same a b _ _), if_neg (by dsimp only; omega)]
        congr 1
        obtain ⟨ca, cb, cn⟩ := c
        dsimp only at e' hz ⊢
        rw [← e'.1, ← e'.2, show cn + s + -s = cn by omega]
    · rw [if_neg e]
      by_cases g : 0 < cmpX c ⟨a, b, 0⟩
      · rw [if_pos g, addX, if_pos (cmpX_same a b _ _), if_pos (by dsimp only; omega)]
      · rw [if_neg g, addX, if_neg e, if_neg g, addX_inv h2 hl hs]
theorem lnk_gt {a b : Nm} : ∀ {l : List Xg}, (∀ d ∈ l, ltX ⟨a, b, 0⟩ d) → lnk l a b = 0
  | [], _ => rfl
  | c :: l, h => by
    have h1 := cmpX_gt.2 (h c List.mem_cons_self)
    rw [lnk, if_neg (by omega)]
    exact lnk_gt fun d hd => h d (List.mem_cons_of_mem _ hd)
theorem lnk_addX {a b : Nm} {s : Int} : ∀ {l : List Xg}, List.Pairwise ltX l → lnk (addX l a b s) a b = lnk l a b + s
  | [], _ => by
    simp [addX, lnk, cmpX_same]
  | c :: l, h => by
    obtain ⟨h1, h2⟩ := List.pairwise_cons.1 h
    rw [addX]
    by_cases e : cmpX c ⟨a, b, 0⟩ = 0
    · have e' := cmpX_eq.1 e
      rw [if_pos e]
      conv => rhs; rw [lnk, if_pos e]
      by_cases hz : c.n + s = 0
      · rw [if_pos hz, lnk_gt fun d hd => ltX_key (h1 d hd) e']; omega
      · rw [if_neg hz, lnk, if_pos (cmpX_same a b _ _)]
    · rw [if_neg e]
      conv => rhs; rw [lnk, if_neg e]
      by_cases g : 0 < cmpX c ⟨a, b, 0⟩
      · rw [if_pos g, lnk, if_pos (cmpX_same a b _ _)]
        have g' := cmpX_gt.1 g
        rw [lnk_gt fun d hd => ltX_trans g' (h1 d hd)]; dsimp only; omega
      · rw [if_neg g, lnk, if_neg e, lnk_addX h2]
theorem lnk_bd {a b : Nm} {k : Int} (hk : 0 ≤ k) : ∀ {l : List Xg}, (∀ c ∈ l, c.n ≠ 0 ∧ -k ≤ c.n ∧ c.n ≤ k) → -k ≤ lnk l a b ∧ lnk l a b ≤ k
  | [], _ => by rw [lnk]; omega
  | c :: l, h => by
    rw [lnk]
    split
    · exact (h c List.mem_cons_self).2
    · exact lnk_bd hk fun d hd => h d (List.mem_cons_of_mem _ hd)
theorem pairX_ord {a b : Nm} (h : cmpN a b < 0) : pairX a b = ⟨a, b, 0⟩ ∧ pairX b a = ⟨a, b, 0⟩ := by
  have h1 := cmpN_neg a b
  unfold pairX
  exact ⟨if_neg (by omega), if_pos (by omega)⟩
/-- The fabric f with other crossings. -/
def Fab.wc (f : Fab) (l : List Xg) : Fab := { f with cr := l }
theorem wc_chk {f : Fab} {k k' : Int} {l : List Xg} (h : fchk f = 0) (hx : XOk f.ys k l) (hk : k ≤ 1048576) : fchk (f.wc l) = 0 := by
  unfold fchk at h ⊢
  have h1 : lchk f.ys = 0 := by
    by_cases e : lchk f.ys = 0
    · exact e
    · rw [if_neg e] at h; exact absurd h e
  rw [if_pos h1] at h
  have h2 : pchk f = 0 := by
    by_cases e : cchk f.ys f.cr = 0
    · rw [if_pos e] at h; exact h
    · rw [if_neg e] at h; exact absurd h e
  have h3 : cchk (f.wc l).ys (f.wc l).cr = 0 := hx.chk hk
  rw [show lchk (f.wc l).ys = 0 from h1, if_pos rfl, if_pos h3]; exact h2
theorem wc_in {f : Fab} {k : Int} {l : List Xg} (h : FIn f) (hb : ∀ a, hasB f.ys a = true → a.In) (hx : XOk f.ys k l) (hk : k ≤ 1048576) (hl : l.length ≤ 1000) : FIn (f.wc l) :=
  ⟨h.held, h.fallen, fun c hc => ⟨hb _ (hx.m c hc).1, hb _ (hx.m c hc).2.1, by have := hx.n c hc; omega, by have := hx.n c hc; omega⟩, h.ys, h.n1, h.n2, hl, h.n4, h.n5, h.n6⟩
theorem wc_crossE {f : Fab} {k : Int} {l : List Xg} (h : fchk f = 0) (hx : XOk f.ys k l) (hk0 : 0 ≤ k) (hk : k ≤ 1000) {a b : Nm} {s : Int} (ha : hasB f.ys a = true) (hb : hasB f.ys b = true) (hs : s = 1 ∨ s = -1) :
    crossE (f.wc l) a b s = if a = b then 1 else 0 := by
  unfold crossE
  rw [if_pos (wc_chk (k' := k) h hx (by omega))]
  by_cases e : a = b
  · rw [if_neg (fun k => k.2 e), if_pos e]
  · rw [if_pos ⟨hs, e⟩, if_neg e, if_pos ⟨ha, hb⟩]
    have h1 := lnk_bd (a := (pairX a b).a) (b := (pairX a b).b) hk0 hx.n
    rw [if_pos]
    show -1048576 ≤ s + lnk l _ _ ∧ s + lnk l _ _ ≤ 1048576
    omega
theorem wc_crossF (f : Fab) (l : List Xg) (a b : Nm) (s : Int) : crossF (f.wc l) a b s = f.wc (addX l (pairX a b).a (pairX a b).b s) := rfl
theorem wc_self (f : Fab) : f.wc f.cr = f := rfl

/-! ### What stays -/
theorem CK.frame {k g : Nat} {w w' : World} {v : Value} {c : Nat} {xs : List (List Value)} (h : CK k w v c xs) (hw : ∀ b o u, b ≠ g → w.cell? ⟨b, o, none⟩ = some u → w'.cell? ⟨b, o, none⟩ = some u)
    (hn : xs ≠ [] → ∀ b o, (∀ i, i < xs.length → AtC w b (o + i * k) (xs.getD i [])) → b ≠ g) : CK k w' v c xs := by
  obtain ⟨ao, h1, h2, h3, h4⟩ := h
  refine ⟨ao, h1, h2, h3, ?_⟩
  rcases h4 with h4 | ⟨b, o, h5, h6⟩
  · exact .inl h4
  · refine .inr ⟨b, o, h5, fun i hi j hj => ?_⟩
    exact hw _ _ _ (hn (fun e => by rw [e] at hi; simp at hi) b o h6) (h6 i hi j hj)
/-- A block of four slices: no integer lies in it. -/
structure SBx (w : World) (g : Nat) : Prop where
  s : ∀ o k n, w.cell? ⟨g, o, none⟩ ≠ some (.int k n)
  l : ∀ o, 4 ≤ o → w.cell? ⟨g, o, none⟩ = none
theorem SBx.of {w : World} {g : Nat} {a1 a2 a3 a4 : Option Addr} {n1 n2 n3 n4 c1 c2 c3 c4 : Nat} {t : TypeId} (h : B4 w g (.slice a1 n1 c1) (.slice a2 n2 c2) (.slice a3 n3 c3) (.slice a4 n4 c4) t) : SBx w g := by
  unfold B4 at h
  refine ⟨fun o k n e => ?_, fun o ho => ?_⟩
  · have h4 : o = 0 ∨ o = 1 ∨ o = 2 ∨ o = 3 ∨ 4 ≤ o := by omega
    rcases h4 with rfl | rfl | rfl | rfl | h4
    · simp [World.cell?, h] at e
    · simp [World.cell?, h] at e
    · simp [World.cell?, h] at e
    · simp [World.cell?, h] at e
    · simp [World.cell?, h, Array.getElem?_eq_none (xs := #[Value.slice a1 n1 c1, .slice a2 n2 c2, .slice a3 n3 c3, .slice a4 n4 c4]) (i := o) (by simpa using h4)] at e
  · simp [World.cell?, h, Array.getElem?_eq_none (xs := #[Value.slice a1 n1 c1, .slice a2 n2 c2, .slice a3 n3 c3, .slice a4 n4 c4]) (i := o) (by simpa using ho)]
theorem SBx.int {k g : Nat} {w : World} (h : SBx w g) {xs : List (List Value)} (hi : ∀ x ∈ xs, ∃ q n r, x = .int q n :: r) : xs ≠ [] → ∀ b o, (∀ i, i < xs.length → AtC w b (o + i * k) (xs.getD i [])) → b ≠ g := fun h0 b o ha e => by
  subst e
  have hl : 0 < xs.length := List.length_pos_iff.2 h0
  have h1 := ha 0 hl 
  obtain ⟨q, n, r, hx⟩ := hi (xs.getD 0 []) (by
    have : xs.getD 0 [] = xs[0] := by simp [List.getD, hl]
    rw [this]; exact List.getElem_mem hl)
  rw [hx] at h1
  have := h1 0 (by simp)
  exact h.s _ _ _ (by simpa using this)
section
variable {w w' : World} {g : Nat}
theorem NL.frame {v : Value} {c : Nat} {l : List Nm} (h : NL w v c l) (hs : SBx w g) (hw : ∀ b o u, b ≠ g → w.cell? ⟨b, o, none⟩ = some u → w'.cell? ⟨b, o, none⟩ = some u) : NL w' v c l :=
  CK.frame h hw (hs.int fun x hx => by obtain ⟨a, _, rfl⟩ := List.mem_map.1 hx; exact ⟨_, _, _, rfl⟩)
theorem PL.frame {v : Value} {c : Nat} {l : List Ps} (h : PL w v c l) (hs : SBx w g) (hw : ∀ b o u, b ≠ g → w.cell? ⟨b, o, none⟩ = some u → w'.cell? ⟨b, o, none⟩ = some u) : PL w' v c l :=
  CK.frame h hw (hs.int fun x hx => by obtain ⟨a, _, rfl⟩ := List.mem_map.1 hx; exact ⟨_, _, _, rfl⟩)
theorem XL.frame {v : Value} {c : Nat} {l : List Xg} (h : XL w v c l) (hs : SBx w g) (hw : ∀ b o u, b ≠ g → w.cell? ⟨b, o, none⟩ = some u → w'.cell? ⟨b, o, none⟩ = some u) : XL w' v c l :=
  CK.frame h hw (hs.int fun x hx => by obtain ⟨a, _, rfl⟩ := List.mem_map.1 hx; exact ⟨_, _, _, rfl⟩)
theorem LR.frame {v : Value} {c : Nat} {l : List Lp} (h : LR w v c l) (hs : SBx w g) (hw : ∀ b o u, b ≠ g → w.cell? ⟨b, o, none⟩ = some u → w'.cell? ⟨b, o, none⟩ = some u) : LR w' v c l := by
  obtain ⟨us, vs, h1, h2⟩ := h
  refine ⟨us, vs, CK.frame h1 hw (hs.int fun x hx => by obtain ⟨a, _, rfl⟩ := List.mem_map.1 hx; exact ⟨_, _, _, rfl⟩), fun i hi => ?_⟩
  obtain ⟨⟨d, h3⟩, e, h4⟩ := h2 i hi
  exact ⟨⟨d, h3.frame hs hw⟩, e, h4.frame hs hw⟩
theorem TB.frame {v : Value} {c : Nat} {t : Tab} (h : TB w v c t) (h6 : t.length = 6) (hs : SBx w g) (hw : ∀ b o u, b ≠ g → w.cell? ⟨b, o, none⟩ = some u → w'.cell? ⟨b, o, none⟩ = some u) : TB w' v c t := by
  obtain ⟨vs, h1, h2⟩ := h
  refine ⟨vs, CK.frame h1 hw fun _ b o ha e => ?_, fun i hi => ?_⟩
  · subst e
    have hl : 5 < ((List.range t.length).map fun i => [vs i]).length := by simp [h6]
    have h3 := ha 5 hl 0 (by simp [List.getD, h6])
    rw [hs.l _ (by omega)] at h3; cases h3
  · obtain ⟨d, h3⟩ := h2 i hi
    exact ⟨d, h3.frame hs hw⟩
theorem FB.frame {tv cv hv fv : Value} {f : Fab} (h : FB w tv cv hv fv f) (h6 : f.ys.length = 6) (hs : SBx w g) (hw : ∀ b o u, b ≠ g → w.cell? ⟨b, o, none⟩ = some u → w'.cell? ⟨b, o, none⟩ = some u) : FB w' tv cv hv fv f := by
  obtain ⟨⟨c1, h1⟩, ⟨c2, h2⟩, ⟨c3, h3⟩, c4, h4⟩ := h
  exact ⟨⟨c1, h1.frame h6 hs hw⟩, ⟨c2, h2.frame hs hw⟩, ⟨c3, h3.frame hs hw⟩, c4, h4.frame hs hw⟩
end
theorem set4_keeps (w : World) (g : Nat) (x y z u : Value) : ∀ b o v, b ≠ g → w.cell? ⟨b, o, none⟩ = some v → ((((w.setCell ⟨g, 0, none⟩ x).setCell ⟨g, 1, none⟩ y).setCell ⟨g, 2, none⟩ z).setCell ⟨g, 3, none⟩ u).cell? ⟨b, o, none⟩ = some v :=
  fun b o v hb h => cell_set (cell_set (cell_set (cell_set h hb _) hb _) hb _) hb _
end Go.Proofs.YtlhkehfplcclgaaDoor
/- What is spoilt, and what Check says of it. No program in sight. -/
namespace Go.Proofs.YtlhkehfplcclgaaDoor
set_option linter.unusedVariables false
set_option linter.unusedSimpArgs false
set_option maxRecDepth 8000
open Go Go.RowKit

theorem fchk_parts {f : Fab} (h : fchk f = 0) : lchk f.ys = 0 ∧ cchk f.ys f.cr = 0 ∧ pchk f = 0 := by
  unfold fchk at h
  by_cases e : lchk f.ys = 0
  · rw [if_pos e] at h
    by_cases e2 : cchk f.ys f.cr = 0
    · rw [if_pos e2] at h; exact ⟨e, e2, h⟩
    · rw [if_neg e2] at h; exact absurd h e2
  · rw [if_neg e] at h; exact absurd h e
theorem pchk_parts {f : Fab} (h : pchk f = 0) : (∀ a ∈ f.held ++ f.fallen, hasB f.ys a = true) ∧ (∀ i, i < f.fallen.length → srtB f.fallen i = true) ∧ ∀ y, y < f.ys.length → ∀ n, n < (yi f.ys y).length → tms f ⟨(y : Int) + 1, n⟩ = 1 := by
  have h0 : ∀ a ∈ f.held ++ f.fallen, hasB f.ys a = true := fun a ha => by
    cases e : hasB f.ys a with
    | true => rfl
    | false => rw [pchk7 ha e] at h; cases h
  have h1 : ∀ i, i < f.fallen.length → srtB f.fallen i = true := fun i hi => by
    cases e : srtB f.fallen i with
    | true => rfl
    | false => rw [pchk6 h0 hi e] at h; cases h
  refine ⟨h0, h1, fun y hy n hn => ?_⟩
  cases e : onceB f y n with
  | true => exact of_decide_eq_true e
  | false => rw [pchk66 h0 h1 hy hn e] at h; cases h
theorem fchk_p {f g : Fab} (h : fchk f = 0) (hy : g.ys = f.ys) (hc : g.cr = f.cr) : fchk g = pchk g := by
  obtain ⟨h1, h2, _⟩ := fchk_parts h
  unfold fchk
  rw [hy, hc, if_pos h1, if_pos h2]
theorem fchk_c {f g : Fab} (h : fchk f = 0) (hy : g.ys = f.ys) (hc : cchk f.ys g.cr = 1) : fchk g = 1 := by
  obtain ⟨h1, _, _⟩ := fchk_parts h
  unfold fchk
  rw [hy, if_pos h1, hc, if_neg (by decide)]
theorem tms_eq (f : Fab) (a : Nm) : tms f a = ((f.held ++ f.fallen ++ thrT f.ys).count a : Nat) := by
  unfold tms addN cntN; simp
/-- Once more. -/
theorem spoil0 {f : Fab} (h : fchk f = 0) {a : Nm} (ha : hasB f.ys a = true) : fchk { f with held := f.held ++ [a] } = 6 := by
  rw [fchk_p h (g := { f with held := f.held ++ [a] }) rfl rfl]
  obtain ⟨h0, h1, h2⟩ := pchk_parts (fchk_parts h).2.2
  obtain ⟨y, n, rfl, hy, hn⟩ := hasB_iff ha
  refine pchk66 (y := y) (n := n) (fun b hb => ?_) h1 hy hn ?_
  · rcases List.mem_append.1 hb with hb | hb
    · rcases List.mem_append.1 hb with hb | hb
      · exact h0 b (List.mem_append_left _ hb)
      · rw [List.mem_singleton.1 hb]; exact ha
    · exact h0 b (List.mem_append_right _ hb)
  · refine decide_eq_false fun e => ?_
    have e2 := h2 y hy n hn
    rw [tms_eq] at e e2
    dsimp only at e
    simp only [List.count_append, List.count_singleton_self] at e e2
    omega
theorem spoil7 {f : Fab} (h : fchk f = 0) {a : Nm} (ha : hasB f.ys a = false) : fchk { f with held := f.held ++ [a] } = 7 ∧ fchk { f with fallen := f.fallen ++ [a] } = 7 := by
  rw [fchk_p h (g := { f with held := f.held ++ [a] }) rfl rfl, fchk_p h (g := { f with fallen := f.fallen ++ [a] }) rfl rfl]
  exact ⟨pchk7 (a := a) (by simp) ha, pchk7 (a := a) (by simp) ha⟩
theorem spoil3 {f : Fab} (h : fchk f = 0) (hl : f.held ≠ []) : fchk { f with held := f.held.drop 1 } = 6 := by
  rw [fchk_p h (g := { f with held := f.held.drop 1 }) rfl rfl]
  obtain ⟨h0, h1, h2⟩ := pchk_parts (fchk_parts h).2.2
  obtain ⟨a, l, hal⟩ := List.exists_cons_of_ne_nil hl
  obtain ⟨y, n, rfl, hy, hn⟩ := hasB_iff (h0 a (by rw [hal]; simp))
  refine pchk66 (y := y) (n := n) (fun b hb => ?_) h1 hy hn ?_
  · rcases List.mem_append.1 hb with hb | hb
    · exact h0 b (List.mem_append_left _ (List.mem_of_mem_drop hb))
    · exact h0 b (List.mem_append_right _ hb)
  · refine decide_eq_false fun e => ?_
    have e2 := h2 y hy n hn
    rw [tms_eq] at e e2
    dsimp only at e
    rw [hal] at e e2
    simp only [List.drop_succ_cons, List.drop_zero, List.cons_append, List.count_append, List.count_cons_self] at e e2
    omega
theorem spoil4 {f : Fab} (h : fchk f = 0) (hl : 1 < f.fallen.length) : fchk { f with fallen := swp f.fallen 1 } = 6 := by
  rw [fchk_p h (g := { f with fallen := swp f.fallen 1 }) rfl rfl]
  obtain ⟨h0, h1, h2⟩ := pchk_parts (fchk_parts h).2.2
  refine pchk6 (i := 1) (fun b hb => ?_) (by dsimp only; rw [swp_len]; exact hl) ?_
  · rcases List.mem_append.1 hb with hb | hb
    · exact h0 b (List.mem_append_left _ hb)
    · exact h0 b (List.mem_append_right _ ((swp_perm (by decide) hl).mem_iff.1 hb))
  · have h3 := h1 1 hl
    unfold srtB at h3 ⊢
    rw [decide_eq_false (show ¬ (1 = 0) by decide), Bool.false_or, decide_eq_true_iff] at h3
    rw [decide_eq_false (show ¬ (1 = 0) by decide), Bool.false_or]
    refine decide_eq_false fun e => ?_
    dsimp only at e
    rw [swp_at (by decide) hl, swp_at (by decide) hl, if_pos (by rfl), if_neg (by decide), if_pos rfl] at e
    have k1 := cmpN_lt.1 e
    have k2 := cmpN_lt.1 h3
    exact ltN_irr (ltN_trans k1 k2)
theorem spoil5 {f : Fab} (h : fchk f = 0) (a : Nm) : fchk { f with cr := ⟨a, a, 1⟩ :: f.cr } = 1 := by
  refine fchk_c h rfl (cchk_bad (i := 0) (by simp) ?_)
  unfold crB
  rw [xi_zero]
  have : ¬ cmpN a a < 0 := fun e => ltN_irr (cmpN_lt.1 e)
  simp [this]
theorem spoil6 {f : Fab} (h : fchk f = 0) (hl : f.cr ≠ []) {v : Int} (hv : v = 0 ∨ v = 1048577 ∨ v = -1048577) : fchk { f with cr := f.cr.set 0 ⟨(xi f.cr 0).a, (xi f.cr 0).b, v⟩ } = 1 := by
  have h0 : 0 < f.cr.length := List.length_pos_iff.2 hl
  refine fchk_c h rfl (cchk_bad (i := 0) (by simpa using h0) ?_)
  have e : xi (f.cr.set 0 ⟨(xi f.cr 0).a, (xi f.cr 0).b, v⟩) 0 = ⟨(xi f.cr 0).a, (xi f.cr 0).b, v⟩ := by
    rw [xi_of (by simpa using h0)]; simp
  unfold crB
  rw [e]
  rcases hv with rfl | rfl | rfl <;> simp
theorem spoil7c {f : Fab} (h : fchk f = 0) (hl : f.cr ≠ []) : fchk { f with cr := f.cr ++ [xi f.cr (f.cr.length - 1)] } = 1 := by
  have h0 : 0 < f.cr.length := List.length_pos_iff.2 hl
  refine fchk_c h rfl (cchk_bad (i := f.cr.length) (by simp) ?_)
  have e1 : xi (f.cr ++ [xi f.cr (f.cr.length - 1)]) f.cr.length = xi f.cr (f.cr.length - 1) := by
    rw [xi_of (by simp)]; simp
  have e2 : xi (f.cr ++ [xi f.cr (f.cr.length - 1)]) (f.cr.length - 1) = xi f.cr (f.cr.length - 1) := by
    rw [xi_of (by simp; omega), List.getElem_append_left (by omega), xi_of (by omega)]
  unfold crB
  rw [e1, e2]
  have k1 : ¬ cmpX (xi f.cr (f.cr.length - 1)) (xi f.cr (f.cr.length - 1)) < 0 := by rw [cmpX_eq.2 ⟨rfl, rfl⟩]; decide
  have k2 : ¬ f.cr.length = 0 := by omega
  simp [k1, k2]
theorem spoil8 {f : Fab} (h6 : f.ys.length = 6) : fchk { f with ys := f.ys.take 5 } = 5 := by
  have : lchk (f.ys.take 5) = 5 := by unfold lchk; rw [if_neg (by rw [List.length_take, h6]; decide)]
  unfold fchk
  rw [if_neg (by dsimp only; rw [this]; decide)]; exact this
theorem bad_cross {f : Fab} {e : Int} (h : fchk f = e) (he : e ≠ 0) (a : Nm) : crossE f a a 1 = e := by
  unfold crossE; rw [if_neg (by rw [h]; exact he)]; exact h
end Go.Proofs.YtlhkehfplcclgaaDoor
/- One loop of a table changed; fabrics that differ. No program in sight. -/
namespace Go.Proofs.YtlhkehfplcclgaaDoor
set_option linter.unusedVariables false
set_option linter.unusedSimpArgs false
set_option maxRecDepth 8000
open Go Go.RowKit

/-- Loop n of row y is another one. -/
def tset (t : Tab) (y n : Nat) (l : Lp) : Tab := t.set y ((yi t y).set n l)
theorem tset_len (t : Tab) (y n : Nat) (l : Lp) : (tset t y n l).length = t.length := by unfold tset; simp
theorem yi_tset {t : Tab} {y n z : Nat} {l : Lp} (hy : y < t.length) : yi (tset t y n l) z = if z = y then (yi t y).set n l else yi t z := yi_set _ hy
theorem row_tset {t : Tab} {y n z : Nat} {l : Lp} (hy : y < t.length) : (yi (tset t y n l) z).length = (yi t z).length := by
  rw [yi_tset hy]
  by_cases e : z = y
  · rw [if_pos e, List.length_set, e]
  · rw [if_neg e]
theorem li_set {r : List Lp} {n m : Nat} {l : Lp} (hn : n < r.length) : li (r.set n l) m = if m = n then l else li r m := by
  unfold li
  by_cases h : m = n
  · subst h; rw [if_pos rfl]; simp [List.getD, hn]
  · rw [if_neg h]; simp [List.getD, List.getElem?_set, Ne.symm h]
theorem mem_tset {t : Tab} {y n : Nat} {l : Lp} (hy : y < t.length) {r : List Lp} (hr : r ∈ tset t y n l) {k : Lp} (hk : k ∈ r) : k = l ∨ ∃ r' ∈ t, k ∈ r' := by
  unfold tset at hr
  rcases List.mem_or_eq_of_mem_set hr with hr | hr
  · exact .inr ⟨r, hr, hk⟩
  · rw [hr] at hk
    rcases List.mem_or_eq_of_mem_set hk with hk | hk
    · exact .inr ⟨_, yi_mem hy, hk⟩
    · exact .inl hk
theorem mem_tset_len {t : Tab} {y n : Nat} {l : Lp} (hy : y < t.length) {r : List Lp} (hr : r ∈ tset t y n l) : ∃ r' ∈ t, r'.length = r.length := by
  unfold tset at hr
  rcases List.mem_or_eq_of_mem_set hr with hr | hr
  · exact ⟨r, hr, rfl⟩
  · exact ⟨_, yi_mem hy, by rw [hr, List.length_set]⟩
theorem hasB_tset {t : Tab} {y n : Nat} {l : Lp} (hy : y < t.length) (a : Nm) : hasB (tset t y n l) a = hasB t a := by
  unfold hasB
  rw [tset_len, row_tset hy]
theorem flat_set {α β : Type} (f : α → List β) {l : List α} {n : Nat} {a : α} (hn : n < l.length) (hp : (f a).Perm (f l[n])) : ((l.set n a).map f).flatten.Perm (l.map f).flatten := by
  have h1 : l = l.take n ++ l[n] :: l.drop (n + 1) := by simp
  have h2 : l.set n a = l.take n ++ a :: l.drop (n + 1) := by rw [List.set_eq_take_append_cons_drop, if_pos hn]
  rw [h2]
  conv => rhs; rw [h1]
  simp only [List.map_append, List.map_cons, List.flatten_append, List.flatten_cons]
  exact List.Perm.append_left _ (List.Perm.append_right _ hp)
theorem thrT_tset {t : Tab} {y n : Nat} {l : Lp} (hy : y < t.length) (hn : n < (yi t y).length) (hp : l.thr.Perm (li (yi t y) n).thr) : (thrT (tset t y n l)).Perm (thrT t) := by
  unfold tset thrT
  refine flat_set thrR hy ?_
  rw [← yi_of hy]
  have := flat_set Lp.thr (a := l) hn (by rw [← li_of hn]; exact hp)
  unfold thrR
  exact this
theorem cntT_tset {t : Tab} {y n : Nat} {l : Lp} (hy : y < t.length) : cntT (tset t y n l) = cntT t := by
  unfold cntT tset
  congr 2
  refine List.ext_getElem (by simp) fun i h1 h2 => ?_
  simp only [List.getElem_map, List.getElem_set]
  split
  · rename_i e; subst e; rw [List.length_set, yi_of hy]
  · rfl
/-- A change that leaves a table one that may be valid. -/
structure ChL (l l' : Lp) : Prop where
  bed : l'.bed = 0 ∨ l'.bed = 1
  thr : l'.thr.Perm l.thr
  ids : l'.past.map Ps.id = l.past.map Ps.id
  pin : ∀ p ∈ l'.past, p.In
  one : OneD l'.past
theorem ChL.need {l l' : Lp} (h : ChL l l') {a : Nm} (ha : a ∈ needL l') : a ∈ needL l := by
  unfold needL at ha ⊢
  rw [h.ids] at ha
  rcases List.mem_append.1 ha with ha | ha
  · exact List.mem_append_left _ (h.thr.mem_iff.1 ha)
  · exact List.mem_append_right _ ha
theorem ChL.plen {l l' : Lp} (h : ChL l l') : l'.past.length = l.past.length := by
  have := congrArg List.length h.ids
  simpa using this
theorem RightL.ch {t t' : Tab} {l l' : Lp} (h : RightL t l) (hc : ChL l l') (hh : ∀ a, hasB t' a = hasB t a) : RightL t' l' := by
  refine ⟨hc.bed, by rw [hc.thr.length_eq]; exact h.n1, by rw [hc.plen]; exact h.n2, fun a ha => ?_, fun p hp => ⟨hc.pin p hp, ?_⟩, hc.one⟩
  · have := h.i1 a (hc.thr.mem_iff.1 ha)
    exact ⟨this.1, by rw [hh]; exact this.2⟩
  · rw [hh]
    have h1 : p.id ∈ l.past.map Ps.id := by rw [← hc.ids]; exact List.mem_map.2 ⟨p, hp, rfl⟩
    obtain ⟨q, hq, e⟩ := List.mem_map.1 h1
    rw [← e]; exact (h.i2 q hq).2
theorem OKT.tset {t : Tab} {y n : Nat} {l' : Lp} (h : OKT t) (hy : y < t.length) (hn : n < (yi t y).length) (hc : ChL (li (yi t y) n) l') : OKT (tset t y n l') := by
  have hh : ∀ a, hasB (Go.Proofs.YtlhkehfplcclgaaDoor.tset t y n l') a = hasB t a := hasB_tset hy
  obtain ⟨rk, hac⟩ := h.ac
  refine ⟨⟨by rw [tset_len]; exact h.r.n4, fun r hr => ?_, fun r hr l hl => ?_⟩, (thrT_tset hy hn hc.thr).nodup_iff.2 h.nd, ⟨rk, fun z hz m hm a ha => ?_, fun z hz m hm => ?_⟩, by rw [cntT_tset hy]; exact h.c9⟩
  · obtain ⟨r', hr', e⟩ := mem_tset_len hy hr
    rw [← e]; exact h.r.n5 r' hr'
  · rcases mem_tset hy hr hl with rfl | ⟨r', hr', hl'⟩
    · have h1 := (h.r.ri _ (yi_mem hy) _ (li_mem hn)).1.ch hc hh
      exact ⟨h1, by rcases h1.bed with e | e <;> rw [e] <;> decide⟩
    · have h1 := h.r.ri _ hr' _ hl'
      exact ⟨h1.1.mono fun a ha => by rw [hh]; exact ha, h1.2⟩
  · rw [tset_len] at hz
    rw [row_tset hy] at hm
    rw [hh]
    rw [yi_tset hy] at ha
    by_cases e : z = y
    · subst e
      rw [if_pos rfl, li_set hn] at ha
      by_cases e2 : m = n
      · subst e2
        rw [if_pos rfl] at ha
        exact hac.need z hz m hm a (hc.need ha)
      · rw [if_neg e2] at ha; exact hac.need z hz m hm a ha
    · rw [if_neg e] at ha; exact hac.need z hz m hm a ha
  · rw [tset_len] at hz
    rw [row_tset hy] at hm
    exact hac.prev z hz m hm
theorem FIn.tset {f : Fab} {y n : Nat} {l' : Lp} (h : FIn f) (hy : y < f.ys.length) (hn : n < (yi f.ys y).length) (hc : ChL (li (yi f.ys y) n) l') : FIn { f with ys := tset f.ys y n l' } := by
  have h6 := h.n6 _ (yi_mem hy) _ (li_mem hn)
  have h5 := h.ys _ (yi_mem hy) _ (li_mem hn)
  refine ⟨h.held, h.fallen, h.cr, fun r hr l hl => ?_, h.n1, h.n2, h.n3, by show (Go.Proofs.YtlhkehfplcclgaaDoor.tset f.ys y n l').length ≤ 100; rw [tset_len]; exact h.n4, fun r hr => ?_, fun r hr l hl => ?_⟩
  · rcases mem_tset hy hr hl with rfl | ⟨r', hr', hl'⟩
    · exact ⟨by rcases hc.bed with e | e <;> rw [e] <;> decide, fun a ha => h5.2.1 a (hc.thr.mem_iff.1 ha), hc.pin⟩
    · exact h.ys r' hr' l hl'
  · obtain ⟨r', hr', e⟩ := mem_tset_len hy hr
    rw [← e]; exact h.n5 r' hr'
  · rcases mem_tset hy hr hl with rfl | ⟨r', hr', hl'⟩
    · exact ⟨by rw [hc.thr.length_eq]; exact h6.1, by rw [hc.plen]; exact h6.2⟩
    · exact h.n6 r' hr' l hl'
theorem tset_ne {t : Tab} {y n : Nat} {l' : Lp} (hy : y < t.length) (hn : n < (yi t y).length) (h : l' ≠ li (yi t y) n) : tset t y n l' ≠ t := fun e => by
  have h1 := congrArg (fun t => li (yi t y) n) e
  try dsimp only at h1
  rw [yi_tset hy, if_pos rfl, li_set hn, if_pos rfl] at h1
  exact h h1
theorem tset_self {t : Tab} {y n : Nat} (hy : y < t.length) (hn : n < (yi t y).length) : tset t y n (li (yi t y) n) = t := by
  unfold tset
  rw [li_of hn, List.set_getElem_self, yi_of hy, List.set_getElem_self]
/-! ### The seven changes -/
section
variable {t : Tab} {l : Lp}
theorem ch_bed (h : RightL t l) : ChL l { l with bed := 1 - l.bed } := ⟨by show 1 - l.bed = 0 ∨ 1 - l.bed = 1; rcases h.bed with e | e <;> rw [e] <;> simp, List.Perm.refl _, rfl, fun p hp => (h.i2 p hp).1, h.one⟩
theorem ch_new (h : RightL t l) : ChL l { l with new := !l.new } := ⟨h.bed, List.Perm.refl _, rfl, fun p hp => (h.i2 p hp).1, h.one⟩
theorem rot_perm {l : List Nm} (h : l ≠ []) : (l.drop 1 ++ [ni l 0]).Perm l := by
  obtain ⟨a, r, rfl⟩ := List.exists_cons_of_ne_nil h
  show (r ++ [a]).Perm (a :: r)
  exact List.perm_append_comm
theorem ch_thr (h : RightL t l) (h0 : l.thr ≠ []) : ChL l { l with thr := l.thr.drop 1 ++ [ni l.thr 0] } := ⟨h.bed, rot_perm h0, rfl, fun p hp => (h.i2 p hp).1, h.one⟩
/-- The first pass goes by the other side. -/
def flipP (l : List Ps) : List Ps := l.set 0 { qi l 0 with f := !(qi l 0).f }
theorem flipP_cons (p : Ps) (l : List Ps) : flipP (p :: l) = { p with f := !p.f } :: l := rfl
theorem ch_past (h : RightL t l) (h0 : l.past ≠ []) : ChL l { l with past := flipP l.past } := by
  obtain ⟨p, r, e⟩ := List.exists_cons_of_ne_nil h0
  refine ⟨h.bed, List.Perm.refl _, ?_, fun q hq => ?_, ?_⟩
  · show (flipP l.past).map Ps.id = _
    rw [e]; rfl
  · have hq' : q ∈ flipP l.past := hq
    rw [e, flipP_cons] at hq'
    rcases List.mem_cons.1 hq' with rfl | hq'
    · exact (h.i2 p (by rw [e]; simp)).1
    · exact (h.i2 q (by rw [e]; exact List.mem_cons_of_mem _ hq')).1
  · obtain ⟨d, hd, hall⟩ := h.one
    refine ⟨d, hd, fun q hq => ?_⟩
    have hq' : q ∈ flipP l.past := hq
    rw [e, flipP_cons] at hq'
    rcases List.mem_cons.1 hq' with rfl | hq'
    · exact hall p (by rw [e]; simp)
    · exact hall q (by rw [e]; exact List.mem_cons_of_mem _ hq')
theorem rot_ne {l : List Nm} (hn : l.Nodup) (h : 1 < l.length) : l.drop 1 ++ [ni l 0] ≠ l := fun e => by
  match l, h with
  | a :: b :: r, _ =>
    have e1 : b :: (r ++ [a]) = a :: b :: r := e
    have := (List.cons.inj e1).1
    subst this
    simp at hn
theorem flipP_ne {l : List Ps} (h : l ≠ []) : flipP l ≠ l := fun e => by
  obtain ⟨p, r, rfl⟩ := List.exists_cons_of_ne_nil h
  rw [flipP_cons] at e
  have h1 := congrArg Ps.f (List.cons.inj e).1
  dsimp only at h1
  cases hp : p.f <;> rw [hp] at h1 <;> cases h1
theorem swp_ne {l : List Nm} (hn : l.Nodup) (h : 1 < l.length) : swp l 1 ≠ l := fun e => by
  have h1 := congrArg (fun l => ni l 0) e
  try dsimp only at h1
  rw [swp_at (by decide) h, if_pos (by rfl)] at h1
  rw [ni_of h, ni_of (by omega)] at h1
  exact absurd ((List.getElem_inj hn).1 h1) (by decide)
theorem thrR_sub {r : List Lp} {k : Lp} (h : k ∈ r) : List.Sublist k.thr (thrR r) := by
  unfold thrR
  exact List.sublist_flatten_of_mem (List.mem_map.2 ⟨k, h, rfl⟩)
theorem thr_nodup {t : Tab} (h : OKT t) {y n : Nat} (hy : y < t.length) (hn : n < (yi t y).length) : (li (yi t y) n).thr.Nodup :=
  h.nd.sublist ((thrR_sub (li_mem hn)).trans (List.sublist_flatten_of_mem (List.mem_map.2 ⟨_, yi_mem hy, rfl⟩)))
end
/-- The two texts of fabrics that may be valid. -/
theorem TelF.of {f : Fab} (h6 : f.ys.length = 6) (h : OKT f.ys) : TelF f := ⟨h6, fun r hr l hl => by
  have h1 := (h.r.ri r hr l hl).1
  obtain ⟨d, hd, hall⟩ := h1.one
  exact ⟨h1.bed, fun p hp => by rw [hall p hp]; exact hd⟩⟩
theorem textT_iff {f g : Fab} (hf : TelF f) (hg : TelF g) (cf : fchk f = 0) (cg : fchk g = 0) : textT f = textT g ↔ f = g := by
  unfold textT
  rw [if_pos cf, if_pos cg]
  exact ⟨textB_inj hf hg, fun e => by rw [e]⟩
theorem textT_bad {f : Fab} (h : fchk f ≠ 0) : textT f = [] := by unfold textT; rw [if_neg h]
theorem textT_ne {f : Fab} (h : fchk f = 0) {a : Nm} (ha : hasB f.ys a = true) : textT f ≠ [] := fun e => by
  unfold textT at e
  rw [if_pos h, textB_eq] at e
  obtain ⟨y, n, rfl, hy, hn⟩ := hasB_iff ha
  have h1 : descT ⟨(y : Int) + 1, (n : Nat)⟩ (li (yi f.ys y) n) ∈ wordsF f := by
    unfold wordsF
    exact List.mem_append_left _ (List.mem_append_left _ (List.mem_append_left _ (mem_tabW.2 ⟨y, hy, n, hn, rfl⟩)))
  have h2 : (10 : UInt8) ∈ ((wordsF f).map lineT).flatten := List.mem_flatten.2 ⟨_, List.mem_map.2 ⟨_, h1, rfl⟩, by unfold lineT; simp⟩
  rw [e] at h2; cases h2
end Go.Proofs.YtlhkehfplcclgaaDoor
/- The law FabricsCheck: memory; Empty. -/
namespace Go.Proofs.YtlhkehfplcclgaaDoor
set_option linter.unusedVariables false
set_option linter.unusedSimpArgs false
set_option maxRecDepth 8000
open Go Go.RowKit

def emptyF : Fab := ⟨[[], [], [], [], [], []], [], [], []⟩
set_option maxHeartbeats 4000000 in
theorem LEmpty_calls (w : World) : Calls Tryd.prog 47 #[] w fun e w' => e = .returned (.slice (some ⟨w.heap.size, 0, none⟩) 6 6) ∧ w' = w.alloc (.cells (madeCells #[.slice none 0 0] 6) 47) := by
  have hmk : ∀ w, (Instr.makeSlice 31 (.int .i64 6) (.int .i64 6)).run Tryd.prog w = .ok (.slice (some ⟨w.heap.size, 0, none⟩) 6 6) (w.alloc (.cells (madeCells #[.slice none 0 0] 6) 47)) := fun w => by
    have h1 := make_k ekT (by decide) 6 (by omega) .i64 .i64 w
    exact h1
  go_enter Tryd.func47, Tryd.ntmps47
  go_wp2
  go_ret
  exact ⟨rfl, rfl⟩
set_option maxHeartbeats 4000000 in
theorem Empty_calls (w : World) : Calls Tryd.prog 15 #[] w fun e w' => (∃ g, e = .returned (.agg #[.slice (some ⟨g, 0, none⟩) 6 6, .slice none 0 0, .slice none 0 0, .slice none 0 0]) ∧ FB w' (.slice (some ⟨g, 0, none⟩) 6 6) (.slice none 0 0) (.slice none 0 0) (.slice none 0 0) emptyF) ∧ Ext w w' := by
  obtain ⟨W, hW⟩ : ∃ W, W = w.alloc (.cells #[.slice none 0 0, .slice none 0 0, .slice none 0 0, .slice none 0 0] 35) := ⟨_, rfl⟩
  have HB := Lib.hid (show B4 W w.heap.size (.slice none 0 0) (.slice none 0 0) (.slice none 0 0) (.slice none 0 0) 35 by rw [hW]; exact B4.new _ _ _ _ _ _)
  have XW := Lib.hid (show Ext w W by rw [hW]; exact (Ext.refl _).alloc _)
  have HW := Lib.hid hW
  have Hs := Lib.hid (show W.heap.size = w.heap.size + 1 by rw [hW]; simp)
  clear hW
  go_enter Tryd.func15, Tryd.ntmps15
  go_wp2_with fail
  rw [← HW.out]
  refine (LEmpty_calls W).mono ?_
  rintro e w2 ⟨rfl, hw2⟩
  have x2 : Ext W w2 := by rw [hw2]; exact (Ext.refl _).alloc _
  have hrow : w2.rowIs W.heap.size 47 6 (fun _ => .slice none 0 0) := by rw [hw2]; exact World.rowIs_made W _ 6 _
  have hB := HB.out.ext x2
  have hlt : w.heap.size < W.heap.size := by rw [Hs.out]; omega
  obtain ⟨g, hg⟩ : ∃ g, g = W.heap.size := ⟨_, rfl⟩
  rw [← hg] at hrow ⊢
  obtain ⟨VF, hVF⟩ : ∃ VF, VF = (((w2.setCell ⟨w.heap.size, 0, none⟩ (.slice (some ⟨g, 0, none⟩) 6 6)).setCell ⟨w.heap.size, 1, none⟩ (.slice none 0 0)).setCell ⟨w.heap.size, 2, none⟩ (.slice none 0 0)).setCell ⟨w.heap.size, 3, none⟩ (.slice none 0 0) := ⟨_, rfl⟩
  have zF := hB.put4 (.slice (some ⟨g, 0, none⟩) 6 6) (.slice none 0 0) (.slice none 0 0) (.slice none 0 0)
  rw [← hVF] at zF
  have d0 := zF.c0; have d1 := zF.c1; have d2 := zF.c2; have d3 := zF.c3
  have hr2 : VF.rowIs g 47 6 (fun _ => .slice none 0 0) := hrow.of_block (by
    rw [hVF, Below.heap_setCell _ _ _ _ (by dsimp only; omega), Below.heap_setCell _ _ _ _ (by dsimp only; omega), Below.heap_setCell _ _ _ _ (by dsimp only; omega), Below.heap_setCell _ _ _ _ (by dsimp only; omega)])
  have HE := Lib.hid (show (∃ g', Ending.returned (.agg #[.slice (some ⟨g, 0, none⟩) 6 6, .slice none 0 0, .slice none 0 0, .slice none 0 0]) = .returned (.agg #[.slice (some ⟨g', 0, none⟩) 6 6, .slice none 0 0, .slice none 0 0, .slice none 0 0]) ∧ FB VF (.slice (some ⟨g', 0, none⟩) 6 6) (.slice none 0 0) (.slice none 0 0) (.slice none 0 0) emptyF) ∧ Ext w VF from
    ⟨⟨g, rfl, ⟨⟨6, (OT.init hr2).tb rfl⟩, ⟨0, XL.nil _⟩, ⟨0, NL.nil _⟩, 0, NL.nil _⟩⟩, by rw [hVF]; exact Ext.set4 (XW.out.trans x2) (Nat.le_refl _) _ _ _ _⟩)
  obtain ⟨q0, q1, q2, q3⟩ := B4.cells hB
  have qf := hB.fr; have ql := hB.lt
  have HVF := Lib.hid hVF
  clear hw2 hrow hB hlt hg hVF zF hr2 x2
  go_wp2
  rw [← HVF.out]
  exact bodyPost_ret (v := .agg #[.slice (some ⟨g, 0, none⟩) 6 6, .slice none 0 0, .slice none 0 0, .slice none 0 0]) (by simp [results, Tryd.results15, go_sem, d0, d1, d2, d3]) rfl HE.out
theorem ofF_empty {x : FD} (h : (ofT x.t).made.length = 0) : ofF x = emptyF := by
  have h1 : x.t = [] := by
    have h2 := (ofT_inv x.t).2
    rw [h, List.length_take] at h2
    exact List.eq_nil_of_length_eq_zero (by omega)
  unfold ofF
  rw [h1]
  rfl
/-- A fabric's four slices, the table as Of has made it. -/
theorem fb_of {g0 : Nat} {w w1 : World} {F : Nat → Value} {us vs : Nat → Nat → Value} {lv mv cv hv fv : Value} {s : TS} {f : Fab} (hO : OT g0 w1 F us vs s lv mv) (h6 : s.t.length = 6) (u : Agr g0 w1 w) (hy : f.ys = s.t)
    (hc : ∃ c, XL w cv c f.cr) (hh : ∃ c, NL w hv c f.held) (hf : ∃ c, NL w fv c f.fallen) : FB w (.slice (some ⟨g0, 0, none⟩) 6 6) cv hv fv f := ⟨⟨6, by rw [hy]; exact (hO.agr u).tb h6⟩, hc, hh, hf⟩
theorem own_nl {w : World} {N n : Nat} {v : Value} {l : List Nm} (h : w.ownsRow N 41 2 v n (l.map Nm.cs).flatten) (hn : n = l.length) : ∃ c, NL w v c l := CK.of_own h (Ks.nm l) (by rw [List.length_map]; exact hn) (by decide)
theorem own_xl {w : World} {N n : Nat} {v : Value} {l : List Xg} (h : w.ownsRow N 52 5 v n (l.map Xg.cs).flatten) (hn : n = l.length) : ∃ c, XL w v c l := CK.of_own h (Ks.xg l) (by rw [List.length_map]; exact hn) (by decide)
theorem Agr.grown {g0 : Nat} {w1 w w' : World} {v : Option Nat} (h : Agr g0 w1 w) (hs : w1.heap.size ≤ w.heap.size) (hg : w.grownBy w' v) (hv : ∀ g, v = some g → w1.heap.size ≤ g) : Agr g0 w1 w' := fun k h1 h2 => by
  rw [hg.block k (by omega) (fun e => by have := hv k e.symm; omega)]; exact h k h1 h2
theorem own_box {w : World} {N n k b : Nat} {v x y z u : Value} {xs : List Value} {e : TypeId} (h : w.ownsRow N e k v n xs) (hb : B4 w b x y z u 35) (he : e ≠ 35) (o : Nat) (q : Value) : (w.setCell ⟨b, o, none⟩ q).ownsRow N e k v n xs := own_set h (own_b4 h hb he) q
theorem own_lit1 (w : World) (cs : List Value) (e : TypeId) (k : Nat) (hk : cs.length = k) : (w.alloc (.cells cs.toArray e)).ownsRow w.heap.size e k (.slice (some ⟨w.heap.size, 0, none⟩) 1 1) 1 cs :=
  ⟨by simp [hk], .inr ⟨w.heap.size, 1, cs.toArray, rfl, Nat.le_refl _, Deep.blk_alloc_new _ _, Nat.le_refl _, by unfold maxLen; omega, by simp [hk], by rw [Nat.one_mul, List.take_of_length_le (by simp [hk])]⟩⟩
end Go.Proofs.YtlhkehfplcclgaaDoor
/- One loop of a table changed, in memory. -/
namespace Go.Proofs.YtlhkehfplcclgaaDoor
set_option linter.unusedVariables false
set_option linter.unusedSimpArgs false
set_option maxRecDepth 8000
open Go Go.RowKit

theorem cat_set {k : Nat} : ∀ {xs : List (List Value)}, (∀ x ∈ xs, x.length = k) → ∀ {n j : Nat}, n < xs.length → j < k → ∀ v : Value, xs.flatten.set (n * k + j) v = (xs.set n ((xs.getD n []).set j v)).flatten
  | [], _, n, j, hn, _, v => by simp at hn
  | x :: xs, hk, 0, j, _, hj, v => by
    have h1 := hk x (by simp)
    rw [Nat.zero_mul, Nat.zero_add, List.flatten_cons, List.set_append_left _ _ (by omega)]
    simp
  | x :: xs, hk, n + 1, j, hn, hj, v => by
    have h1 := hk x (by simp)
    have ih := cat_set (xs := xs) (fun y hy => hk y (List.mem_cons_of_mem _ hy)) (n := n) (j := j) (by simpa using hn) hj v
    rw [List.flatten_cons, List.set_append_right _ _ (by rw [h1, Nat.succ_mul]; omega), h1, show (n + 1) * k + j - k = n * k + j by rw [Nat.succ_mul]; omega, ih]
    simp
theorem cL_upd {ls : List Lp} {us vs us' vs' : Nat → Value} {n : Nat} {l' : Lp} (hn : n < ls.length) (hu : ∀ i, i ≠ n → us' i = us i) (hv : ∀ i, i ≠ n → vs' i = vs i) :
    cL (ls.set n l') us' vs' = (cL ls us vs).set n [.int .u8 l'.bed, .bool l'.new, us' n, vs' n] := by
  unfold cL
  rw [List.length_set]
  refine List.ext_getElem (by simp) fun i h1 h2 => ?_
  rw [List.getElem_set]
  simp only [List.getElem_map, List.getElem_range]
  rw [li_set hn]
  by_cases e : n = i
  · subst e; rw [if_pos rfl, if_pos rfl]
  · rw [if_neg (Ne.symm e), if_neg e, hu i (Ne.symm e), hv i (Ne.symm e)]
/-- Cell j of loop n is set. -/
theorem cL_cell {ls : List Lp} {us vs us' vs' : Nat → Value} {n j : Nat} {l' : Lp} {x : Value} (hk : Ks 4 (cL ls us vs)) (hn : n < ls.length) (hj : j < 4) (hu : ∀ i, i ≠ n → us' i = us i) (hv : ∀ i, i ≠ n → vs' i = vs i)
    (hx : [Value.int .u8 l'.bed, .bool l'.new, us' n, vs' n] = [Value.int .u8 (li ls n).bed, .bool (li ls n).new, us n, vs n].set j x) :
    (cL ls us vs).flatten.set (n * 4 + j) x = (cL (ls.set n l') us' vs').flatten := by
  rw [cat_set (fun y hy => (hk y hy).1) (by rw [cL_len]; exact hn) hj, cL_upd hn hu hv, cL_get hn, hx]
section
variable {N g m c n : Nat} {w : World} {ls : List Lp} {us vs : Nat → Value}
theorem LRo.ks {v : Value} (h : LRo N w v ls us vs) : Ks 4 (cL ls us vs) := cL_ks fun i hi => ⟨own_one (h.u i hi), own_one (h.v i hi)⟩
theorem LRo.flen {v : Value} (h : LRo N w v ls us vs) : (cL ls us vs).flatten.length = ls.length * 4 := by rw [h.ks.len, cL_len]
theorem LRo.ub {v : Value} (h : LRo N w v ls us vs) (hv : v.ownBlock = some g) {i : Nat} (hi : i < ls.length) : (us i).ownBlock ≠ some g ∧ (vs i).ownBlock ≠ some g :=
  ⟨fun e => own_ty (h.u i hi) h.row (by decide) g e hv, fun e => own_ty (h.v i hi) h.row (by decide) g e hv⟩
/-- The bed. -/
theorem LRo.put0 (h : LRo N w (.slice (some ⟨g, 0, none⟩) m c) ls us vs) (hm : m = ls.length) (hn : n < ls.length) (b : Int) :
    LRo N (w.setCell ⟨g, n * 4, none⟩ (.int .u8 b)) (.slice (some ⟨g, 0, none⟩) m c) (ls.set n { li ls n with bed := b }) us vs := by
  subst hm
  have h1 := own_setAt h.row (o := n * 4 + 0) (by rw [h.flen]; omega) (.int .u8 b)
  rw [cL_cell (l' := { li ls n with bed := b }) h.ks hn (by decide) (fun _ _ => rfl) (fun _ _ => rfl) rfl] at h1
  refine ⟨by rw [List.length_set]; exact h1, fun i hi => ?_, fun i hi => ?_⟩
  · rw [List.length_set] at hi
    have h2 := own_set (h.u i hi) (a := ⟨g, n * 4, none⟩) (h.ub rfl hi).1 (.int .u8 b)
    rw [li_set hn]
    by_cases e : i = n
    · subst e; rw [if_pos rfl]; exact h2
    · rw [if_neg e]; exact h2
  · rw [List.length_set] at hi
    have h2 := own_set (h.v i hi) (a := ⟨g, n * 4, none⟩) (h.ub rfl hi).2 (.int .u8 b)
    rw [li_set hn]
    by_cases e : i = n
    · subst e; rw [if_pos rfl]; exact h2
    · rw [if_neg e]; exact h2
/-- New. -/
theorem LRo.put1 (h : LRo N w (.slice (some ⟨g, 0, none⟩) m c) ls us vs) (hm : m = ls.length) (hn : n < ls.length) (b : Bool) :
    LRo N (w.setCell ⟨g, n * 4 + 1, none⟩ (.bool b)) (.slice (some ⟨g, 0, none⟩) m c) (ls.set n { li ls n with new := b }) us vs := by
  subst hm
  have h1 := own_setAt h.row (o := n * 4 + 1) (by rw [h.flen]; omega) (.bool b)
  rw [cL_cell (l' := { li ls n with new := b }) h.ks hn (by decide) (fun _ _ => rfl) (fun _ _ => rfl) rfl] at h1
  refine ⟨by rw [List.length_set]; exact h1, fun i hi => ?_, fun i hi => ?_⟩
  · rw [List.length_set] at hi
    have h2 := own_set (h.u i hi) (a := ⟨g, n * 4 + 1, none⟩) (h.ub rfl hi).1 (.bool b)
    rw [li_set hn]
    by_cases e : i = n
    · subst e; rw [if_pos rfl]; exact h2
    · rw [if_neg e]; exact h2
  · rw [List.length_set] at hi
    have h2 := own_set (h.v i hi) (a := ⟨g, n * 4 + 1, none⟩) (h.ub rfl hi).2 (.bool b)
    rw [li_set hn]
    by_cases e : i = n
    · subst e; rw [if_pos rfl]; exact h2
    · rw [if_neg e]; exact h2
/-- What it goes through. -/
theorem LRo.put2 (h : LRo N w (.slice (some ⟨g, 0, none⟩) m c) ls us vs) (hm : m = ls.length) (hn : n < ls.length) {u : Value} {th : List Nm} (hu : w.ownsRow N 41 2 u th.length (th.map Nm.cs).flatten) :
    LRo N (w.setCell ⟨g, n * 4 + 2, none⟩ u) (.slice (some ⟨g, 0, none⟩) m c) (ls.set n { li ls n with thr := th }) (upV us n u) vs := by
  subst hm
  have hug : u.ownBlock ≠ some g := fun e => own_ty hu h.row (by decide) g e rfl
  have h1 := own_setAt h.row (o := n * 4 + 2) (by rw [h.flen]; omega) u
  rw [cL_cell (l' := { li ls n with thr := th }) (us' := upV us n u) (vs' := vs) h.ks hn (by decide) (fun i e => by unfold upV; rw [if_neg e]) (fun _ _ => rfl) (by unfold upV; rw [if_pos rfl]; rfl)] at h1
  refine ⟨by rw [List.length_set]; exact h1, fun i hi => ?_, fun i hi => ?_⟩
  · rw [List.length_set] at hi
    rw [li_set hn]
    unfold upV
    by_cases e : i = n
    · subst e; rw [if_pos rfl, if_pos rfl]; exact own_set hu (a := ⟨g, i * 4 + 2, none⟩) hug u
    · rw [if_neg e, if_neg e]; exact own_set (h.u i hi) (a := ⟨g, n * 4 + 2, none⟩) (h.ub rfl hi).1 u
  · rw [List.length_set] at hi
    have h2 := own_set (h.v i hi) (a := ⟨g, n * 4 + 2, none⟩) (h.ub rfl hi).2 u
    rw [li_set hn]
    by_cases e : i = n
    · subst e; rw [if_pos rfl]; exact h2
    · rw [if_neg e]; exact h2
theorem cs_flip {l : List Ps} (h : l ≠ []) : (l.map Ps.cs).flatten.set 2 (.bool (!(qi l 0).f)) = ((flipP l).map Ps.cs).flatten := by
  obtain ⟨p, r, rfl⟩ := List.exists_cons_of_ne_nil h
  rfl
theorem flipP_len (l : List Ps) : (flipP l).length = l.length := by unfold flipP; simp
/-- The first pass. -/
theorem LRo.putP {v : Value} {gp d : Nat} (h : LRo N w v ls us vs) (hn : n < ls.length) (hv : vs n = .slice (some ⟨gp, 0, none⟩) m d) (hm : m = (li ls n).past.length) (h0 : (li ls n).past ≠ []) (hd : ∀ i, i < ls.length → i ≠ n → (vs i).ownBlock ≠ some gp) {b : Bool} (hb : b = !(qi (li ls n).past 0).f) :
    LRo N (w.setCell ⟨gp, 2, none⟩ (.bool b)) v (ls.set n { li ls n with past := flipP (li ls n).past }) us vs := by
  subst hm hb
  have hl := List.length_pos_iff.2 h0
  have hw := h.v n hn
  rw [hv] at hw
  have hvg : v.ownBlock ≠ some gp := fun e => own_ty h.row hw (by decide) gp e rfl
  have h1 := own_setAt hw (o := 2) (by rw [(Ks.ps _).len, List.length_map]; omega) (.bool (!(qi (li ls n).past 0).f))
  rw [cs_flip h0] at h1
  have e0 : cL (ls.set n { li ls n with past := flipP (li ls n).past }) us vs = cL ls us vs := by
    rw [cL_upd (us := us) (vs := vs) hn (fun _ _ => rfl) (fun _ _ => rfl)]
    have h3 := cL_get (us := us) (vs := vs) hn
    refine List.ext_getElem (by simp) fun i k1 k2 => ?_
    rw [List.getElem_set]
    split
    · rename_i e; subst e
      have k3 : (cL ls us vs).getD n [] = (cL ls us vs)[n] := by simp [List.getD, List.getElem?_eq_getElem k2]
      rw [k3] at h3
      exact h3.symm
    · rfl
  refine ⟨by rw [List.length_set, e0]; exact own_set h.row (a := ⟨gp, 2, none⟩) hvg _, fun i hi => ?_, fun i hi => ?_⟩
  · rw [List.length_set] at hi
    have h2 := own_set (h.u i hi) (a := ⟨gp, 2, none⟩) (fun e => own_ty (h.u i hi) hw (by decide) gp e rfl) (.bool (!(qi (li ls n).past 0).f))
    rw [li_set hn]
    by_cases e : i = n
    · subst e; rw [if_pos rfl]; exact h2
    · rw [if_neg e]; exact h2
  · rw [List.length_set] at hi
    rw [li_set hn]
    by_cases e : i = n
    · subst e; rw [if_pos rfl, hv, flipP_len]; exact h1
    · rw [if_neg e]; exact own_set (h.v i hi) (a := ⟨gp, 2, none⟩) (hd i hi e) _
end
section
variable {g0 g m c y n : Nat} {w : World} {F : Nat → Value} {us vs : Nat → Nat → Value} {s : TS} {fv mv : Value}
/-- A table whose row y is another one. -/
theorem tb_row {w' : World} (h6 : s.t.length = 6) (hy : y < 6) (ht : w'.rowIs g0 47 6 F) (hr : ∀ z, z < 6 → z ≠ y → LRo (g0 + 1) w' (F z) (yi s.t z) (us z) (vs z)) {r' : List Lp} {us' vs' : Nat → Value} (hn : LRo (g0 + 1) w' (F y) r' us' vs') : TB w' (.slice (some ⟨g0, 0, none⟩) 6 6) 6 (s.t.set y r') := by
  have hl : (s.t.set y r').length = 6 := by rw [List.length_set, h6]
  refine ⟨F, ⟨_, by rw [List.length_map, List.length_range, hl], by simp [hl], by omega, .inr ⟨g0, 0, rfl, fun i hi => ?_⟩⟩, fun i hi => ?_⟩
  · have hi' : i < 6 := by simpa [hl] using hi
    intro j hj
    have e1 : ((List.range (s.t.set y r').length).map fun i => [F i]).getD i [] = [F i] := by rw [hl]; simp [List.getD, hi']
    rw [e1] at hj ⊢
    obtain rfl : j = 0 := by simp at hj; omega
    have := ht.cell hi'
    simpa using this
  · rw [hl] at hi
    rw [yi_set _ (by rw [h6]; exact hy)]
    by_cases e : i = y
    · subst e; rw [if_pos rfl]; exact hn.to
    · rw [if_neg e]; exact (hr i hi e).to
/-- The rows but y stay where a cell of y's own block is set. -/
theorem OT.other (h : OT g0 w F us vs s fv mv) (hy : y < 6) (hF : (F y).ownBlock = some g) (o : Nat) (x : Value) : (w.setCell ⟨g, o, none⟩ x).rowIs g0 47 6 F ∧ ∀ z, z < 6 → z ≠ y → LRo (g0 + 1) (w.setCell ⟨g, o, none⟩ x) (F z) (yi s.t z) (us z) (vs z) := by
  have hg : g0 < g := ((h.rows y hy).row.lt g hF).1
  refine ⟨h.tab.setOther (fun e => by dsimp only at e; omega) x, fun z hz hzy => (h.rows z hz).set (a := ⟨g, o, none⟩) (fun e => h.dR z y hz hy hzy g e hF) (fun i hi e => own_ty ((h.rows z hz).u i hi) (h.rows y hy).row (by decide) g e hF) (fun i hi e => own_ty ((h.rows z hz).v i hi) (h.rows y hy).row (by decide) g e hF) x⟩
theorem OT.put0 (h : OT g0 w F us vs s fv mv) (h6 : s.t.length = 6) (hy : y < 6) (hn : n < (yi s.t y).length) (hF : F y = .slice (some ⟨g, 0, none⟩) m c) (hm : m = (yi s.t y).length) (b : Int) :
    TB (w.setCell ⟨g, n * 4, none⟩ (.int .u8 b)) (.slice (some ⟨g0, 0, none⟩) 6 6) 6 (tset s.t y n { li (yi s.t y) n with bed := b }) := by
  obtain ⟨h1, h2⟩ := h.other hy (g := g) (by rw [hF]; rfl) (n * 4) (.int .u8 b)
  have h3 := h.rows y hy
  rw [hF] at h3
  exact tb_row h6 hy h1 h2 (by rw [hF]; exact h3.put0 hm hn b)
theorem OT.put1 (h : OT g0 w F us vs s fv mv) (h6 : s.t.length = 6) (hy : y < 6) (hn : n < (yi s.t y).length) (hF : F y = .slice (some ⟨g, 0, none⟩) m c) (hm : m = (yi s.t y).length) (b : Bool) :
    TB (w.setCell ⟨g, n * 4 + 1, none⟩ (.bool b)) (.slice (some ⟨g0, 0, none⟩) 6 6) 6 (tset s.t y n { li (yi s.t y) n with new := b }) := by
  obtain ⟨h1, h2⟩ := h.other hy (g := g) (by rw [hF]; rfl) (n * 4 + 1) (.bool b)
  have h3 := h.rows y hy
  rw [hF] at h3
  exact tb_row h6 hy h1 h2 (by rw [hF]; exact h3.put1 hm hn b)
theorem OT.put2 (h : OT g0 w F us vs s fv mv) (h6 : s.t.length = 6) (hy : y < 6) (hn : n < (yi s.t y).length) (hF : F y = .slice (some ⟨g, 0, none⟩) m c) (hm : m = (yi s.t y).length) {u : Value} {th : List Nm} (hu : w.ownsRow (g0 + 1) 41 2 u th.length (th.map Nm.cs).flatten) :
    TB (w.setCell ⟨g, n * 4 + 2, none⟩ u) (.slice (some ⟨g0, 0, none⟩) 6 6) 6 (tset s.t y n { li (yi s.t y) n with thr := th }) := by
  obtain ⟨h1, h2⟩ := h.other hy (g := g) (by rw [hF]; rfl) (n * 4 + 2) u
  have h3 := h.rows y hy
  rw [hF] at h3
  exact tb_row h6 hy h1 h2 (by rw [hF]; exact h3.put2 hm hn hu)
theorem OT.putP {gp d : Nat} (h : OT g0 w F us vs s fv mv) (h6 : s.t.length = 6) (hy : y < 6) (hn : n < (yi s.t y).length) (hv : vs y n = .slice (some ⟨gp, 0, none⟩) m d) (hm : m = (li (yi s.t y) n).past.length) (h0 : (li (yi s.t y) n).past ≠ []) {b : Bool} (hb : b = !(qi (li (yi s.t y) n).past 0).f) :
    TB (w.setCell ⟨gp, 2, none⟩ (.bool b)) (.slice (some ⟨g0, 0, none⟩) 6 6) 6 (tset s.t y n { li (yi s.t y) n with past := flipP (li (yi s.t y) n).past }) := by
  have hw := (h.rows y hy).v n hn
  have hvb : (vs y n).ownBlock = some gp := by rw [hv]; rfl
  have hg : g0 < gp := (hw.lt gp hvb).1
  refine tb_row h6 hy (h.tab.setOther (fun e => by dsimp only at e; omega) _) (fun z hz hzy => (h.rows z hz).set (a := ⟨gp, 2, none⟩) (fun e => own_ty (h.rows z hz).row hw (by decide) gp e hvb) (fun i hi e => own_ty ((h.rows z hz).u i hi) hw (by decide) gp e hvb) (fun i hi e => h.dV z i y n hz hy hi hn (.inl hzy) gp e hvb) _) ((h.rows y hy).putP hn hv hm h0 (fun i hi hin e => h.dV y i y n hy hy hi hn (.inr hin) gp e hvb) hb)
end
end Go.Proofs.YtlhkehfplcclgaaDoor
