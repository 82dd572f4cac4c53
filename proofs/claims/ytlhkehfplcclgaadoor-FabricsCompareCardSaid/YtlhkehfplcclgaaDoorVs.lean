/- loops.first: its length. The state of its loops. -/
import Derived.Test.YtlhkehfplcclgaaDoorVr
namespace Go.Proofs.YtlhkehfplcclgaaDoor
set_option linter.unusedVariables false
set_option linter.unusedSimpArgs false
set_option maxRecDepth 8000
open Go Go.RowKit

theorem weiI : EK Tryd.prog 58 3 (.int .i64 0) 1 8 := ⟨Tryd.underlying58, by kernel_rfl, rfl, by decide⟩
theorem rowIs_to {w : World} {b n : Nat} {t : TypeId} {f g : Nat → Value} (h : w.rowIs b t n f) (hg : ∀ i, i < n → f i = g i) : w.rowIs b t n g := by
  obtain ⟨c, h1, h2, h3⟩ := h
  exact ⟨c, h1, h2, fun i hi => by rw [h3 i hi, hg i hi]⟩
/-- The state: r has s names; of each yarn mk loops are made; th of the needs of the next one are known to be there. -/
structure FS (B : Nat) (w0 wr : World) (tn : Nat) (r : Value) (s g1 g2 : Nat) (mk th : Nat → Nat) : Prop where
  x : Below B w0 wr
  own : ∃ ns : List Nm, s = ns.length ∧ wr.ownsRow B 41 2 r s (ns.map Nm.cs).flatten
  r1 : wr.rowIs g1 3 tn fun y => .int .i64 (mk y : Nat)
  r2 : wr.rowIs g2 3 tn fun y => .int .i64 (th y : Nat)
  b1 : B ≤ g1
  b2 : B ≤ g2
  ne : g1 ≠ g2
/-- How many are made. -/
def sumN (mk : Nat → Nat) : Nat → Nat
  | 0 => 0
  | n + 1 => sumN mk n + mk n
def up1 (f : Nat → Nat) (y x : Nat) : Nat → Nat := fun i => if i = y then x else f i
theorem sumN_up {mk : Nat → Nat} {y : Nat} : ∀ n, sumN (up1 mk y (mk y + 1)) n = sumN mk n + if y < n then 1 else 0
  | 0 => rfl
  | n + 1 => by
    rw [sumN, sumN, sumN_up n]
    unfold up1
    by_cases h : n = y
    · subst h; simp; omega
    · rw [if_neg h]
      by_cases h2 : y < n
      · rw [if_pos h2, if_pos (by omega)]; omega
      · rw [if_neg h2, if_neg (by omega)]; omega
theorem sumN_le {mk lm : Nat → Nat} : ∀ n, (∀ y, y < n → mk y ≤ lm y) → sumN mk n ≤ sumN lm n
  | 0, _ => Nat.le_refl _
  | n + 1, h => by rw [sumN, sumN]; have := sumN_le n fun y hy => h y (by omega); have := h n (by omega); omega
theorem sumN_eq {mk lm : Nat → Nat} : ∀ n, (∀ y, y < n → mk y = lm y) → sumN mk n = sumN lm n
  | 0, _ => rfl
  | n + 1, h => by rw [sumN, sumN, sumN_eq n fun y hy => h y (by omega), h n (by omega)]
theorem cntT_sum (t : Tab) : ∀ n, n ≤ t.length → cntT (t.take n) = (sumN (fun y => (yi t y).length) n : Nat)
  | 0, _ => rfl
  | n + 1, h => by rw [cntT_take (by omega), cntT_sum t n (by omega), sumN]; omega
theorem own_block_ne {w : World} {B n k g m : Nat} {v : Value} {xs : List Value} {f : Nat → Value} {e e' : TypeId} (h : w.ownsRow B e k v n xs) (hr : w.rowIs g e' m f) (he : e ≠ e') : v.ownBlock ≠ some g := by
  obtain ⟨_, ⟨rfl, _⟩ | ⟨g', cap, cur, rfl, _, h3, _⟩⟩ := h
  · simp [Value.ownBlock]
  · intro e1
    have : g' = g := by simpa [Value.ownBlock] using e1
    subst this
    obtain ⟨c, h4, _⟩ := hr
    rw [h3] at h4
    cases h4
    exact he rfl
theorem own_set {w : World} {B n k : Nat} {v : Value} {xs : List Value} {e : TypeId} (h : w.ownsRow B e k v n xs) {a : Addr} (ha : v.ownBlock ≠ some a.block) (u : Value) : (w.setCell a u).ownsRow B e k v n xs := by
  obtain ⟨h1, h2 | ⟨g', cap, cur, h3, h4, h5, h6⟩⟩ := h
  · exact ⟨h1, .inl h2⟩
  · refine ⟨h1, .inr ⟨g', cap, cur, h3, h4, ?_, h6⟩⟩
    have hne : g' ≠ a.block := fun e1 => ha (by rw [h3]; simp [Value.ownBlock, e1])
    rw [Below.heap_setCell _ _ _ _ hne]; exact h5
theorem FS.ob1 {B : Nat} {w0 wr : World} {tn : Nat} {r : Value} {s g1 g2 : Nat} {mk th : Nat → Nat} (h : FS B w0 wr tn r s g1 g2 mk th) : r.ownBlock ≠ some g1 ∧ r.ownBlock ≠ some g2 := by
  obtain ⟨xs, _, ho⟩ := h.own
  exact ⟨own_block_ne ho h.r1 (by decide), own_block_ne ho h.r2 (by decide)⟩
theorem FS.ext {B : Nat} {w0 wr w' : World} {tn : Nat} {r : Value} {s g1 g2 : Nat} {mk th : Nat → Nat} (h : FS B w0 wr tn r s g1 g2 mk th) (x : Ext wr w') (hB : B ≤ wr.heap.size) : FS B w0 w' tn r s g1 g2 mk th := by
  obtain ⟨xs, hs, ho⟩ := h.own
  exact ⟨h.x.trans (Below.mono x hB), ⟨xs, hs, own_extk ho x⟩, x.row h.r1, x.row h.r2, h.b1, h.b2, h.ne⟩
theorem FS.set1 {B : Nat} {w0 wr : World} {tn : Nat} {r : Value} {s g1 g2 : Nat} {mk th : Nat → Nat} (h : FS B w0 wr tn r s g1 g2 mk th) (y x : Nat) : FS B w0 (wr.setCell ⟨g1, y, none⟩ (.int .i64 (x : Nat))) tn r s g1 g2 (up1 mk y x) th := by
  obtain ⟨xs, hs, ho⟩ := h.own
  refine ⟨Below.setCell h.x h.b1 _, ⟨xs, hs, own_set ho h.ob1.1 _⟩, rowIs_to (h.r1.set y _) fun i hi => ?_, h.r2.setOther (fun e => h.ne e.symm) _, h.b1, h.b2, h.ne⟩
  unfold up1; split <;> rfl
theorem FS.set2 {B : Nat} {w0 wr : World} {tn : Nat} {r : Value} {s g1 g2 : Nat} {mk th : Nat → Nat} (h : FS B w0 wr tn r s g1 g2 mk th) (y x : Nat) : FS B w0 (wr.setCell ⟨g2, y, none⟩ (.int .i64 (x : Nat))) tn r s g1 g2 mk (up1 th y x) := by
  obtain ⟨xs, hs, ho⟩ := h.own
  refine ⟨Below.setCell h.x h.b2 _, ⟨xs, hs, own_set ho h.ob1.2 _⟩, h.r1.setOther h.ne _, rowIs_to (h.r2.set y _) fun i hi => ?_, h.b1, h.b2, h.ne⟩
  unfold up1; split <;> rfl
theorem FS.app {w0 wr wz w' : World} {tn : Nat} {r v' : Value} {s g1 g2 : Nat} {mk th : Nat → Nat} (h : FS w0.heap.size w0 wr tn r s g1 g2 mk th) (x : Ext wr wz) (a : Nm) {ns : List Nm} (hns : s = ns.length)
    (ho : w'.ownsRow w0.heap.size 41 2 v' (s + 1) (ns.map Nm.cs ++ [a.cs]).flatten) (hg : wz.grownBy w' r.ownBlock) : FS w0.heap.size w0 w' tn v' (s + 1) g1 g2 mk th := by
  obtain ⟨n1, n2⟩ := h.ob1
  obtain ⟨xs, _, hr⟩ := h.own
  refine ⟨Ext.grown (Ext.trans (show Ext w0 wr from h.x) x) hg fun j hj => (hr.lt j hj).1, ⟨ns ++ [a], by simp [hns], by rw [List.map_append]; exact ho⟩, ?_, ?_, h.b1, h.b2, h.ne⟩
  · exact (x.row h.r1).of_block (hg.block g1 (x.row h.r1).lt (fun e => n1 e.symm))
  · exact (x.row h.r2).of_block (hg.block g2 (x.row h.r2).lt (fun e => n2 e.symm))
/-- What is known of the counts: all needs that are counted are made. -/
structure FInv (t : Tab) (tn : Nat) (mk th : Nat → Nat) : Prop where
  m : ∀ y, y < tn → mk y ≤ (yi t y).length
  n : ∀ y, y < tn → mk y < (yi t y).length → th y ≤ (needL (li (yi t y) (mk y))).length ∧ ∀ j, j < th y → madeB mk (ni (needL (li (yi t y) (mk y))) j) = true
theorem FInv.zero {t : Tab} {tn : Nat} : FInv t tn (fun _ => 0) (fun _ => 0) := ⟨fun _ _ => Nat.zero_le _, fun _ _ _ => ⟨Nat.zero_le _, fun j hj => by omega⟩⟩
theorem FInv.step {t : Tab} {tn y : Nat} {mk th : Nat → Nat} (h : FInv t tn mk th) (hl : th y < (needL (li (yi t y) (mk y))).length) (hm : madeB mk (ni (needL (li (yi t y) (mk y))) (th y)) = true) : FInv t tn mk (up1 th y (th y + 1)) := by
  refine ⟨h.m, fun z hz hzl => ?_⟩
  obtain ⟨h1, h2⟩ := h.n z hz hzl
  unfold up1
  by_cases e : z = y
  · subst e
    rw [if_pos rfl]
    refine ⟨hl, fun j hj => ?_⟩
    rcases Nat.lt_or_ge j (th z) with h3 | h3
    · exact h2 j h3
    · obtain rfl : j = th z := by omega
      exact hm
  · rw [if_neg e]; exact ⟨h1, h2⟩
theorem madeB_mono {mk mk' : Nat → Nat} (h : ∀ y, mk y ≤ mk' y) {a : Nm} (ha : madeB mk a = true) : madeB mk' a = true := by
  unfold madeB at ha ⊢
  have h1 := of_decide_eq_true ha
  have h2 := h (a.y - 1).toNat
  exact decide_eq_true (by omega)
theorem up1_ge (mk : Nat → Nat) (y x : Nat) : mk x ≤ up1 mk y (mk y + 1) x := by
  unfold up1
  by_cases e : x = y
  · subst e; rw [if_pos rfl]; omega
  · rw [if_neg e]; omega
theorem FInv.make {t : Tab} {tn y : Nat} {mk th : Nat → Nat} (h : FInv t tn mk th) (hl : mk y < (yi t y).length) : FInv t tn (up1 mk y (mk y + 1)) (up1 th y 0) := by
  refine ⟨fun z hz => ?_, fun z hz hzl => ?_⟩
  · unfold up1
    by_cases e : z = y
    · subst e; rw [if_pos rfl]; omega
    · rw [if_neg e]; exact h.m z hz
  · by_cases e : z = y
    · subst e
      have h1 : up1 th z 0 z = 0 := if_pos rfl
      rw [h1]
      exact ⟨Nat.zero_le _, fun j hj => by omega⟩
    · have h1 : up1 th y 0 z = th z := if_neg e
      have h2 : up1 mk y (mk y + 1) z = mk z := if_neg e
      rw [h2] at hzl
      rw [h1, h2]
      obtain ⟨h3, h4⟩ := h.n z hz hzl
      exact ⟨h3, fun j hj => madeB_mono (up1_ge mk y) (h4 j hj)⟩
theorem B4.set {w : World} {b : Nat} {x y z u : Value} {t : TypeId} (h : B4 w b x y z u t) {a : Addr} (hb : b ≠ a.block) (v : Value) : B4 (w.setCell a v) b x y z u t := by
  unfold B4 at h ⊢
  rw [Below.heap_setCell _ _ _ _ hb]; exact h
end Go.Proofs.YtlhkehfplcclgaaDoor
