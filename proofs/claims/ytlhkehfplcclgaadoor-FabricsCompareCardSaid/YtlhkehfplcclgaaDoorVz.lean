/- Cross: what it computes. No program in sight. -/
import Derived.Test.YtlhkehfplcclgaaDoorVy
namespace Go.Proofs.YtlhkehfplcclgaaDoor
set_option linter.unusedVariables false
set_option linter.unusedSimpArgs false
open Go Go.RowKit

/-- The sum of two loops grows by s. -/
def addX : List Xg → Nm → Nm → Int → List Xg
  | [], a, b, s => [⟨a, b, s⟩]
  | c :: l, a, b, s => if cmpX c ⟨a, b, 0⟩ = 0 then (if c.n + s = 0 then l else ⟨a, b, c.n + s⟩ :: l) else if 0 < cmpX c ⟨a, b, 0⟩ then ⟨a, b, s⟩ :: c :: l else c :: addX l a b s
/-- The sum of two loops. -/
def lnk : List Xg → Nm → Nm → Int
  | [], _, _ => 0
  | c :: l, a, b => if cmpX c ⟨a, b, 0⟩ = 0 then c.n else lnk l a b
theorem xi_succ (c : Xg) (l : List Xg) (i : Nat) : xi (c :: l) (i + 1) = xi l i := rfl
theorem xi_zero (c : Xg) (l : List Xg) : xi (c :: l) 0 = c := rfl
theorem At.tail {c : Xg} {l : List Xg} {x : Xg} {i : Nat} (h : At (c :: l) x (i + 1)) : At l x i :=
  ⟨by have := h.le; simp at this; omega, fun j hj => by have := h.lo (j + 1) (by omega); rwa [xi_succ] at this, fun j h1 h2 => by have := h.hi (j + 1) (by omega) (by simp; omega); rwa [xi_succ] at this⟩
theorem hitB_succ {c : Xg} {l : List Xg} {x : Xg} {i : Nat} : hitB (c :: l) x (i + 1) = hitB l x i := by unfold hitB; rw [xi_succ]; simp
theorem ltX_le_lt {a b c : Xg} (h : ltX a b) (k : 0 ≤ cmpX a c) : 0 < cmpX b c := by
  by_cases e : cmpX a c = 0
  · have h1 := cmpX_eq.1 e
    rcases Int.lt_or_le (cmpX b c) 0 with h2 | h2
    · have := ltX_trans h (cmpX_lt.1 h2)
      exact absurd e (by have := cmpX_lt.2 this; omega)
    · rcases Int.lt_or_eq_of_le h2 with h3 | h3
      · exact h3
      · have h4 := cmpX_eq.1 h3.symm
        have : ltX a a := by
          unfold ltX at h ⊢
          rw [h4.1, h4.2, ← h1.1, ← h1.2] at h; exact h
        unfold ltX at this
        rcases this with t | ⟨_, t⟩ <;> exact absurd t ltN_irr
  · rcases Int.lt_or_le (cmpX b c) 0 with h2 | h2
    · have := cmpX_lt.2 (ltX_trans h (cmpX_lt.1 h2)); omega
    · rcases Int.lt_or_eq_of_le h2 with h3 | h3
      · exact h3
      · have h4 := cmpX_eq.1 h3.symm
        have : ltX a c := by unfold ltX at h ⊢; rw [h4.1, h4.2] at h; exact h
        have := cmpX_lt.2 this; omega
theorem lnk_hit {x : Xg} : ∀ {cr : List Xg} {i : Nat}, At cr x i → hitB cr x i = true → lnk cr x.a x.b = (xi cr i).n
  | [], i, h, hb => by unfold hitB at hb; simp at hb
  | c :: l, 0, h, hb => by
    unfold hitB at hb
    rw [xi_zero] at hb ⊢
    simp only [Bool.and_eq_true, decide_eq_true_eq] at hb
    unfold lnk; rw [if_pos (show cmpX c ⟨x.a, x.b, 0⟩ = 0 from hb.2)]
  | c :: l, i + 1, h, hb => by
    have h0 := h.lo 0 (by omega)
    rw [xi_zero] at h0
    rw [hitB_succ] at hb
    rw [xi_succ]
    unfold lnk; rw [if_neg (show ¬ cmpX c ⟨x.a, x.b, 0⟩ = 0 from fun e => by have h1 : cmpX c ⟨x.a, x.b, 0⟩ = cmpX c x := rfl; omega)]
    exact lnk_hit h.tail hb
theorem lnk_none {x : Xg} : ∀ {cr : List Xg}, (∀ j, j < cr.length → cmpX (xi cr j) x ≠ 0) → lnk cr x.a x.b = 0
  | [], _ => rfl
  | c :: l, h => by
    have h0 := h 0 (by simp)
    rw [xi_zero] at h0
    unfold lnk; rw [if_neg (show ¬ cmpX c ⟨x.a, x.b, 0⟩ = 0 from h0)]
    exact lnk_none fun j hj => by have := h (j + 1) (by simp; omega); rwa [xi_succ] at this
theorem At.miss {cr : List Xg} {x : Xg} {i : Nat} (hs : SrtX cr) (h : At cr x i) (hb : hitB cr x i = false) : ∀ j, j < cr.length → cmpX (xi cr j) x ≠ 0 := fun j hj => by
  rcases Nat.lt_or_ge j i with h1 | h1
  · have := h.lo j h1; omega
  · rcases Nat.lt_or_ge i j with h2 | h2
    · have := ltX_le_lt (hs i j h2 hj) (h.hi i (Nat.le_refl _) (by omega)); omega
    · obtain rfl : j = i := by omega
      intro e
      unfold hitB at hb
      rw [decide_eq_true hj, decide_eq_true e] at hb; cases hb
/-- The new list: the place, and what lies around it. -/
theorem addX_hit {x : Xg} {s n : Int} : ∀ {cr : List Xg} {i : Nat}, At cr x i → hitB cr x i = true → n = s + (xi cr i).n → cr.take i ++ (if n = 0 then [] else [⟨x.a, x.b, n⟩]) ++ cr.drop (i + 1) = addX cr x.a x.b s
  | [], i, h, hb, _ => by unfold hitB at hb; simp at hb
  | c :: l, 0, h, hb, hn => by
    unfold hitB at hb
    rw [xi_zero] at hb hn
    simp only [Bool.and_eq_true, decide_eq_true_eq] at hb
    unfold addX; rw [if_pos (show cmpX c ⟨x.a, x.b, 0⟩ = 0 from hb.2)]
    rw [show c.n + s = n by omega]
    by_cases h0 : n = 0
    · rw [if_pos h0, if_pos h0]; simp
    · rw [if_neg h0, if_neg h0]; simp
  | c :: l, i + 1, h, hb, hn => by
    have h0 := h.lo 0 (by omega)
    rw [xi_zero] at h0
    rw [hitB_succ] at hb
    rw [xi_succ] at hn
    have hc : cmpX c ⟨x.a, x.b, 0⟩ < 0 := h0
    unfold addX
    rw [if_neg (show ¬ cmpX c ⟨x.a, x.b, 0⟩ = 0 by omega), if_neg (show ¬ 0 < cmpX c ⟨x.a, x.b, 0⟩ by omega)]
    rw [← addX_hit h.tail hb hn]
    simp
theorem addX_miss {x : Xg} {s : Int} (hs0 : s ≠ 0) : ∀ {cr : List Xg} {i : Nat}, At cr x i → hitB cr x i = false → cr.take i ++ [⟨x.a, x.b, s⟩] ++ cr.drop i = addX cr x.a x.b s
  | [], 0, h, hb => by simp [addX]
  | [], i + 1, h, _ => by have := h.le; simp at this
  | c :: l, 0, h, hb => by
    have h0 := h.hi 0 (by omega) (by simp)
    unfold hitB at hb
    rw [xi_zero] at hb h0
    simp only [List.length_cons, Nat.zero_lt_succ, decide_true, Bool.true_and, decide_eq_false_iff_not] at hb
    have e : cmpX c ⟨x.a, x.b, 0⟩ = cmpX c x := rfl
    unfold addX; rw [if_neg (by rw [e]; exact hb), if_pos (by rw [e]; omega)]
    simp
  | c :: l, i + 1, h, hb => by
    have h0 := h.lo 0 (by omega)
    rw [xi_zero] at h0
    rw [hitB_succ] at hb
    have hc : cmpX c ⟨x.a, x.b, 0⟩ < 0 := h0
    unfold addX
    rw [if_neg (by omega), if_neg (by omega)]
    rw [← addX_miss hs0 h.tail hb]
    simp
/-- Crossings that are as they should be are in order, and their sums are not too great. -/
theorem cchk_srt {t : Tab} {cr : List Xg} (h : cchk t cr = 0) : SrtX cr ∧ ∀ i, i < cr.length → (hasB t (xi cr i).a = true ∧ hasB t (xi cr i).b = true ∧ cmpN (xi cr i).a (xi cr i).b < 0) ∧ -1048576 ≤ (xi cr i).n ∧ (xi cr i).n ≤ 1048576 ∧ (xi cr i).n ≠ 0 := by
  have hc : ∀ i, i < cr.length → crB t cr i = true := by
    unfold cchk at h
    by_cases e : (List.range cr.length).all (crB t cr) = true
    · exact fun i hi => List.all_eq_true.1 e i (List.mem_range.2 hi)
    · rw [if_neg e] at h; cases h
  have hc2 : ∀ i, i < cr.length → ((hasB t (xi cr i).a = true ∧ hasB t (xi cr i).b = true ∧ cmpN (xi cr i).a (xi cr i).b < 0) ∧ -1048576 ≤ (xi cr i).n ∧ (xi cr i).n ≤ 1048576 ∧ (xi cr i).n ≠ 0) ∧ (i = 0 ∨ cmpX (xi cr (i - 1)) (xi cr i) < 0) := fun i hi => by
    have := hc i hi
    unfold crB at this
    simp only [Bool.and_eq_true, Bool.or_eq_true, decide_eq_true_eq] at this
    exact ⟨⟨⟨this.1, this.2.1, this.2.2.1⟩, this.2.2.2.1, this.2.2.2.2.1, this.2.2.2.2.2.1⟩, this.2.2.2.2.2.2⟩
  refine ⟨fun i j hij hj => ?_, fun i hi => (hc2 i hi).1⟩
  obtain ⟨d, rfl⟩ : ∃ d, j = i + 1 + d := ⟨j - i - 1, by omega⟩
  induction d with
  | zero =>
    rcases (hc2 (i + 1) hj).2 with h1 | h1
    · omega
    · exact cmpX_lt.1 h1
  | succ d ih =>
    have h1 := ih (by omega) (by omega)
    rcases (hc2 (i + 1 + (d + 1)) hj).2 with h2 | h2
    · omega
    · exact ltX_trans h1 (cmpX_lt.1 h2)
/-- What Cross says. -/
def crossE (f : Fab) (a b : Nm) (s : Int) : Int :=
  if fchk f = 0 then
    if (s = 1 ∨ s = -1) ∧ a ≠ b then
      if hasB f.ys a = true ∧ hasB f.ys b = true then
        if -1048576 ≤ s + lnk f.cr (pairX a b).a (pairX a b).b ∧ s + lnk f.cr (pairX a b).a (pairX a b).b ≤ 1048576 then 0 else 3
      else 7
    else 1
  else fchk f
def crossF (f : Fab) (a b : Nm) (s : Int) : Fab := { f with cr := addX f.cr (pairX a b).a (pairX a b).b s }
end Go.Proofs.YtlhkehfplcclgaaDoor
