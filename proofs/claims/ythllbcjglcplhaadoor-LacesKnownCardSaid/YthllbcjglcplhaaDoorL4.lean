/- Texts of this claim in one file: libraries and walks. -/
import Derived.Deep.RegionHeld3
import Derived.BigQuiet
import Derived.Laws.StructEq
import Derived.RegionTactic
import Derived.Test.YthllbcjglcplhaaDoorL0
import Derived.Test.YthllbcjglcplhaaDoorL2
import Derived.Test.YthllbcjglcplhaaDoorL3
/- Laces in plain Lean: which rows are valid, their signs, and what signs read as. -/
namespace Go.Proofs.YthllbcjglcplhaaDoor
set_option linter.unusedVariables false
set_option linter.unusedSimpArgs false
set_option maxRecDepth 8000

theorem Ho.two_lst (h : Ho) : (h.l = true → h.p = h.fst + 1 ∧ h.two = h.fst) ∧ (h.l = false → h.p = h.fst ∧ h.two = h.fst + 1) := by
  unfold Ho.two Ho.fst; constructor <;> intro e <;> simp [e] <;> omega
/-- A hole fits behind slot f. -/
def Ho.ok (W f : Int) (h : Ho) : Prop := 0 ≤ h.p ∧ h.p < W ∧ f ≤ h.fst ∧ h.lst < W
instance (W f : Int) (h : Ho) : Decidable (h.ok W f) := by unfold Ho.ok; infer_instance
/-- The holes of a row fit, from slot f on. -/
def rowE (W : Int) : List Ho → Int → Bool
  | [], _ => true
  | h :: t, f => decide (h.ok W f) && rowE W t (h.lst + 1)
theorem rowE_bad {W f : Int} {r : List Ho} {k : Nat} (hk : k < r.length) (h : ¬ (oi r k).ok W f) : rowE W (r.drop k) f = false := by
  rw [drop_oi hk]; unfold rowE; rw [decide_eq_false h]; rfl
theorem rowE_next {W f : Int} {r : List Ho} {k : Nat} (hk : k < r.length) (h : (oi r k).ok W f) : rowE W (r.drop k) f = rowE W (r.drop (k + 1)) ((oi r k).lst + 1) := by
  rw [drop_oi hk]; conv => lhs; unfold rowE
  rw [decide_eq_true h, Bool.true_and]
theorem rowE_end {W f : Int} {r : List Ho} {k : Nat} (hk : r.length ≤ k) : rowE W (r.drop k) f = true := by rw [List.drop_eq_nil_of_le hk]; rfl
theorem rowE_cons {W f : Int} {h : Ho} {t : List Ho} : rowE W (h :: t) f = true ↔ h.ok W f ∧ rowE W t (h.lst + 1) = true := by
  conv => lhs; unfold rowE
  rw [Bool.and_eq_true, decide_eq_true_iff]
theorem rowE_all {W : Int} : ∀ {r : List Ho} {f : Int}, rowE W r f = true → ∀ h ∈ r, h.ok W f
  | [], _, _, h, hh => by simp at hh
  | a :: t, f, e, h, hh => by
    obtain ⟨h1, h2⟩ := rowE_cons.1 e
    rcases List.mem_cons.1 hh with rfl | hh
    · exact h1
    · obtain ⟨b1, b2, b3, b4⟩ := rowE_all h2 h hh
      obtain ⟨_, _, c3, _⟩ := h1
      refine ⟨b1, b2, ?_, b4⟩
      unfold Ho.lst at b3; omega
theorem rowE_mono {W : Int} : ∀ {r : List Ho} {f g : Int}, rowE W r f = true → g ≤ f → rowE W r g = true
  | [], _, _, _, _ => rfl
  | a :: t, f, g, e, hg => by
    obtain ⟨⟨b1, b2, b3, b4⟩, h2⟩ := rowE_cons.1 e
    exact rowE_cons.2 ⟨⟨b1, b2, by omega, b4⟩, h2⟩
/-- The error of a lace. -/
def lchk (W : Int) (rows : List (List Ho)) : Int := if 31 < rows.length ∨ 16 < W then 3 else if W < 2 ∨ rows.length % 2 = 0 then 1 else if rows.all (fun r => rowE W r 0) then 0 else 1
theorem lchk_big {W : Int} {rows : List (List Ho)} (h : 31 < rows.length ∨ 16 < W) : lchk W rows = 3 := if_pos h
theorem lchk_arg {W : Int} {rows : List (List Ho)} (h : ¬ (31 < rows.length ∨ 16 < W)) (h2 : W < 2 ∨ rows.length % 2 = 0) : lchk W rows = 1 := by unfold lchk; rw [if_neg h, if_pos h2]
theorem lchk_row {W : Int} {rows : List (List Ho)} (h : ¬ (31 < rows.length ∨ 16 < W)) {k : Nat} (hk : k < rows.length) (hb : rowE W (ow rows k) 0 = false) : lchk W rows = 1 := by
  unfold lchk; rw [if_neg h]
  by_cases h2 : W < 2 ∨ rows.length % 2 = 0
  · rw [if_pos h2]
  · rw [if_neg h2, if_neg]
    rw [Bool.not_eq_true, List.all_eq_false]
    exact ⟨_, ow_mem hk, by rw [hb]; simp⟩
theorem lchk_ok {W : Int} {rows : List (List Ho)} (h : ¬ (31 < rows.length ∨ 16 < W)) (h2 : ¬ (W < 2 ∨ rows.length % 2 = 0)) (hg : ∀ k, k < rows.length → rowE W (ow rows k) 0 = true) : lchk W rows = 0 := by
  unfold lchk; rw [if_neg h, if_neg h2, if_pos]
  rw [List.all_eq_true]
  intro r hr
  obtain ⟨i, hi, rfl⟩ := List.mem_iff_getElem.1 hr
  have := hg i hi
  rwa [ow_of_lt hi] at this
theorem lchk_zero {W : Int} {rows : List (List Ho)} (h : lchk W rows = 0) : rows.length ≤ 31 ∧ 2 ≤ W ∧ W ≤ 16 ∧ rows.length % 2 = 1 ∧ ∀ k, k < rows.length → rowE W (ow rows k) 0 = true := by
  unfold lchk at h
  by_cases h1 : 31 < rows.length ∨ 16 < W
  · rw [if_pos h1] at h; cases h
  · rw [if_neg h1] at h
    by_cases h2 : W < 2 ∨ rows.length % 2 = 0
    · rw [if_pos h2] at h; cases h
    · rw [if_neg h2] at h
      by_cases h3 : rows.all (fun r => rowE W r 0) = true
      · refine ⟨by omega, by omega, by omega, by omega, fun k hk => ?_⟩
        exact List.all_eq_true.1 h3 _ (ow_mem hk)
      · rw [if_neg h3] at h; cases h

/-! ### Signs -/
def put1 (s : List Int) (h : Ho) : List Int := (s.set h.p.toNat 79).set h.two.toNat 47
def sgn (W : Nat) (r : List Ho) : List Int := r.foldl put1 (List.replicate W 46)
theorem put1_len (s : List Int) (h : Ho) : (put1 s h).length = s.length := by simp [put1]
theorem foldl_put_len (r : List Ho) : ∀ s : List Int, (r.foldl put1 s).length = s.length := by
  induction r with
  | nil => intro s; rfl
  | cons h t ih => intro s; rw [List.foldl_cons, ih, put1_len]
theorem sgn_len (W : Nat) (r : List Ho) : (sgn W r).length = W := by unfold sgn; rw [foldl_put_len]; simp
/-- The same signs, written from left to right. -/
def sgF (W : Nat) : Nat → List Ho → List Int
  | f, [] => List.replicate (W - f) 46
  | f, h :: t => List.replicate (h.fst.toNat - f) 46 ++ ((if h.l then [47, 79] else [79, 47]) ++ sgF W (h.fst.toNat + 2) t)
theorem rep_split (a : Int) (m n : Nat) : List.replicate (m + n) a = List.replicate m a ++ List.replicate n a := List.replicate_append_replicate.symm
theorem put1_mid {h : Ho} {W : Nat} {f : Nat} (hh : h.ok W f) (pre : List Int) (hp : pre.length = f) :
    put1 (pre ++ List.replicate (W - f) 46) h = pre ++ List.replicate (h.fst.toNat - f) 46 ++ (if h.l then [47, 79] else [79, 47]) ++ List.replicate (W - (h.fst.toNat + 2)) 46 := by
  obtain ⟨h1, h2, h3, h4⟩ := hh
  unfold Ho.lst at h4
  obtain ⟨a, ha⟩ : ∃ a : Nat, h.fst = a := ⟨h.fst.toNat, by omega⟩
  have hW : W - f = (a - f) + (1 + (1 + (W - (a + 2)))) := by omega
  have hl := h.two_lst
  rw [ha] at hl ⊢
  rw [hW, rep_split, rep_split 46 1, rep_split 46 1, ← List.append_assoc, Int.toNat_natCast]
  have hlen : (pre ++ List.replicate (a - f) (46 : Int)).length = a := by simp; omega
  generalize pre ++ List.replicate (a - f) (46 : Int) = P at hlen ⊢
  unfold put1
  cases e : h.l
  · obtain ⟨e1, e2⟩ := hl.2 e
    rw [e1, e2]
    have t1 : ((a : Int)).toNat = P.length := by omega
    have t2 : ((a : Int) + 1).toNat = P.length + 1 := by omega
    rw [t1, t2]
    simp [List.set_append]
  · obtain ⟨e1, e2⟩ := hl.1 e
    rw [e1, e2]
    have t1 : ((a : Int)).toNat = P.length := by omega
    have t2 : ((a : Int) + 1).toNat = P.length + 1 := by omega
    rw [t1, t2]
    simp [List.set_append]
theorem foldl_sgF (W : Nat) : ∀ (r : List Ho) (f : Nat) (pre : List Int), pre.length = f → f ≤ W → rowE W r f = true → r.foldl put1 (pre ++ List.replicate (W - f) 46) = pre ++ sgF W f r
  | [], f, pre, _, _, _ => rfl
  | h :: t, f, pre, hp, hf, e => by
    obtain ⟨h1, h2⟩ := rowE_cons.1 e
    have hh := h1
    obtain ⟨b1, b2, b3, b4⟩ := h1
    unfold Ho.lst at b4 h2
    rw [List.foldl_cons, put1_mid hh pre hp]
    have ih := foldl_sgF W t (h.fst.toNat + 2) (pre ++ List.replicate (h.fst.toNat - f) 46 ++ (if h.l then [47, 79] else [79, 47])) (by
      split <;> simp <;> omega) (by omega) (by rw [show ((h.fst.toNat + 2 : Nat) : Int) = h.fst + 1 + 1 by omega]; exact h2)
    rw [ih]
    conv => rhs; unfold sgF
    simp only [List.append_assoc]
theorem sgn_sgF {W : Nat} {r : List Ho} (h : rowE W r 0 = true) : sgn W r = sgF W 0 r := by
  have := foldl_sgF W r 0 [] rfl (Nat.zero_le _) h
  simpa [sgn] using this
/-- What signs read as. -/
def rdL : Nat → List Int → Option (List Ho)
  | _, [] => some []
  | f, [x] => if x = 46 then rdL (f + 1) [] else none
  | f, x :: y :: t => if x = 46 then rdL (f + 1) (y :: t) else if x = 79 ∧ y = 47 then (rdL (f + 2) t).map (⟨f, false⟩ :: ·) else if x = 47 ∧ y = 79 then (rdL (f + 2) t).map (⟨(f : Int) + 1, true⟩ :: ·) else none
theorem rdL_dot (f : Nat) (t : List Int) : rdL f (46 :: t) = rdL (f + 1) t := by
  cases t with
  | nil => simp [rdL]
  | cons y t => conv => lhs; unfold rdL
                rw [if_pos rfl]
theorem rdL_dots (n : Nat) : ∀ (f : Nat) (t : List Int), rdL f (List.replicate n 46 ++ t) = rdL (f + n) t := by
  induction n with
  | zero => intro f t; rfl
  | succ n ih => intro f t; rw [List.replicate_succ, List.cons_append, rdL_dot, ih]; congr 1; omega
theorem rdL_sgF (W : Nat) : ∀ (r : List Ho) (f : Nat), rowE W r f = true → rdL f (sgF W f r) = some r
  | [], f, _ => by
    have := rdL_dots (W - f) f []
    rw [List.append_nil] at this
    unfold sgF; rw [this]; unfold rdL; rfl
  | h :: t, f, e => by
    obtain ⟨h1, h2⟩ := rowE_cons.1 e
    obtain ⟨b1, b2, b3, b4⟩ := h1
    unfold Ho.lst at b4 h2
    have ih := rdL_sgF W t (h.fst.toNat + 2) (by rw [show ((h.fst.toNat + 2 : Nat) : Int) = h.fst + 1 + 1 by omega]; exact h2)
    unfold sgF
    rw [rdL_dots]
    have e1 : f + (h.fst.toNat - f) = h.fst.toNat := by omega
    rw [e1]
    have hl := h.two_lst
    cases el : h.l
    · have e2 := hl.2 el
      simp only [Bool.false_eq_true, if_false, List.cons_append, List.nil_append]
      unfold rdL
      rw [if_neg (by decide), if_pos ⟨rfl, rfl⟩, ih, Option.map_some]
      have : (⟨(h.fst.toNat : Int), false⟩ : Ho) = h := by
        cases h; simp only [Ho.mk.injEq]; exact ⟨by have := e2.1; simp only at *; omega, el.symm⟩
      rw [this]
    · have e2 := hl.1 el
      simp only [if_true, List.cons_append, List.nil_append]
      unfold rdL
      rw [if_neg (by decide), if_neg (by decide), if_pos ⟨rfl, rfl⟩, ih, Option.map_some]
      have : (⟨(h.fst.toNat : Int) + 1, true⟩ : Ho) = h := by
        cases h; simp only [Ho.mk.injEq]; exact ⟨by have := e2.1; simp only at *; omega, el.symm⟩
      rw [this]
theorem sgF_dot {W f : Nat} (hf : f < W) : ∀ {r : List Ho}, rowE W r (f + 1 : Nat) = true → sgF W f r = 46 :: sgF W (f + 1) r
  | [], _ => by
    unfold sgF
    rw [show W - f = (W - (f + 1)) + 1 by omega, List.replicate_succ]
  | h :: t, e => by
    obtain ⟨⟨b1, b2, b3, b4⟩, h2⟩ := rowE_cons.1 e
    unfold sgF
    rw [show h.fst.toNat - f = (h.fst.toNat - (f + 1)) + 1 by omega, List.replicate_succ]
    rfl
theorem rdL_back : ∀ (xs : List Int) (f : Nat) (r : List Ho), rdL f xs = some r → rowE ((f + xs.length : Nat) : Int) r f = true ∧ sgF (f + xs.length) f r = xs
  | [], f, r, e => by
    unfold rdL at e
    obtain rfl := Option.some.inj e
    exact ⟨rfl, by unfold sgF; simp⟩
  | [x], f, r, e => by
    unfold rdL at e
    by_cases hx : x = 46
    · subst hx
      rw [if_pos rfl] at e
      unfold rdL at e
      obtain rfl := Option.some.inj e
      exact ⟨rfl, by unfold sgF; simp⟩
    · rw [if_neg hx] at e; cases e
  | x :: y :: t, f, r, e => by
    unfold rdL at e
    by_cases hx : x = 46
    · subst hx
      rw [if_pos rfl] at e
      obtain ⟨i1, i2⟩ := rdL_back (y :: t) (f + 1) r e
      have hl : f + (46 :: y :: t : List Int).length = f + 1 + (y :: t).length := by simp; omega
      rw [hl]
      refine ⟨rowE_mono i1 (by omega), ?_⟩
      rw [sgF_dot (by omega) i1, i2]
    · rw [if_neg hx] at e
      have hl : f + (x :: y :: t : List Int).length = f + 2 + t.length := by simp; omega
      rw [hl]
      by_cases h1 : x = 79 ∧ y = 47
      · obtain ⟨rfl, rfl⟩ := h1
        rw [if_pos ⟨rfl, rfl⟩] at e
        obtain ⟨r', e', rfl⟩ := Option.map_eq_some_iff.1 e
        obtain ⟨i1, i2⟩ := rdL_back t (f + 2) r' e'
        refine ⟨rowE_cons.2 ⟨⟨by simp, by simp only; omega, by simp [Ho.fst], by simp [Ho.lst, Ho.fst]; omega⟩, ?_⟩, ?_⟩
        · have : (Ho.lst ⟨(f : Int), false⟩ + 1) = ((f + 2 : Nat) : Int) := by simp [Ho.lst, Ho.fst]; omega
          rw [this]; exact i1
        · unfold sgF
          have : (Ho.fst ⟨(f : Int), false⟩).toNat = f := by simp [Ho.fst]
          rw [this, i2]; simp
      · rw [if_neg h1] at e
        by_cases h2 : x = 47 ∧ y = 79
        · obtain ⟨rfl, rfl⟩ := h2
          rw [if_pos ⟨rfl, rfl⟩] at e
          obtain ⟨r', e', rfl⟩ := Option.map_eq_some_iff.1 e
          obtain ⟨i1, i2⟩ := rdL_back t (f + 2) r' e'
          refine ⟨rowE_cons.2 ⟨⟨by simp only; omega, by simp only; omega, by simp [Ho.fst], by simp [Ho.lst, Ho.fst]; omega⟩, ?_⟩, ?_⟩
          · have : (Ho.lst ⟨(f : Int) + 1, true⟩ + 1) = ((f + 2 : Nat) : Int) := by simp [Ho.lst, Ho.fst]; omega
            rw [this]; exact i1
          · unfold sgF
            have : (Ho.fst ⟨(f : Int) + 1, true⟩).toNat = f := by simp [Ho.fst]
            rw [this, i2]; simp
        · rw [if_neg h2] at e; cases e
theorem rdL_sgn {W : Nat} {r : List Ho} (h : rowE W r 0 = true) : rdL 0 (sgn W r) = some r := by rw [sgn_sgF h]; exact rdL_sgF W r 0 h
theorem rdL_back0 {xs : List Int} {r : List Ho} (h : rdL 0 xs = some r) : rowE xs.length r 0 = true ∧ sgn xs.length r = xs := by
  obtain ⟨h1, h2⟩ := rdL_back xs 0 r h
  rw [Nat.zero_add] at h1 h2
  have h1' : rowE (xs.length : Int) r 0 = true := by simpa using h1
  exact ⟨h1', by rw [sgn_sgF h1']; exact h2⟩
/-! ### The chart of a row -/
def sgSt (y c : Int) : St := ⟨if c = 79 then 3 else if c = 47 then 4 else 1, y, 0, 0, false⟩
def lrow (W : Nat) (y : Int) (r : List Ho) : List St := (sgn W r).map (sgSt y)
def lch (W : Nat) (y : Int) (rows : List (List Ho)) : List (List St) := rows.map (lrow W y)
theorem lrow_len (W : Nat) (y : Int) (r : List Ho) : (lrow W y r).length = W := by unfold lrow; rw [List.length_map, sgn_len]
theorem lch_len (W : Nat) (y : Int) (rows : List (List Ho)) : (lch W y rows).length = rows.length := by unfold lch; simp
theorem lch_sw {W : Nat} {y : Int} {rows : List (List Ho)} {i : Nat} (h : i < rows.length) : sw (lch W y rows) i = lrow W y (ow rows i) := by
  rw [sw_of_lt (by rw [lch_len]; exact h), ow_of_lt h]; unfold lch; rw [List.getElem_map]
theorem lrow_zero (W : Nat) (y : Int) : lrow W y [] = List.replicate W ⟨1, y, 0, 0, false⟩ := by unfold lrow sgn; simp [sgSt]
theorem sgn_snoc (W : Nat) (r : List Ho) (h : Ho) : sgn W (r ++ [h]) = put1 (sgn W r) h := by unfold sgn; rw [List.foldl_append]; rfl
theorem lrow_snoc (W : Nat) (y : Int) (r : List Ho) (h : Ho) : lrow W y (r ++ [h]) = ((lrow W y r).set h.p.toNat ⟨3, y, 0, 0, false⟩).set h.two.toNat ⟨4, y, 0, 0, false⟩ := by
  unfold lrow
  rw [sgn_snoc]; unfold put1
  rw [List.map_set, List.map_set]
  rfl
end Go.Proofs.YthllbcjglcplhaaDoor
/- More for walks: blocks of two cells (a struct of two fields that lies in memory). -/
namespace Go.Proofs.YthllbcjglcplhaaDoor
set_option linter.unusedVariables false
set_option linter.unusedSimpArgs false
open Go Go.RowKit

/-- Block b holds a struct of two fields. -/
def B2 (w : World) (b : Nat) (x y : Value) (t : TypeId) : Prop := w.heap[b]? = some (.cells #[x, y] t (0, 0))
theorem B2.c0 {w : World} {b : Nat} {x y : Value} {t : TypeId} (h : B2 w b x y t) : w.cell? ⟨b, 0, none⟩ = some x := by unfold B2 at h; simp [World.cell?, h]
theorem B2.c1 {w : World} {b : Nat} {x y : Value} {t : TypeId} (h : B2 w b x y t) : w.cell? ⟨b, 1, none⟩ = some y := by unfold B2 at h; simp [World.cell?, h]
theorem B2.f0 {w : World} {b : Nat} {x y : Value} {t : TypeId} (h : B2 w b x y t) : w.frozen? ⟨b, 0, none⟩ = false := by unfold B2 at h; simp [World.frozen?, h]
theorem B2.f1 {w : World} {b : Nat} {x y : Value} {t : TypeId} (h : B2 w b x y t) : w.frozen? ⟨b, 1, none⟩ = false := by unfold B2 at h; simp [World.frozen?, h]
theorem B2.ext {w w' : World} {b : Nat} {x y : Value} {t : TypeId} (h : B2 w b x y t) (e : Ext w w') : B2 w' b x y t := Ext.block e h
theorem B2.new (w : World) (x y : Value) (t : TypeId) : B2 (w.alloc (.cells #[x, y] t)) w.heap.size x y t := Deep.blk_alloc_new _ _
theorem B2.lt {w : World} {b : Nat} {x y : Value} {t : TypeId} (h : B2 w b x y t) : b < w.heap.size := World.block_lt_of_cell? w _ h.c0
theorem B2.alloc {w : World} {b : Nat} {x y : Value} {t : TypeId} (h : B2 w b x y t) (o : Obj) : B2 (w.alloc o) b x y t := h.ext ((Ext.refl w).alloc o)
theorem B2.set0 {w : World} {b : Nat} {x y u : Value} {t : TypeId} (h : B2 w b x y t) : B2 (w.setCell ⟨b, 0, none⟩ u) b u y t := by
  unfold B2 at *
  have hlt := lt_of_block h
  have h' : w.heap[b] = .cells #[x, y] t (0, 0) := by simpa [Array.getElem?_eq_getElem hlt] using h
  show (w.heap.modify b _)[b]? = _
  rw [Array.getElem?_eq_getElem (by simpa using hlt), Array.getElem_modify_self, h']
  rfl
theorem B2.set1 {w : World} {b : Nat} {x y u : Value} {t : TypeId} (h : B2 w b x y t) : B2 (w.setCell ⟨b, 1, none⟩ u) b x u t := by
  unfold B2 at *
  have hlt := lt_of_block h
  have h' : w.heap[b] = .cells #[x, y] t (0, 0) := by simpa [Array.getElem?_eq_getElem hlt] using h
  show (w.heap.modify b _)[b]? = _
  rw [Array.getElem?_eq_getElem (by simpa using hlt), Array.getElem_modify_self, h']
  rfl
theorem B2.set2 {w : World} {b : Nat} {x y : Value} {t : TypeId} (h : B2 w b x y t) (u v : Value) : B2 ((w.setCell ⟨b, 0, none⟩ u).setCell ⟨b, 1, none⟩ v) b u v t := h.set0.set1
theorem B2.setOther {w : World} {b : Nat} {x y u : Value} {t : TypeId} {a : Addr} (h : B2 w b x y t) (hn : b ≠ a.block) : B2 (w.setCell a u) b x y t := by
  unfold B2 at *
  rw [Deep.blk_setCell_other _ _ _ _ hn]; exact h
theorem B2.setOther2 {w : World} {b : Nat} {x y : Value} {t : TypeId} (h : B2 w b x y t) (c : Nat) (hn : b ≠ c) (u v : Value) : B2 ((w.setCell ⟨c, 0, none⟩ u).setCell ⟨c, 1, none⟩ v) b x y t := (h.setOther hn).setOther hn
theorem Ext.set2 {w w' : World} (h : Ext w w') (c : Nat) (hc : w.heap.size ≤ c) (u v : Value) : Ext w ((w'.setCell ⟨c, 0, none⟩ u).setCell ⟨c, 1, none⟩ v) := (h.setCell hc _).setCell hc _

/-- Strings: equal or not, in the walk's words. -/
theorem str_eq {a b : ByteArray} (h : a = b) : (a.toList == b.toList) = true := by rw [h]; simp
theorem str_ne {a b : ByteArray} (h : a ≠ b) : (a.toList == b.toList) = false := by
  rw [beq_eq_false_iff_ne]
  intro e
  rw [ByteArray.toList_eq, ByteArray.toList_eq] at e
  exact h (ByteArray.ext (Array.toList_inj.1 e))
theorem str_nonempty {a : ByteArray} (h : 0 < a.size) : a.toList.isEmpty = false := by
  rw [ByteArray.toList_eq, List.isEmpty_eq_false_iff]
  intro e
  have : a.data.toList.length = 0 := by rw [e]; rfl
  rw [Array.length_toList] at this
  have h2 : a.data.size = a.size := rfl
  omega
end Go.Proofs.YthllbcjglcplhaaDoor
/- ganseylaw20.small, laces.Hole.two, laces.Check. -/
namespace Go.Proofs.YthllbcjglcplhaaDoor
set_option linter.unusedVariables false
set_option linter.unusedSimpArgs false
set_option maxRecDepth 8000
open Go Go.RowKit

/-- At most 40 rows with at most 40 holes. -/
def smal (rows : List (List Ho)) : Int := if 40 < rows.length ∨ rows.any (fun r => decide (40 < r.length)) then 0 else 1
theorem smal_bad {rows : List (List Ho)} {k : Nat} (hk : k < rows.length) (h : 40 < (ow rows k).length) : smal rows = 0 := by
  unfold smal; rw [if_pos]
  exact .inr (List.any_eq_true.2 ⟨_, ow_mem hk, decide_eq_true h⟩)
theorem smal_ok {rows : List (List Ho)} (h : rows.length ≤ 40) (hr : ∀ k, k < rows.length → (ow rows k).length ≤ 40) : smal rows = 1 := by
  unfold smal; rw [if_neg]
  rintro (h1 | h1)
  · omega
  · obtain ⟨r, hr', hd⟩ := List.any_eq_true.1 h1
    obtain ⟨i, hi, rfl⟩ := List.mem_iff_getElem.1 hr'
    have := hr i hi
    rw [ow_of_lt hi] at this
    have := of_decide_eq_true hd
    omega
theorem smal_bd {rows : List (List Ho)} (h : smal rows = 1) : rows.length ≤ 40 ∧ ∀ k, k < rows.length → (ow rows k).length ≤ 40 := by
  unfold smal at h
  split at h
  · cases h
  · rename_i h1
    refine ⟨by omega, fun k hk => ?_⟩
    by_cases e : 40 < (ow rows k).length
    · exact absurd (.inr (List.any_eq_true.2 ⟨_, ow_mem hk, decide_eq_true e⟩)) h1
    · omega
theorem smal_cases (rows : List (List Ho)) : smal rows = 0 ∨ smal rows = 1 := by unfold smal; split <;> simp
set_option maxHeartbeats 2000000 in
theorem Small_calls (W : Int) (v : Value) (c : Nat) (rows : List (List Ho)) (w : World) (h : HR w v c rows) : Calls Tryd.prog 11 #[.agg #[.int .i64 W, v]] w fun e w' => e = .returned (.int .i64 (smal rows)) ∧ Ext w w' := by
  obtain ⟨ao, n, rfl, hn, hc, hcm, hat⟩ := h.open
  unfold maxLen at hcm
  obtain ⟨W1, hW1⟩ : ∃ W1, W1 = w.alloc (.cells #[.int .i64 W, .slice ao n c] 24) := ⟨_, rfl⟩
  have xW : Ext w W1 := by rw [hW1]; exact (Ext.refl w).alloc _
  have hB := B2.new w (.int .i64 W) (.slice ao n c) 24
  rw [← hW1] at hB
  have hbad := fun k (hk : k < n) => smal_bad (rows := rows) (k := k) (by omega)
  have hlong := fun (h : 40 < n) => show smal rows = 0 from by unfold smal; rw [if_pos (.inl (by omega))]
  have hok := fun (h1 : n ≤ 40) (h : ∀ k, k < n → (ow rows k).length ≤ 40) => smal_ok (rows := rows) (by omega) (fun k hk => h k (by omega))
  obtain ⟨S, hS⟩ : ∃ S, S = smal rows := ⟨_, rfl⟩
  rw [← hS] at hbad hok hlong ⊢
  have HA := Lib.hid hat; have HBad := Lib.hid hbad; have HOk := Lib.hid hok; have HB := Lib.hid hB; have XW := Lib.hid xW; have HW1 := Lib.hid hW1
  have e1 := hB.c1
  rw [hW1] at e1
  clear hat h hn hS hbad hok hB xW hW1
  go_enter Tryd.func11, Tryd.ntmps11
  by_cases h40 : 40 < n
  · have t0 : (40 : Int) < n := by omega
    have hS := hlong h40
    subst hS
    clear h40 hlong
    go_wp2
    go_ret
    exact ⟨rfl, (Ext.refl w).alloc _⟩
  · have t0 : ¬ (40 : Int) < n := by omega
    go_wp2
    rw [← HW1.out]
    clear e1 hlong
    go_loopw [3, 13] (fun i _ wr => ∃ k : Nat, k ≤ n ∧ i = .int .i64 k ∧ Hid (Ext W1 wr) ∧ Hid (∀ j, j < k → (ow rows j).length ≤ 40)) (fun i _ _ => n - (intOf i).toNat)
    case atStart => exact ⟨0, Nat.zero_le _, rfl, Lib.hid (Ext.refl _), Lib.hid (fun j hj => by omega)⟩
    case round =>
      obtain ⟨k, hk, rfl, HX, HG⟩ := hrel
      have e1 := (HB.out.ext HX.out).c1
      by_cases hlt : k < n
      · obtain ⟨b, o, a, m, d, rfl, y1, y2⟩ := HA.out k hlt
        replace y1 := (XW.out.trans HX.out).cell y1
        have t1 : (k : Int) < n := by omega
        obtain ⟨_, _, f1, f2, _, _, _⟩ := y2.open
        simp only [Value.slice.injEq] at f1
        obtain ⟨rfl, rfl, _⟩ := f1
        have Hl := Lib.hid f2
        clear y2 f2
        by_cases hm : 40 < m
        · have hS := HBad.out k hlt (by rw [← Hl.out]; exact hm)
          have t2 : (40 : Int) < m := by omega
          subst hS
          clear hm
          go_wp2
          go_ret
          exact ⟨rfl, XW.out.trans HX.out⟩
        · have t2 : ¬ (40 : Int) < m := by omega
          have HG2 := Lib.hid (show ∀ j, j < k + 1 → (ow rows j).length ≤ 40 from fun j hj => by
            by_cases e : j = k
            · rw [e, ← Hl.out]; omega
            · exact HG.out j (by omega))
          clear hm
          go_wp2
          go_roundw
          case rel => exact ⟨k + 1, by omega, by go_num, HX, HG2⟩
          case measure => simp [intOf]; omega
      · obtain rfl : k = n := by omega
        have hS := HOk.out (by omega) HG.out
        subst hS
        have t1 : ¬ (k : Int) < k := by omega
        clear hlt
        go_wp2
        go_ret
        exact ⟨rfl, XW.out.trans HX.out⟩
theorem two_calls (h : Ho) (w : World) (hb : 0 ≤ h.p ∧ h.p ≤ 1000000) : Calls Tryd.prog 34 #[h.val] w fun e w' => e = .returned (.int .i64 h.two) ∧ Ext w w' := by
  obtain ⟨p, l⟩ := h
  unfold Ho.val Ho.two
  simp only at hb ⊢
  have w1 : IntKind.i64.wrap (p - 1) = p - 1 := IntWalk.i64_in _ ⟨by omega, by omega⟩
  have w2 : IntKind.i64.wrap (p + 1) = p + 1 := IntWalk.i64_in _ ⟨by omega, by omega⟩
  have hB := B2.new w (.int .i64 p) (.bool l) 39
  have e0 := hB.c0; have e1 := hB.c1
  clear hB
  go_enter Tryd.func34, Tryd.ntmps34
  cases l
  · go_wp2
    go_ret
    exact ⟨rfl, (Ext.refl w).alloc _⟩
  · go_wp2
    go_ret
    exact ⟨rfl, (Ext.refl w).alloc _⟩
end Go.Proofs.YthllbcjglcplhaaDoor
/- laces.Check. -/
namespace Go.Proofs.YthllbcjglcplhaaDoor
set_option linter.unusedVariables false
set_option linter.unusedSimpArgs false
set_option maxRecDepth 8000
open Go Go.RowKit

set_option maxHeartbeats 4000000 in
theorem LCheck_calls (W : Int) (v : Value) (c : Nat) (rows : List (List Ho)) (w : World) (h : HR w v c rows) : Calls Tryd.prog 15 #[.agg #[.int .i64 W, v]] w fun e w' => e = .returned (.int .i64 (lchk W rows)) ∧ Ext w w' := by
  obtain ⟨ao, n, rfl, hn, hc, hcm, hat⟩ := h.open
  unfold maxLen at hcm
  obtain ⟨W1, hW1⟩ : ∃ W1, W1 = w.alloc (.cells #[.int .i64 W, .slice ao n c] 24) := ⟨_, rfl⟩
  have xW : Ext w W1 := by rw [hW1]; exact (Ext.refl w).alloc _
  have hB := B2.new w (.int .i64 W) (.slice ao n c) 24
  rw [← hW1] at hB
  have hbig := fun (h : 31 < n ∨ 16 < W) => lchk_big (W := W) (rows := rows) (by omega)
  have harg := fun (h : ¬ (31 < n ∨ 16 < W)) (h2 : W < 2 ∨ n % 2 = 0) => lchk_arg (W := W) (rows := rows) (by omega) (by omega)
  have hrow := fun (h : ¬ (31 < n ∨ 16 < W)) k (hk : k < n) => lchk_row (W := W) (rows := rows) (by omega) (k := k) (by omega)
  have hok := fun (h : ¬ (31 < n ∨ 16 < W)) (h2 : ¬ (W < 2 ∨ n % 2 = 0)) (h3 : ∀ k, k < n → rowE W (ow rows k) 0 = true) => lchk_ok (W := W) (rows := rows) (by omega) (by omega) (fun k hk => h3 k (by omega))
  obtain ⟨S, hS⟩ : ∃ S, S = lchk W rows := ⟨_, rfl⟩
  rw [← hS] at hbig harg hrow hok ⊢
  have HA := Lib.hid hat; have HBig := Lib.hid hbig; have HArg := Lib.hid harg; have HRow := Lib.hid hrow; have HOk := Lib.hid hok; have HB := Lib.hid hB; have XW := Lib.hid xW; have HW1 := Lib.hid hW1
  have e0 := hB.c0; have e1 := hB.c1
  rw [hW1] at e0 e1
  clear hat h hn hS hbig harg hrow hok hB xW hW1
  have w2 : IntKind.i64.wrap ((n : Int) % 2) = (n : Int) % 2 := IntWalk.i64_in _ ⟨by omega, by omega⟩
  go_enter Tryd.func15, Tryd.ntmps15
  by_cases hb1 : 31 < n
  · have t0 : (31 : Int) < n := by omega
    have hS := HBig.out (.inl hb1)
    subst hS
    clear hb1
    go_wp2
    go_ret
    exact ⟨rfl, (Ext.refl w).alloc _⟩
  have t0 : ¬ (31 : Int) < n := by omega
  by_cases hb2 : 16 < W
  · have hS := HBig.out (.inr hb2)
    subst hS
    go_wp2
    go_ret
    exact ⟨rfl, (Ext.refl w).alloc _⟩
  have hnb : ¬ (31 < n ∨ 16 < W) := by omega
  have HNb := Lib.hid hnb
  clear hnb HBig
  by_cases ha1 : W < 2
  · have hS := HArg.out HNb.out (.inl ha1)
    subst hS
    go_wp2
    go_ret
    exact ⟨rfl, (Ext.refl w).alloc _⟩
  by_cases ha2 : n % 2 = 0
  · have hS := HArg.out HNb.out (.inr ha2)
    have t2 : (((n : Int) % 2) == 0) = true := by rw [beq_iff_eq]; omega
    subst hS
    clear ha2
    go_wp2
    go_ret
    exact ⟨rfl, (Ext.refl w).alloc _⟩
  have hna : ¬ (W < 2 ∨ n % 2 = 0) := by omega
  have HNa := Lib.hid hna
  have t2 : (((n : Int) % 2) == 0) = false := beq_eq_false_iff_ne.2 (by omega)
  clear ha2 hna HArg
  go_wp2
  rw [← HW1.out]
  clear e0 e1 w2 t2
  go_loopw [4, 5, 7, 8, 9, 32] (fun _ _ _ _ _ i wr => ∃ k : Nat, k ≤ n ∧ i = .int .i64 k ∧ Hid (Ext W1 wr) ∧ Hid (∀ j, j < k → rowE W (ow rows j) 0 = true)) (fun _ _ _ _ _ i _ => n - (intOf i).toNat)
  case atStart => exact ⟨0, Nat.zero_le _, rfl, Lib.hid (Ext.refl _), Lib.hid (fun j hj => by omega)⟩
  case round =>
    obtain ⟨k, hk, rfl, HX, HG⟩ := hrel
    by_cases hlt : k < n
    · obtain ⟨b, o, a, m, d, rfl, y1, y2⟩ := HA.out k hlt
      replace y1 := (XW.out.trans HX.out).cell y1
      have t1 : (k : Int) < n := by omega
      obtain ⟨_, _, f1, f2, f3, f4, f5⟩ := y2.open
      simp only [Value.slice.injEq] at f1
      obtain ⟨rfl, rfl, _⟩ := f1
      unfold maxLen at f4
      obtain ⟨l, hl⟩ : ∃ l, l = ow rows k := ⟨_, rfl⟩
      rw [← hl] at f2 f5
      have hgoal := HRow.out HNb.out k hlt
      rw [← hl] at hgoal
      have Hl := Lib.hid hl; have Hm := Lib.hid f2; have HH := Lib.hid f5; have HGoal := Lib.hid hgoal
      clear y2 f2 f5 hl hgoal
      go_wp2
      clear y1
      go_loopw [5, 7, 8, 9, 38] (fun f _ _ _ i wr => ∃ (j : Nat) (fr : Int), j ≤ m ∧ i = .int .i64 j ∧ f = .int .i64 fr ∧ (0 ≤ fr ∧ fr ≤ 20) ∧ Hid (Ext W1 wr) ∧ Hid (rowE W l 0 = rowE W (l.drop j) fr)) (fun _ _ _ _ i _ => m - (intOf i).toNat)
      case atStart => exact ⟨0, 0, Nat.zero_le _, rfl, rfl, by omega, HX, Lib.hid rfl⟩
      case round =>
        obtain ⟨j, fr, hj, rfl, rfl, hfr, HX2, HG2⟩ := hrel
        obtain ⟨hfr1, hfr2⟩ := hfr
        by_cases hjm : j < m
        · obtain ⟨b2, o2, rfl, z⟩ := HH.out j hjm
          obtain ⟨z1, z2⟩ := z.ext (XW.out.trans HX2.out)
          have t3 : (j : Int) < m := by omega
          have hbad := fun h => (HG2.out.trans (rowE_bad (W := W) (f := fr) (r := l) (k := j) (by rw [← Hm.out]; exact hjm) h))
          have hnext := fun h => (HG2.out.trans (rowE_next (W := W) (f := fr) (r := l) (k := j) (by rw [← Hm.out]; exact hjm) h))
          rcases hh : oi l j with ⟨p, q⟩
          rw [hh] at z1 z2 hbad hnext
          simp only at z1 z2
          obtain ⟨w6, hw6⟩ : ∃ w6, w6 = wr.alloc (.cells #[.int .i64 p, .bool q] 39) := ⟨_, rfl⟩
          have x6 : Ext wr w6 := by rw [hw6]; exact (Ext.refl wr).alloc _
          have hB6 := B2.new wr (.int .i64 p) (.bool q) 39
          rw [← hw6] at hB6
          have q0_1 := hB6.c0; have q0_2 := hB6.c1
          have HW6 := Lib.hid hw6; have X6 := Lib.hid (HX2.out.trans x6)
          have q0_3 := (HB.out.ext X6.out).c0
          have HBad := Lib.hid hbad; have HNext := Lib.hid hnext
          rw [hw6] at q0_1 q0_2 q0_3
          clear hbad hnext hw6 x6 hB6 z
          by_cases c1 : p < 0
          · have hS := HGoal.out (HBad.out (fun h => by have := h.1; simp only at this; omega))
            subst hS
            go_wp2
            go_ret
            rw [← HW6.out]; exact ⟨rfl, XW.out.trans X6.out⟩
          by_cases c2 : W ≤ p
          · have hS := HGoal.out (HBad.out (fun h => by have := h.2.1; simp only at this; omega))
            subst hS
            go_wp2
            go_ret
            rw [← HW6.out]; exact ⟨rfl, XW.out.trans X6.out⟩
          have htw := (⟨p, q⟩ : Ho).two_lst
          have hTC := fun w' => two_calls ⟨p, q⟩ w' ⟨by simp only; omega, by simp only; omega⟩
          have hokf : (⟨p, q⟩ : Ho).ok W fr ↔ (fr ≤ (⟨p, q⟩ : Ho).fst ∧ (⟨p, q⟩ : Ho).lst < W) := ⟨fun h => h.2.2, fun h => ⟨by simp only; omega, by simp only; omega, h⟩⟩
          have hlst : (⟨p, q⟩ : Ho).lst = (⟨p, q⟩ : Ho).fst + 1 := rfl
          unfold Ho.val at hTC
          simp only at htw hTC
          obtain ⟨T, hT⟩ : ∃ T, T = (⟨p, q⟩ : Ho).two := ⟨_, rfl⟩
          obtain ⟨F, hF⟩ : ∃ F, F = (⟨p, q⟩ : Ho).fst := ⟨_, rfl⟩
          obtain ⟨L, hL⟩ : ∃ L, L = (⟨p, q⟩ : Ho).lst := ⟨_, rfl⟩
          rw [← hT] at htw hTC
          rw [← hF] at htw hokf hlst
          rw [← hL] at hokf hlst
          have hmn : min p T = F ∧ max p T = L := by
            rcases Bool.eq_false_or_eq_true q with e | e
            · have := htw.1 e; omega
            · have := htw.2 e; omega
          obtain ⟨hmn, hmx⟩ := hmn
          rw [← hL] at HNext
          have w4 : IntKind.i64.wrap (L + 1) = L + 1 := IntWalk.i64_in _ ⟨by omega, by omega⟩
          have HTC := Lib.hid hTC; have HOF := Lib.hid hokf
          clear hTC hokf hT hF hL hh
          have key : (T = F ∧ p = L) ∨ (p = F ∧ T = L) := by
            rcases Bool.eq_false_or_eq_true q with e | e
            · have := htw.1 e; omega
            · have := htw.2 e; omega
          have w5 : 0 ≤ L + 1 ∧ L ≤ 17 := by
            rcases Bool.eq_false_or_eq_true q with e | e
            · have := htw.1 e; omega
            · have := htw.2 e; omega
          have HLst := Lib.hid hlst
          clear htw hmn hmx hlst
          rcases key with ⟨rfl, rfl⟩ | ⟨rfl, rfl⟩
          · have d1 : T < p := by have := HLst.out; omega
            have d2 : ¬ p < T := by have := HLst.out; omega
            by_cases c3 : T < fr
            · have hS := HGoal.out (HBad.out (fun h => by have := HOF.out.1 h; omega))
              subst hS
              go_wp2
              rw [← HW6.out]
              rw [← HW6.out] at q0_1 q0_2 q0_3
              go_region_held3 (fun w' => w'.cell? ⟨wr.heap.size, 0, Option.none⟩ = some (.int .i64 p) ∧ w'.cell? ⟨wr.heap.size, 1, Option.none⟩ = some (.bool q) ∧ w'.cell? ⟨w.heap.size, 0, Option.none⟩ = some (.int .i64 W)) (first | (with_reducible exact ⟨q0_1, q0_2, q0_3⟩) | (with_reducible exact ⟨q1_1, q1_2, q1_3⟩) | go_keep) (first
                | (go_at_call 34; (refine (HTC.out _).mono ?_); intro e wa hh; obtain ⟨rfl, x⟩ := hh; have Xa_n : Hid (Ext w6 wa) := (by first | exact Lib.hid x | (refine Lib.hid (Ext.trans ?_ x); (repeat (first | (with_reducible exact Ext.refl _) | (with_reducible apply Ext.drew) | (with_reducible apply Ext.drewN) | (with_reducible apply Ext.alloc))); done) | exact Lib.hid (Xa.out.trans x) | (refine Lib.hid (Ext.trans (Ext.trans Xa.out ?_) x); (repeat (first | (with_reducible exact Ext.refl _) | (with_reducible apply Ext.drew) | (with_reducible apply Ext.drewN) | (with_reducible apply Ext.alloc))); done)); have Xa := Xa_n; clear Xa_n; have q1_1 := Xa.out.cell q0_1; have q1_2 := Xa.out.cell q0_2; have q1_3 := Xa.out.cell q0_3; clear x))
              try go_wp2
              all_goals (first | (exfalso; omega) | (go_ret; exact ⟨rfl, XW.out.trans (X6.out.trans Xa.out)⟩))
            have HG3 := Lib.hid (HNext.out (HOF.out.2 ⟨by omega, by omega⟩))
            go_wp2
            rw [← HW6.out]
            rw [← HW6.out] at q0_1 q0_2 q0_3
            go_region_held3 (fun w' => w'.cell? ⟨wr.heap.size, 0, Option.none⟩ = some (.int .i64 p) ∧ w'.cell? ⟨wr.heap.size, 1, Option.none⟩ = some (.bool q) ∧ w'.cell? ⟨w.heap.size, 0, Option.none⟩ = some (.int .i64 W)) (first | (with_reducible exact ⟨q0_1, q0_2, q0_3⟩) | (with_reducible exact ⟨q1_1, q1_2, q1_3⟩) | go_keep) (first
              | (go_at_call 34; (refine (HTC.out _).mono ?_); intro e wa hh; obtain ⟨rfl, x⟩ := hh; have Xa_n : Hid (Ext w6 wa) := (by first | exact Lib.hid x | (refine Lib.hid (Ext.trans ?_ x); (repeat (first | (with_reducible exact Ext.refl _) | (with_reducible apply Ext.drew) | (with_reducible apply Ext.drewN) | (with_reducible apply Ext.alloc))); done) | exact Lib.hid (Xa.out.trans x) | (refine Lib.hid (Ext.trans (Ext.trans Xa.out ?_) x); (repeat (first | (with_reducible exact Ext.refl _) | (with_reducible apply Ext.drew) | (with_reducible apply Ext.drewN) | (with_reducible apply Ext.alloc))); done)); have Xa := Xa_n; clear Xa_n; have q1_1 := Xa.out.cell q0_1; have q1_2 := Xa.out.cell q0_2; have q1_3 := Xa.out.cell q0_3; clear x))
            try go_wp2
            all_goals (first | (exfalso; omega) | (go_roundw; (case rel => exact ⟨j + 1, p + 1, by omega, by go_num, rfl, by have := HLst.out; omega, Lib.hid (X6.out.trans Xa.out), HG3⟩); (case measure => (simp [intOf]; omega))))
          · have d1 : p < T := by have := HLst.out; omega
            have d2 : ¬ T < p := by have := HLst.out; omega
            by_cases c3 : p < fr
            · have hS := HGoal.out (HBad.out (fun h => by have := HOF.out.1 h; omega))
              subst hS
              go_wp2
              rw [← HW6.out]
              rw [← HW6.out] at q0_1 q0_2 q0_3
              go_region_held3 (fun w' => w'.cell? ⟨wr.heap.size, 0, Option.none⟩ = some (.int .i64 p) ∧ w'.cell? ⟨wr.heap.size, 1, Option.none⟩ = some (.bool q) ∧ w'.cell? ⟨w.heap.size, 0, Option.none⟩ = some (.int .i64 W)) (first | (with_reducible exact ⟨q0_1, q0_2, q0_3⟩) | (with_reducible exact ⟨q1_1, q1_2, q1_3⟩) | go_keep) (first
                | (go_at_call 34; (refine (HTC.out _).mono ?_); intro e wa hh; obtain ⟨rfl, x⟩ := hh; have Xa_n : Hid (Ext w6 wa) := (by first | exact Lib.hid x | (refine Lib.hid (Ext.trans ?_ x); (repeat (first | (with_reducible exact Ext.refl _) | (with_reducible apply Ext.drew) | (with_reducible apply Ext.drewN) | (with_reducible apply Ext.alloc))); done) | exact Lib.hid (Xa.out.trans x) | (refine Lib.hid (Ext.trans (Ext.trans Xa.out ?_) x); (repeat (first | (with_reducible exact Ext.refl _) | (with_reducible apply Ext.drew) | (with_reducible apply Ext.drewN) | (with_reducible apply Ext.alloc))); done)); have Xa := Xa_n; clear Xa_n; have q1_1 := Xa.out.cell q0_1; have q1_2 := Xa.out.cell q0_2; have q1_3 := Xa.out.cell q0_3; clear x))
              try go_wp2
              all_goals (first | (exfalso; omega) | (go_ret; exact ⟨rfl, XW.out.trans (X6.out.trans Xa.out)⟩))
            by_cases c4 : W ≤ T
            · have hS := HGoal.out (HBad.out (fun h => by have := HOF.out.1 h; omega))
              subst hS
              go_wp2
              rw [← HW6.out]
              rw [← HW6.out] at q0_1 q0_2 q0_3
              go_region_held3 (fun w' => w'.cell? ⟨wr.heap.size, 0, Option.none⟩ = some (.int .i64 p) ∧ w'.cell? ⟨wr.heap.size, 1, Option.none⟩ = some (.bool q) ∧ w'.cell? ⟨w.heap.size, 0, Option.none⟩ = some (.int .i64 W)) (first | (with_reducible exact ⟨q0_1, q0_2, q0_3⟩) | (with_reducible exact ⟨q1_1, q1_2, q1_3⟩) | go_keep) (first
                | (go_at_call 34; (refine (HTC.out _).mono ?_); intro e wa hh; obtain ⟨rfl, x⟩ := hh; have Xa_n : Hid (Ext w6 wa) := (by first | exact Lib.hid x | (refine Lib.hid (Ext.trans ?_ x); (repeat (first | (with_reducible exact Ext.refl _) | (with_reducible apply Ext.drew) | (with_reducible apply Ext.drewN) | (with_reducible apply Ext.alloc))); done) | exact Lib.hid (Xa.out.trans x) | (refine Lib.hid (Ext.trans (Ext.trans Xa.out ?_) x); (repeat (first | (with_reducible exact Ext.refl _) | (with_reducible apply Ext.drew) | (with_reducible apply Ext.drewN) | (with_reducible apply Ext.alloc))); done)); have Xa := Xa_n; clear Xa_n; have q1_1 := Xa.out.cell q0_1; have q1_2 := Xa.out.cell q0_2; have q1_3 := Xa.out.cell q0_3; clear x))
              try go_wp2
              all_goals (first | (exfalso; omega) | (go_ret; exact ⟨rfl, XW.out.trans (X6.out.trans Xa.out)⟩))
            have HG3 := Lib.hid (HNext.out (HOF.out.2 ⟨by omega, by omega⟩))
            go_wp2
            rw [← HW6.out]
            rw [← HW6.out] at q0_1 q0_2 q0_3
            go_region_held3 (fun w' => w'.cell? ⟨wr.heap.size, 0, Option.none⟩ = some (.int .i64 p) ∧ w'.cell? ⟨wr.heap.size, 1, Option.none⟩ = some (.bool q) ∧ w'.cell? ⟨w.heap.size, 0, Option.none⟩ = some (.int .i64 W)) (first | (with_reducible exact ⟨q0_1, q0_2, q0_3⟩) | (with_reducible exact ⟨q1_1, q1_2, q1_3⟩) | go_keep) (first
              | (go_at_call 34; (refine (HTC.out _).mono ?_); intro e wa hh; obtain ⟨rfl, x⟩ := hh; have Xa_n : Hid (Ext w6 wa) := (by first | exact Lib.hid x | (refine Lib.hid (Ext.trans ?_ x); (repeat (first | (with_reducible exact Ext.refl _) | (with_reducible apply Ext.drew) | (with_reducible apply Ext.drewN) | (with_reducible apply Ext.alloc))); done) | exact Lib.hid (Xa.out.trans x) | (refine Lib.hid (Ext.trans (Ext.trans Xa.out ?_) x); (repeat (first | (with_reducible exact Ext.refl _) | (with_reducible apply Ext.drew) | (with_reducible apply Ext.drewN) | (with_reducible apply Ext.alloc))); done)); have Xa := Xa_n; clear Xa_n; have q1_1 := Xa.out.cell q0_1; have q1_2 := Xa.out.cell q0_2; have q1_3 := Xa.out.cell q0_3; clear x))
            try go_wp2
            all_goals (first | (exfalso; omega) | (go_roundw; (case rel => exact ⟨j + 1, T + 1, by omega, by go_num, rfl, by have := HLst.out; omega, Lib.hid (X6.out.trans Xa.out), HG3⟩); (case measure => (simp [intOf]; omega))))
        · obtain rfl : j = m := by omega
          have t3 : ¬ (j : Int) < j := by omega
          have hg := HG2.out
          rw [rowE_end (by rw [← Hm.out]; exact Nat.le_refl _)] at hg
          have HGk := Lib.hid (show ∀ i, i < k + 1 → rowE W (ow rows i) 0 = true from fun i hi => by
            by_cases e : i = k
            · rw [e, ← Hl.out]; exact hg
            · exact HG.out i (by omega))
          clear hg hjm
          go_wp2
          go_roundw
          case rel => exact ⟨k + 1, by omega, by go_num, HX2, HGk⟩
          case measure => simp [intOf]; omega
    · obtain rfl : k = n := by omega
      have hS := HOk.out HNb.out HNa.out HG.out
      subst hS
      have t1 : ¬ (k : Int) < k := by omega
      clear hlt
      go_wp2
      go_ret
      exact ⟨rfl, XW.out.trans HX.out⟩
end Go.Proofs.YthllbcjglcplhaaDoor
/- Stitches compared. -/
namespace Go.Proofs.YthllbcjglcplhaaDoor
set_option linter.unusedVariables false
set_option linter.unusedSimpArgs false
set_option maxRecDepth 8000
open Go Go.RowKit

def St.eqb (s t : St) : Bool := decide (s = t)
theorem St.eqb_fields (s t : St) : St.eqb s t = (s.k == t.k && (s.y == t.y && (s.a == t.a && (s.b == t.b && s.f == t.f)))) := by
  unfold St.eqb
  rw [Bool.eq_iff_iff]
  cases s; cases t
  simp
theorem run_st_equal (s t : St) (w : World) : (Op.equalIn 10000 49 s.val t.val).run Tryd.prog w = .ok (St.eqb s t) w := by
  rw [St.eqb_fields]
  unfold St.val
  rw [run_equalIn_struct w 9999 _ _ _ (by kernel_rfl) (by kernel_rfl)]
  simp [go_sem, part]
  (repeat' split) <;> simp_all
theorem run_st_eql (s t : St) (w : World) : (binOp .eql 49 (.agg #[.int .u8 s.k, .int .u8 s.y, .int .i64 s.a, .int .i64 s.b, .bool s.f]) (.agg #[.int .u8 t.k, .int .u8 t.y, .int .i64 t.a, .int .i64 t.b, .bool t.f])).run Tryd.prog w = .ok (.bool (St.eqb s t)) w := by
  have h := run_st_equal s t w
  unfold St.val at h
  rw [run_eql_struct, h]
  rfl
theorem run_st_neq (s t : St) (w : World) : (binOp .neq 49 (.agg #[.int .u8 s.k, .int .u8 s.y, .int .i64 s.a, .int .i64 s.b, .bool s.f]) (.agg #[.int .u8 t.k, .int .u8 t.y, .int .i64 t.a, .int .i64 t.b, .bool t.f])).run Tryd.prog w = .ok (.bool (!St.eqb s t)) w := by
  have h := run_st_equal s t w
  unfold St.val at h
  rw [run_neq_struct, h]
  rfl

theorem Same1_calls (s t : St) (w : World) : Calls Tryd.prog 68 #[s.val, t.val] w fun e w' => e = .returned (.bool (St.eqb s t)) ∧ Ext w w' := by
  obtain ⟨k1, y1, a1, b1, f1⟩ := s
  obtain ⟨k2, y2, a2, b2, f2⟩ := t
  have hq := fun w => run_st_eql ⟨k1, y1, a1, b1, f1⟩ ⟨k2, y2, a2, b2, f2⟩ w
  generalize St.eqb ⟨k1, y1, a1, b1, f1⟩ ⟨k2, y2, a2, b2, f2⟩ = q at hq ⊢
  dsimp only at hq
  unfold St.val
  have HA := Lib.hid (fun w => B5.new w ⟨k1, y1, a1, b1, f1⟩ 49)
  have HB := Lib.hid (fun w => B5.new w ⟨k2, y2, a2, b2, f2⟩ 49)
  go_enter Tryd.func68, Tryd.ntmps68
  go_wp2
  go_ret
  exact ⟨rfl, ((Ext.refl w).alloc _).alloc _⟩
end Go.Proofs.YthllbcjglcplhaaDoor
/- ganseyref20.Differ. -/
namespace Go.Proofs.YthllbcjglcplhaaDoor
set_option linter.unusedVariables false
set_option linter.unusedSimpArgs false
set_option maxRecDepth 8000
open Go Go.RowKit

def Ho.eqb (s t : Ho) : Bool := decide (s = t)
theorem hoeqb_true {s t : Ho} (h : Ho.eqb s t = true) : s = t := of_decide_eq_true h
theorem hoeqb_false {s t : Ho} (h : Ho.eqb s t = false) : s ≠ t := of_decide_eq_false h
theorem Ho.eqb_fields (s t : Ho) : Ho.eqb s t = (s.p == t.p && s.l == t.l) := by
  unfold Ho.eqb
  rw [Bool.eq_iff_iff]
  cases s; cases t
  simp
theorem run_ho_equal (s t : Ho) (w : World) : (Op.equalIn 10000 39 s.val t.val).run Tryd.prog w = .ok (Ho.eqb s t) w := by
  rw [Ho.eqb_fields]
  unfold Ho.val
  rw [run_equalIn_struct w 9999 _ _ _ (by kernel_rfl) (by kernel_rfl)]
  simp [go_sem, part]
  (repeat' split) <;> simp_all
theorem run_ho_neq (s t : Ho) (w : World) : (binOp .neq 39 (.agg #[.int .i64 s.p, .bool s.l]) (.agg #[.int .i64 t.p, .bool t.l])).run Tryd.prog w = .ok (.bool (!Ho.eqb s t)) w := by
  have h := run_ho_equal s t w
  unfold Ho.val at h
  rw [run_neq_struct, h]
  rfl
def hdif (W1 W2 : Int) (l m : List (List Ho)) : Int := if W1 = W2 ∧ l = m then 0 else 1
theorem hdif_same (W : Int) (l : List (List Ho)) : hdif W W l l = 0 := if_pos ⟨rfl, rfl⟩
set_option maxHeartbeats 4000000 in
theorem HDiffer_calls (W1 W2 : Int) (v1 v2 : Value) (c1 c2 : Nat) (l m : List (List Ho)) (w : World) (h1 : HR w v1 c1 l) (h2 : HR w v2 c2 m) :
    Calls Tryd.prog 21 #[.agg #[.int .i64 W1, v1], .agg #[.int .i64 W2, v2]] w fun e w' => e = .returned (.int .i64 (hdif W1 W2 l m)) ∧ Ext w w' := by
  obtain ⟨ao, n, rfl, hn, hc, hcm, hat⟩ := h1.open
  obtain ⟨ao2, n2, rfl, hn2, hc2, hcm2, hat2⟩ := h2.open
  have hT : W1 = W2 → n = n2 → (∀ i, i < n → ow l i = ow m i) → hdif W1 W2 l m = 0 := fun e0 e h => if_pos ⟨e0, ow_ext (by omega) (fun i hi => h i (by omega))⟩
  have hF : (W1 ≠ W2 ∨ n ≠ n2 ∨ ∃ i, i < n ∧ ow l i ≠ ow m i) → hdif W1 W2 l m = 1 := fun h => if_neg (fun ⟨e0, e⟩ => by
    rcases h with h | h | ⟨i, _, h⟩
    · exact h e0
    · rw [e] at hn; omega
    · rw [e] at h; exact h rfl)
  generalize hdif W1 W2 l m = R at hT hF ⊢
  obtain ⟨W, hW⟩ : ∃ W, W = (w.alloc (.cells #[.int .i64 W1, .slice ao n c1] 24)).alloc (.cells #[.int .i64 W2, .slice ao2 n2 c2] 24) := ⟨_, rfl⟩
  have xW : Ext w W := by rw [hW]; exact ((Ext.refl w).alloc _).alloc _
  have hB1 : B2 W w.heap.size (.int .i64 W1) (.slice ao n c1) 24 := by rw [hW]; exact (B2.new w _ _ _).alloc _
  have hB2 : B2 W (w.heap.size + 1) (.int .i64 W2) (.slice ao2 n2 c2) 24 := by
    rw [hW]; have := B2.new (w.alloc (.cells #[.int .i64 W1, .slice ao n c1] 24)) (.int .i64 W2) (.slice ao2 n2 c2) 24
    rwa [show (w.alloc (.cells #[.int .i64 W1, .slice ao n c1] 24)).heap.size = w.heap.size + 1 by simp] at this
  have hb1 := hB1.c1
  have hb2 := hB2.c1
  have hb3 := hB1.c0
  have hb4 := hB2.c0
  clear hB1 hB2
  have HA := Lib.hid hat; have HA2 := Lib.hid hat2; have HT := Lib.hid hT; have HF := Lib.hid hF; have XW := Lib.hid xW
  clear hat hat2 hT hF hn hn2 h1 h2
  unfold maxLen at hcm hcm2
  have HB1 := Lib.hid (fun w' (x : Ext W w') => x.cell hb1); have HB2 := Lib.hid (fun w' (x : Ext W w') => x.cell hb2)
  go_enter Tryd.func21, Tryd.ntmps21
  by_cases hw : W1 = W2
  case neg =>
    have hR := HF.out (.inl hw)
    subst hR
    have t1 : (W1 != W2) = true := by rw [bne, beq_eq_false_iff_ne.2 hw]; rfl
    rw [hW] at hb1 hb2 hb3 hb4
    go_wp2
    go_ret
    exact ⟨rfl, by rw [← hW]; exact XW.out⟩
  subst hw
  by_cases hl : n = n2
  · subst hl
    rw [hW] at hb1 hb2 hb3 hb4
    go_wp2
    rw [← hW]
    clear hb1 hb2 hb3 hb4 hW
    go_loopw [5, 6] (fun i _ wr => ∃ k : Nat, k ≤ n ∧ i = .int .i64 k ∧ Hid (Ext W wr) ∧ Hid (∀ i, i < k → ow l i = ow m i)) (fun i _ _ => n - (intOf i).toNat)
    case atStart => exact ⟨0, Nat.zero_le _, rfl, Lib.hid (Ext.refl _), Lib.hid (fun i hi => by omega)⟩
    case round =>
      obtain ⟨k, hk, rfl, Hx, HS⟩ := hrel
      have b1 := HB1.out _ Hx.out
      have b2 := HB2.out _ Hx.out
      by_cases hlt : k < n
      · obtain ⟨b, o, a, p, d, rfl, p0, r1⟩ := HA.out k hlt
        obtain ⟨bb, oo, aa, pp, dd, rfl, q0, r2⟩ := HA2.out k hlt
        have P0 := Lib.hid (fun w' (x : Ext W w') => (XW.out.trans x).cell p0); have Q0 := Lib.hid (fun w' (x : Ext W w') => (XW.out.trans x).cell q0)
        replace p0 := (XW.out.trans Hx.out).cell p0
        replace q0 := (XW.out.trans Hx.out).cell q0
        obtain ⟨_, _, e1, e2, e3, e4, e5⟩ := r1.open
        obtain ⟨_, _, f1, f2, f3, f4, f5⟩ := r2.open
        simp only [Value.slice.injEq] at e1 f1
        obtain ⟨rfl, rfl, _⟩ := e1
        obtain ⟨rfl, rfl, _⟩ := f1
        have HE5 := Lib.hid e5; have HF5 := Lib.hid f5
        have t7 : (0 : Int) ≤ (k : Int) := by omega
        have t8 : (k : Int) < n := by omega
        unfold maxLen at e4 f4
        by_cases hpp : p = pp
        · have tq : ((p : Int) != (pp : Int)) = false := by rw [hpp]; simp
          have HR1 := Lib.hid (show (∀ i, i < p → oi (ow l k) i = oi (ow m k) i) → ∀ i, i < k + 1 → ow l i = ow m i from fun h i hi => by
            by_cases e : i = k
            · rw [e]; exact oi_ext (by omega) (fun i hi => h i (by omega))
            · exact HS.out i (by omega))
          have HR2 := Lib.hid (show ∀ i, i < p → oi (ow l k) i ≠ oi (ow m k) i → R = 1 from fun i hi h => HF.out (.inr (.inr ⟨k, hlt, fun e => h (by rw [e])⟩)))
          subst hpp
          clear e2 f2 e5 f5 r1 r2
          go_wp2
          go_quiet (fail)
          obtain ⟨wk, hwk⟩ : ∃ wk, wk = wr.drewN nq := ⟨_, rfl⟩
          have Hk := Lib.hid (show Ext W wk by rw [hwk]; exact Hx.out.drewN nq)
          rw [← hwk]
          clear b1 b2 p0 q0 hwk
          go_wp2
          go_loopw [6] (fun i ws => ∃ j : Nat, j ≤ p ∧ i = .int .i64 j ∧ Hid (Ext wk ws) ∧ Hid (∀ i, i < j → oi (ow l k) i = oi (ow m k) i)) (fun i _ => p - (intOf i).toNat)
          case atStart => exact ⟨0, Nat.zero_le _, rfl, Lib.hid (Ext.refl _), Lib.hid (fun i hi => by omega)⟩
          case round =>
            obtain ⟨j, hj, rfl, Hy, HU⟩ := hrel
            have b1 := HB1.out _ (Hk.out.trans Hy.out)
            have b2 := HB2.out _ (Hk.out.trans Hy.out)
            have p0 := P0.out _ (Hk.out.trans Hy.out)
            have q0 := Q0.out _ (Hk.out.trans Hy.out)
            by_cases hjl : j < p
            · obtain ⟨e6, e7, rfl, e8⟩ := HE5.out j hjl
              obtain ⟨f6, f7, rfl, f8⟩ := HF5.out j hjl
              obtain ⟨s0, s1⟩ := e8.ext (XW.out.trans (Hk.out.trans Hy.out))
              obtain ⟨u0, u1⟩ := f8.ext (XW.out.trans (Hk.out.trans Hy.out))
              have hq := fun w => run_ho_neq (oi (ow l k) j) (oi (ow m k) j) w
              have hR1 : Ho.eqb (oi (ow l k) j) (oi (ow m k) j) = false → R = 1 := fun h => HR2.out j hjl (hoeqb_false h)
              have hR2 : Ho.eqb (oi (ow l k) j) (oi (ow m k) j) = true → ∀ i, i < j + 1 → oi (ow l k) i = oi (ow m k) i := fun h i hi => by
                by_cases e : i = j
                · rw [e]; exact hoeqb_true h
                · exact HU.out i (by omega)
              obtain ⟨S, hS⟩ : ∃ S, S = oi (ow l k) j := ⟨_, rfl⟩
              obtain ⟨T, hT⟩ : ∃ T, T = oi (ow m k) j := ⟨_, rfl⟩
              rw [← hS] at s0 s1 hq hR1 hR2
              rw [← hT] at u0 u1 hq hR1 hR2
              generalize Ho.eqb S T = q at hq hR1 hR2
              have H1 := Lib.hid hR1; have H2 := Lib.hid hR2
              have g1 : (0 : Int) ≤ (j : Int) := by omega
              have g2 : (j : Int) < p := by omega
              clear hR1 hR2 hS hT e8 f8
              go_wp2
              go_quiet (fail)
              clear hq s0 s1 u0 u1 p0 q0 b1 b2
              cases q
              · have hR := H1.out rfl
                subst hR
                clear H1 H2
                go_wp2
                go_ret
                exact ⟨rfl, XW.out.trans (Hk.out.trans (by first | exact Hy.out | exact Hy.out.drewN _))⟩
              · have HU2 := Lib.hid (H2.out rfl)
                clear H1 H2
                go_wp2
                go_roundw
                case rel => exact ⟨j + 1, by omega, by go_num, by first | exact Hy | exact Lib.hid (Hy.out.drewN _), HU2⟩
                case measure => simp [intOf]; omega
            · obtain rfl : p = j := by omega
              have HS2 := Lib.hid (HR1.out HU.out)
              go_wp2
              go_roundw
              case rel => exact ⟨k + 1, by omega, by go_num, Lib.hid (Hk.out.trans Hy.out), HS2⟩
              case measure => simp [intOf]; omega
        · have tq : ((p : Int) != (pp : Int)) = true := by rw [bne, beq_eq_false_iff_ne.2 (by omega)]; rfl
          have hR := HF.out (.inr (.inr ⟨k, hlt, fun e => hpp (by rw [e2, f2, e])⟩))
          subst hR
          clear e2 f2 e5 f5 r1 r2 hpp
          go_wp2
          go_quiet (fail)
          go_wp2
          go_ret
          exact ⟨rfl, XW.out.trans (by first | exact Hx.out | exact Hx.out.drewN _)⟩
      · obtain rfl : n = k := by omega
        have hR := HT.out trivial trivial HS.out
        subst hR
        go_wp2
        go_ret
        exact ⟨rfl, XW.out.trans Hx.out⟩
  · have hR := HF.out (.inr (.inl hl))
    subst hR
    have t1 : ¬ ((n : Int) = n2) := by omega
    rw [hW] at hb1 hb2 hb3 hb4
    go_wp2
    go_ret
    exact ⟨rfl, by rw [← hW]; exact XW.out⟩
end Go.Proofs.YthllbcjglcplhaaDoor
/- Mirror images of stitches and of charts. -/
namespace Go.Proofs.YthllbcjglcplhaaDoor
set_option linter.unusedVariables false
set_option linter.unusedSimpArgs false
set_option maxRecDepth 8000
open Go Go.RowKit

def St.mir (s : St) : St := if s.k = 8 then ⟨s.k, s.y, s.b, s.a, !s.f⟩ else s
theorem B5c {w : World} {b : Nat} {s : St} {t : TypeId} (h : B5 w b s t) : w.cell? ⟨b, 0, none⟩ = some (.int .u8 s.k) ∧ w.cell? ⟨b, 1, none⟩ = some (.int .u8 s.y) ∧ w.cell? ⟨b, 2, none⟩ = some (.int .i64 s.a) ∧ w.cell? ⟨b, 3, none⟩ = some (.int .i64 s.b) ∧ w.cell? ⟨b, 4, none⟩ = some (.bool s.f) := by
  obtain ⟨c0, c1, c2, c3, c4⟩ := h.at
  simp only [Nat.zero_add] at c1 c2 c3 c4
  exact ⟨c0, c1, c2, c3, c4⟩
set_option maxHeartbeats 1000000 in
theorem SMirror_calls (s : St) (w : World) : Calls Tryd.prog 50 #[s.val] w fun e w' => e = .returned s.mir.val ∧ Ext w w' := by
  obtain ⟨k, y, a, b, f⟩ := s
  by_cases hk : k = 8
  · have hm : St.mir ⟨k, y, a, b, f⟩ = ⟨8, y, b, a, !f⟩ := by unfold St.mir; rw [if_pos hk, hk]
    rw [hm]
    subst hk
    unfold St.val
    clear hm
    go_enter Tryd.func50, Tryd.ntmps50
    go_wp2
    exact bodyPost_ret (v := .agg #[.int .u8 8, .int .u8 y, .int .i64 b, .int .i64 a, .bool !f]) (by simp [results, Tryd.results50, go_sem]) rfl ⟨rfl, ((Ext.refl w).alloc _).alloc _⟩
  · have hm : St.mir ⟨k, y, a, b, f⟩ = ⟨k, y, a, b, f⟩ := by unfold St.mir; rw [if_neg hk]
    rw [hm]
    have hk' : (k == 8) = false := beq_eq_false_iff_ne.2 hk
    unfold St.val
    clear hm hk
    go_enter Tryd.func50, Tryd.ntmps50
    go_wp2
    exact bodyPost_ret (v := .agg #[.int .u8 k, .int .u8 y, .int .i64 a, .int .i64 b, .bool f]) (by simp [results, Tryd.results50, go_sem]) rfl ⟨rfl, ((Ext.refl w).alloc _).alloc _⟩

/-- The mirror image of a row. -/
def mirR (l : List St) : List St := (l.map St.mir).reverse
def mirC (rows : List (List St)) : List (List St) := rows.map mirR
theorem mirR_len (l : List St) : (mirR l).length = l.length := by simp [mirR]
theorem mirC_len (rows : List (List St)) : (mirC rows).length = rows.length := by simp [mirC]
theorem mirC_sw {rows : List (List St)} {i : Nat} (h : i < rows.length) : sw (mirC rows) i = mirR (sw rows i) := by
  rw [sw_of_lt (by rw [mirC_len]; exact h), sw_of_lt h]; simp [mirC]
theorem mirR_si {l : List St} {i : Nat} (h : i < l.length) : si (mirR l) (l.length - 1 - i) = (si l i).mir := by
  rw [si_of_lt (by rw [mirR_len]; omega), si_of_lt h]
  unfold mirR
  rw [List.getElem_reverse]
  simp only [List.getElem_map, List.length_map]
  congr 2; omega
/-- The last j stitches of the image are laid. -/
def mrU (l : List St) (j : Nat) : List St := List.replicate (l.length - j) St.none ++ (mirR l).drop (l.length - j)
theorem mrU_len (l : List St) {j : Nat} (h : j ≤ l.length) : (mrU l j).length = l.length := by unfold mrU; simp [mirR_len]; try omega
theorem mrU_zero (l : List St) : mrU l 0 = List.replicate l.length St.none := by
  unfold mrU; rw [List.drop_eq_nil_of_le (by rw [mirR_len]; omega)]; simp
theorem mrU_all (l : List St) : mrU l l.length = mirR l := by unfold mrU; simp
theorem mrU_set {l : List St} {j : Nat} (h : j < l.length) : (mrU l j).set (l.length - 1 - j) (si l j).mir = mrU l (j + 1) := by
  unfold mrU
  have hl := mirR_len l
  have e : l.length - j = (l.length - (j + 1)) + 1 := by omega
  have hd : (mirR l).drop (l.length - (j + 1)) = (si l j).mir :: (mirR l).drop (l.length - j) := by
    rw [List.drop_eq_getElem_cons (by omega), ← si_of_lt (by omega), show l.length - (j + 1) = l.length - 1 - j by omega, mirR_si h, show l.length - 1 - j + 1 = l.length - j by omega]
  rw [hd]
  rw [List.set_append_left _ _ (by simp; omega), e, List.replicate_succ', List.set_append_right _ _ (by simp; omega)]
  have e2 : l.length - 1 - j - (List.replicate (l.length - (j + 1)) St.none).length = 0 := by simp; omega
  rw [e2]
  simp
end Go.Proofs.YthllbcjglcplhaaDoor
