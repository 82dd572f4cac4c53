/- Texts of this claim in one file: libraries and walks. -/
import Derived.Test.YtlmkcojimhbmiaaL1
import Derived.Test.YtlmkcojimhbmiaaL2
import Derived.Test.YtlmkcojimhbmiaaL3
import Derived.Test.YtlmkcojimhbmiaaL4
/- Mirror images of charts, in plain Lean: the same errors. -/
namespace Go.Proofs.Ytlmkcojimhbmiaa
set_option linter.unusedVariables false
set_option linter.unusedSimpArgs false
set_option maxRecDepth 8000
open Go Go.RowKit

theorem mir_chk (s : St) : s.mir.chk = s.chk := by
  unfold St.mir
  split
  · rename_i h8
    unfold St.chk
    simp only [h8]
    by_cases h1 : (8 : Int) < 1 ∨ (8 : Int) < 8 ∨ s.y < 1 ∨ 6 < s.y
    · rw [if_pos h1, if_pos h1]
    · rw [if_neg h1, if_neg h1]
      simp only [ne_eq, not_true_eq_false, if_false]
      by_cases h2 : s.b < 1 ∨ 4 < s.b ∨ s.a < 1 ∨ 4 - s.b < s.a
      · rw [if_pos h2, if_pos (by omega)]
      · rw [if_neg h2, if_neg (by omega)]
  · rfl
theorem mir_k (s : St) : s.mir.k = s.k := by unfold St.mir; split <;> rfl
theorem mir_need (s : St) : s.mir.need = s.need := by
  unfold St.need
  rw [mir_chk, mir_k]
  unfold St.mir
  split
  · rfl
  · (repeat' split) <;> first | rfl | (simp only []; omega)
theorem mir_make (s : St) : s.mir.make = s.make := by
  unfold St.make
  rw [mir_chk, mir_k]
  unfold St.mir
  split
  · rfl
  · (repeat' split) <;> first | rfl | (simp only []; omega)
theorem mir_mir (s : St) : s.mir.mir = s := by
  obtain ⟨k, y, a, b, f⟩ := s
  unfold St.mir
  by_cases h : k = 8
  · simp [h]
  · simp [h]
theorem mirR_mirR (l : List St) : mirR (mirR l) = l := by
  unfold mirR
  rw [List.map_reverse, List.reverse_reverse, List.map_map]
  have : ∀ s ∈ l, (St.mir ∘ St.mir) s = id s := fun s _ => mir_mir s
  rw [List.map_congr_left this, List.map_id]
theorem mirC_mirC (l : List (List St)) : mirC (mirC l) = l := by
  unfold mirC
  rw [List.map_map]
  have : ∀ s ∈ l, (mirR ∘ mirR) s = id s := fun s _ => mirR_mirR s
  rw [List.map_congr_left this, List.map_id]
theorem mirR_cons (s : St) (l : List St) : mirR (s :: l) = mirR l ++ [s.mir] := by simp [mirR]
theorem rneed_app2 (a b : List St) : rneed (a ++ b) = rneed a + rneed b := by
  induction a with
  | nil => simp [rneed]
  | cons s a ih => rw [List.cons_append, rneed_cons, rneed_cons, ih]; omega
theorem rmake_app2 (a b : List St) : rmake (a ++ b) = rmake a + rmake b := by
  induction a with
  | nil => simp [rmake]
  | cons s a ih => rw [List.cons_append, rmake_cons, rmake_cons, ih]; omega
theorem mirR_need : ∀ l : List St, rneed (mirR l) = rneed l
  | [] => rfl
  | s :: l => by rw [mirR_cons, rneed_app2, mirR_need l, rneed_cons, rneed_cons, mir_need]; simp [rneed]; omega
theorem mirR_make : ∀ l : List St, rmake (mirR l) = rmake l
  | [] => rfl
  | s :: l => by rw [mirR_cons, rmake_app2, mirR_make l, rmake_cons, rmake_cons, mir_make]; simp [rmake]; omega
theorem mirR_any : ∀ l : List St, (mirR l).any (fun s => decide (s.chk ≠ 0)) = l.any (fun s => decide (s.chk ≠ 0)) := fun l => by
  unfold mirR
  rw [List.any_reverse, List.any_map]
  congr 1
  funext s
  simp only [Function.comp, mir_chk]
theorem mirR_rchk (l : List St) : rchk (mirR l) = rchk l := by
  unfold rchk
  rw [mirR_len, mirR_any, mirR_need, mirR_make]
theorem mirC_ferr : ∀ rows : List (List St), ferr (mirC rows) = ferr rows
  | [] => rfl
  | r :: rs => by
    have ih := mirC_ferr rs
    unfold mirC at ih ⊢
    rw [List.map_cons, ferr, ferr, mirR_rchk, ih]
theorem mirC_fit (rows : List (List St)) : fitB (mirC rows) = fitB rows := by
  rw [Bool.eq_iff_iff]
  unfold fitB
  rw [List.all_eq_true, List.all_eq_true, mirC_len]
  constructor
  · intro h i hi
    have hl := List.mem_range.1 hi
    have := h i hi
    rw [mirC_sw (by omega), mirC_sw (by omega), mirR_need, mirR_make] at this
    exact this
  · intro h i hi
    have hl := List.mem_range.1 hi
    have := h i hi
    rw [mirC_sw (by omega), mirC_sw (by omega), mirR_need, mirR_make]
    exact this
theorem mirC_cerr (rows : List (List St)) : cerr (mirC rows) = cerr rows := by
  unfold cerr
  rw [mirC_len, mirC_ferr, mirC_fit]

/-! ### Loops -/
def Vl (xs : List Int) : Prop := ∀ x ∈ xs, 1 ≤ x ∧ x ≤ 3
theorem Vl.gi {xs : List Int} (h : Vl xs) : ∀ i, i < xs.length → 1 ≤ gi xs i ∧ gi xs i ≤ 3 := fun i hi => h _ (gi_mem hi)
theorem lerr_vals {s : St} {xs : List Int} (hc : s.chk = 0) (hl : (xs.length : Int) = s.need) (hv : Vl xs) : s.lerr xs = 0 ∨ s.lerr xs = 9 := by
  rw [lerr_in hc hl hv.gi]
  (repeat' split) <;> simp
theorem need45 {s : St} (hc : s.chk = 0) (h : s.k = 4 ∨ s.k = 5) : s.need = 2 := by unfold St.need; rw [if_neg (by omega), if_neg (by omega), if_pos h]
theorem need67 {s : St} (hc : s.chk = 0) (h : s.k = 6 ∨ s.k = 7) : s.need = 1 := by unfold St.need; rw [if_neg (by omega), if_neg (by omega), if_neg (by omega), if_neg (by omega)]
theorem two_of {xs : List Int} (h : xs.length = 2) : ∃ x y, xs = [x, y] := by
  match xs, h with
  | [x, y], _ => exact ⟨x, y, rfl⟩
theorem one_of {xs : List Int} (h : xs.length = 1) : ∃ x, xs = [x] := by
  match xs, h with
  | [x], _ => exact ⟨x, rfl⟩
theorem lerr_mir {s : St} {xs : List Int} (hc : s.chk = 0) (hl : (xs.length : Int) = s.need) (hv : Vl xs) : s.mir.lerr xs.reverse = s.lerr xs := by
  have hv' : Vl xs.reverse := fun x hx => hv x (by simpa using hx)
  rw [lerr_in hc hl hv.gi, lerr_in (by rw [mir_chk]; exact hc) (by rw [List.length_reverse, mir_need]; exact hl) hv'.gi, mir_k]
  by_cases h4 : s.k = 4 ∨ s.k = 5
  · rw [if_pos h4, if_pos h4]
    obtain ⟨x, y, rfl⟩ := two_of (xs := xs) (by have := need45 hc h4; omega)
    show (if 4 < y + x then (9 : Int) else 0) = if 4 < x + y then 9 else 0
    rw [Int.add_comm]
  · rw [if_neg h4, if_neg h4]
    by_cases h6 : s.k = 6
    · obtain ⟨x, rfl⟩ := one_of (xs := xs) (by have := need67 hc (.inl h6); omega)
      rfl
    · rw [if_neg (fun h => h6 h.1), if_neg (fun h => h6 h.1)]
theorem lmade_mir {s : St} {xs : List Int} (hc : s.chk = 0) (hl : (xs.length : Int) = s.need) (hv : Vl xs) : s.mir.lmade xs.reverse = (s.lmade xs).reverse := by
  unfold St.lmade
  rw [lerr_mir hc hl hv, mir_k, mir_make]
  by_cases he : s.lerr xs ≠ 0
  · rw [if_pos he, if_pos he]; rfl
  · rw [if_neg he, if_neg he]
    by_cases h6 : s.k = 6
    · rw [if_pos h6, if_pos h6]
      obtain ⟨x, rfl⟩ := one_of (xs := xs) (by have := need67 hc (.inl h6); omega)
      rfl
    · rw [if_neg h6, if_neg h6]
      by_cases h7 : s.k = 7
      · rw [if_pos h7, if_pos h7]
        obtain ⟨x, rfl⟩ := one_of (xs := xs) (by have := need67 hc (.inr h7); omega)
        rfl
      · rw [if_neg h7, if_neg h7, List.reverse_replicate]
theorem lmade_val {s : St} {xs : List Int} (hc : s.chk = 0) (hl : (xs.length : Int) = s.need) (hv : Vl xs) : Vl (s.lmade xs) := by
  have hin := lerr_in hc hl hv.gi
  unfold St.lmade
  by_cases he : s.lerr xs ≠ 0
  · rw [if_pos he]; intro x hx; cases hx
  · rw [if_neg he]
    by_cases h6 : s.k = 6
    · rw [if_pos h6]
      rw [if_neg (by omega)] at hin
      have hg := hv.gi 0 (by have := need67 hc (.inl h6); omega)
      by_cases h3 : gi xs 0 = 3
      · rw [if_pos ⟨h6, h3⟩] at hin; omega
      · intro x hx
        rw [List.mem_singleton.1 hx]; omega
    · rw [if_neg h6]
      by_cases h7 : s.k = 7
      · rw [if_pos h7]
        have hg := hv.gi 0 (by have := need67 hc (.inr h7); omega)
        intro x hx
        rw [List.mem_singleton.1 hx]; omega
      · rw [if_neg h7]
        intro x hx
        rw [List.eq_of_mem_replicate hx]; omega
/-- The loops behind a row, if it can be worked. -/
def lo : List St → List Int → Option (List Int)
  | [], _ => some []
  | s :: r, bf => if s.lerr (bf.take s.need.toNat) ≠ 0 then none else (lo r (bf.drop s.need.toNat)).map (s.lmade (bf.take s.need.toNat) ++ ·)
theorem take_app {b1 b2 : List Int} {n : Nat} (h : b1.length = n) : (b1 ++ b2).take n = b1 ∧ (b1 ++ b2).drop n = b2 := by
  subst h; simp
theorem lo_app : ∀ (r1 r2 : List St) (b1 b2 : List Int), (b1.length : Int) = rneed r1 → lo (r1 ++ r2) (b1 ++ b2) = (lo r1 b1).bind fun o1 => (lo r2 b2).map (o1 ++ ·)
  | [], r2, b1, b2, h => by
    have h0 : b1 = [] := List.eq_nil_of_length_eq_zero (by have : rneed [] = 0 := rfl; omega)
    subst h0
    simp only [List.nil_append, lo, Option.bind_some]
    cases lo r2 b2 <;> simp
  | s :: r1, r2, b1, b2, h => by
    rw [rneed_cons] at h
    have hn := St.need_bd s
    have hr := (rneed_bd r1).1
    have ht : (b1 ++ b2).take s.need.toNat = b1.take s.need.toNat := List.take_append_of_le_length (by omega)
    have hd : (b1 ++ b2).drop s.need.toNat = b1.drop s.need.toNat ++ b2 := List.drop_append_of_le_length (by omega)
    rw [List.cons_append, lo, lo, ht, hd]
    by_cases he : s.lerr (b1.take s.need.toNat) ≠ 0
    · rw [if_pos he, if_pos he]; rfl
    · rw [if_neg he, if_neg he, lo_app r1 r2 (b1.drop s.need.toNat) b2 (by rw [List.length_drop]; omega)]
      cases lo r1 (b1.drop s.need.toNat) with
      | none => rfl
      | some o1 =>
        cases lo r2 b2 with
        | none => rfl
        | some o2 => simp
theorem Vl.take {xs : List Int} (h : Vl xs) (n : Nat) : Vl (xs.take n) := fun x hx => h x (List.mem_of_mem_take hx)
theorem Vl.drop {xs : List Int} (h : Vl xs) (n : Nat) : Vl (xs.drop n) := fun x hx => h x (List.mem_of_mem_drop hx)
theorem lo_mir : ∀ (r : List St) (bf : List Int), (∀ s ∈ r, s.chk = 0) → (bf.length : Int) = rneed r → Vl bf → lo (mirR r) bf.reverse = (lo r bf).map List.reverse
  | [], bf, _, _, _ => rfl
  | s :: r, bf, hc, hl, hv => by
    rw [rneed_cons] at hl
    have hn := St.need_bd s
    have hr := (rneed_bd r).1
    have hcs := hc s (by simp)
    obtain ⟨b1, hb1⟩ : ∃ b1, b1 = bf.take s.need.toNat := ⟨_, rfl⟩
    obtain ⟨b2, hb2⟩ : ∃ b2, b2 = bf.drop s.need.toNat := ⟨_, rfl⟩
    have hbf : bf = b1 ++ b2 := by rw [hb1, hb2, List.take_append_drop]
    have hl1 : (b1.length : Int) = s.need := by rw [hb1, List.length_take]; omega
    have hl2 : (b2.length : Int) = rneed r := by rw [hb2, List.length_drop]; omega
    have hv1 : Vl b1 := by rw [hb1]; exact hv.take _
    have hv2 : Vl b2 := by rw [hb2]; exact hv.drop _
    have ih := lo_mir r b2 (fun x hx => hc x (by simp [hx])) hl2 hv2
    have hone : lo [s.mir] b1.reverse = if s.lerr b1 ≠ 0 then none else some (s.lmade b1).reverse := by
      have ht : b1.reverse.take s.mir.need.toNat = b1.reverse := List.take_of_length_le (by rw [List.length_reverse, mir_need]; omega)
      rw [lo, ht, lerr_mir hcs hl1 hv1, lmade_mir hcs hl1 hv1]
      by_cases he : s.lerr b1 ≠ 0
      · rw [if_pos he, if_pos he]
      · rw [if_neg he, if_neg he, lo]; simp
    rw [mirR_cons, hbf, List.reverse_append, lo_app _ _ _ _ (by rw [List.length_reverse, mirR_need]; exact hl2), ih, hone, lo]
    obtain ⟨ht, hd⟩ := take_app (b1 := b1) (b2 := b2) (n := s.need.toNat) (by omega)
    rw [ht, hd]
    by_cases he : s.lerr b1 ≠ 0
    · rw [if_pos he, if_pos he]; cases lo r b2 <;> rfl
    · rw [if_neg he, if_neg he]
      cases lo r b2 with
      | none => rfl
      | some o => simp
theorem lo_some : ∀ (r : List St) (bf o : List Int), (∀ s ∈ r, s.chk = 0) → (bf.length : Int) = rneed r → Vl bf → lo r bf = some o → Vl o ∧ (o.length : Int) = rmake r
  | [], bf, o, _, _, _, h => by
    rw [lo] at h
    obtain rfl := Option.some.inj h
    exact ⟨fun x hx => by (cases hx), rfl⟩
  | s :: r, bf, o, hc, hl, hv, h => by
    rw [rneed_cons] at hl
    have hn := St.need_bd s
    have hm := St.make_bd s
    have hr := (rneed_bd r).1
    have hcs := hc s (by simp)
    have hl1 : ((bf.take s.need.toNat).length : Int) = s.need := by rw [List.length_take]; omega
    rw [lo] at h
    by_cases he : s.lerr (bf.take s.need.toNat) ≠ 0
    · rw [if_pos he] at h; cases h
    · rw [if_neg he] at h
      obtain ⟨o2, ho2, rfl⟩ := Option.map_eq_some_iff.1 h
      obtain ⟨i1, i2⟩ := lo_some r _ o2 (fun x hx => hc x (by simp [hx])) (by rw [List.length_drop]; omega) (hv.drop _) ho2
      have hml := lmade_len (s := s) (xs := bf.take s.need.toNat) (by omega)
      refine ⟨fun x hx => ?_, by rw [List.length_append, rmake_cons]; omega⟩
      rcases List.mem_append.1 hx with hx | hx
      · exact lmade_val hcs hl1 (hv.take _) x hx
      · exact i1 x hx
theorem ldRow_lo : ∀ (r : List St) (bf acc : List Int), (∀ s ∈ r, s.chk = 0) → (bf.length : Int) = rneed r → Vl bf → ldRow r bf acc = match lo r bf with | some o => (0, acc ++ o) | none => (9, [])
  | [], bf, acc, _, _, _ => by rw [ldRow, lo]; simp
  | s :: r, bf, acc, hc, hl, hv => by
    rw [rneed_cons] at hl
    have hn := St.need_bd s
    have hr := (rneed_bd r).1
    have hcs := hc s (by simp)
    have hl1 : ((bf.take s.need.toNat).length : Int) = s.need := by rw [List.length_take]; omega
    have hev := lerr_vals hcs hl1 (hv.take _)
    rw [ldRow, lo]
    by_cases he : s.lerr (bf.take s.need.toNat) ≠ 0
    · rw [if_pos he, if_pos he]
      have : s.lerr (bf.take s.need.toNat) = 9 := by omega
      rw [this]
    · rw [if_neg he, if_neg he, ldRow_lo r _ _ (fun x hx => hc x (by simp [hx])) (by rw [List.length_drop]; omega) (hv.drop _)]
      cases lo r (bf.drop s.need.toNat) <;> simp
/-- Whether the rows can be worked one behind the other. -/
def lr : List (List St) → List Int → Bool
  | [], _ => true
  | r :: rs, bf => match lo r bf with
    | none => false
    | some o => lr rs o
/-- The rows fit on one another. -/
def FT : List (List St) → Nat → Prop
  | [], _ => True
  | r :: rs, n => (n : Int) = rneed r ∧ (∀ s ∈ r, s.chk = 0) ∧ FT rs (rmake r).toNat
theorem lr_mir : ∀ (rs : List (List St)) (bf : List Int), FT rs bf.length → Vl bf → lr (mirC rs) bf.reverse = lr rs bf
  | [], _, _, _ => rfl
  | r :: rs, bf, ⟨h1, h2, h3⟩, hv => by
    have hm : mirC (r :: rs) = mirR r :: mirC rs := rfl
    rw [hm, lr, lr, lo_mir r bf h2 h1 hv]
    cases ho : lo r bf with
    | none => rfl
    | some o =>
      obtain ⟨i1, i2⟩ := lo_some r bf o h2 h1 hv ho
      exact lr_mir rs o (by rw [show o.length = (rmake r).toNat by omega]; exact h3) i1
theorem ldRows_lr : ∀ (rs : List (List St)) (bf : List Int) (acc : List (List Int)), FT rs bf.length → Vl bf → (ldRows rs bf acc).1 = if lr rs bf then 0 else 9
  | [], _, _, _, _ => rfl
  | r :: rs, bf, acc, ⟨h1, h2, h3⟩, hv => by
    rw [ldRows, lr, ldRow_lo r bf [] h2 h1 hv]
    cases ho : lo r bf with
    | none => simp
    | some o =>
      obtain ⟨i1, i2⟩ := lo_some r bf o h2 h1 hv ho
      simp only [ne_eq, not_true_eq_false, if_false, List.nil_append]
      exact ldRows_lr rs o _ (by rw [show o.length = (rmake r).toNat by omega]; exact h3) i1
theorem FT_of {rows : List (List St)} (h : cerr rows = 0) : ∀ (d k n : Nat), rows.length - k = d → (k < rows.length → (n : Int) = rneed (sw rows k)) → FT (rows.drop k) n
  | 0, k, n, hd, _ => by rw [List.drop_eq_nil_of_le (by omega)]; exact trivial
  | d + 1, k, n, hd, hn => by
    obtain ⟨r1, r2, r3, r4⟩ := cerr_zero h
    rw [drop_sw (show k < rows.length by omega)]
    have hz := rchk_zero (r3 k (by omega))
    refine ⟨hn (by omega), fun s hs => ?_, FT_of h d (k + 1) _ (by omega) (fun hk => ?_)⟩
    · obtain ⟨i, hi, rfl⟩ := List.mem_iff_getElem.1 hs
      have := hz.2.2.1 i hi
      rwa [si_of_lt hi] at this
    · rw [r4 k hk]
      have := hz.2.2.2.2.2.1
      omega
theorem first_val (rows : List (List St)) : Vl (first rows) := fun x hx => by
  unfold first at hx
  rw [List.eq_of_mem_replicate hx]; omega
/-- The error of a chart without an error of its rows. -/
theorem cloads_lr {rows : List (List St)} (h : cerr rows = 0) : (cloads rows).1 = if lr rows (first rows) then 0 else 9 := by
  have hc := h
  unfold cloads
  rw [if_neg (by omega)]
  have hl : (first rows).length = (rneed (sw rows 0)).toNat := by unfold first; simp
  have hn := (rneed_bd (sw rows 0)).1
  exact ldRows_lr rows _ _ (by rw [hl]; exact FT_of h rows.length 0 _ (by omega) (fun _ => by omega)) (first_val rows)
theorem cloads_mir {rows : List (List St)} (h : cerr rows = 0) : (cloads (mirC rows)).1 = (cloads rows).1 := by
  have hm : cerr (mirC rows) = 0 := by rw [mirC_cerr]; exact h
  obtain ⟨r1, r2, r3, r4⟩ := cerr_zero h
  rw [cloads_lr h, cloads_lr hm]
  have hl : (first rows).length = (rneed (sw rows 0)).toNat := by unfold first; simp
  have hn := (rneed_bd (sw rows 0)).1
  have hf : first (mirC rows) = (first rows).reverse := by
    unfold first
    rw [mirC_sw (by omega), mirR_need, List.reverse_replicate]
  rw [hf, lr_mir rows (first rows) (by rw [hl]; exact FT_of h rows.length 0 _ (by omega) (fun _ => by omega)) (first_val rows)]
theorem mir_err (rows : List (List St)) : (cloads (mirC rows)).1 = (cloads rows).1 := by
  by_cases h : cerr rows = 0
  · exact cloads_mir h
  · unfold cloads
    rw [mirC_cerr, if_pos h, if_pos h]
end Go.Proofs.Ytlmkcojimhbmiaa
/- Rows of plain data in plain Lean: what ganseylaw12.K.Of gives, which stitches ganseylaw13.row may take, and that its rows are valid. -/
namespace Go.Proofs.Ytlmkcojimhbmiaa
set_option linter.unusedVariables false
set_option linter.unusedSimpArgs false
set_option maxRecDepth 8000
open Go Go.RowKit

def kA : List Int := [1, 1, 2, 2, 1, 3]
def kB : List Int := [1, 2, 1, 2, 3, 1]
/-- K.Of. -/
def kSt (k y a : Int) (f : Bool) : St := if k % 8 = 7 then ⟨8, 1 + y % 6, gi kA (a % 6).toNat, gi kB (a % 6).toNat, f⟩ else ⟨1 + k % 8, 1 + y % 6, 0, 0, false⟩
theorem kAB {i : Nat} (h : i < 6) : 1 ≤ gi kA i ∧ gi kA i ≤ 3 ∧ 1 ≤ gi kB i ∧ gi kB i ≤ 3 ∧ gi kA i + gi kB i ≤ 4 := by
  rcases (show i = 0 ∨ i = 1 ∨ i = 2 ∨ i = 3 ∨ i = 4 ∨ i = 5 by omega) with rfl | rfl | rfl | rfl | rfl | rfl <;> decide
theorem kSt_chk (k y a : Int) (f : Bool) : (kSt k y a f).chk = 0 := by
  have hm := Int.emod_nonneg k (show (8 : Int) ≠ 0 by decide)
  have hm2 := Int.emod_lt_of_pos k (show (0 : Int) < 8 by decide)
  have hy := Int.emod_nonneg y (show (6 : Int) ≠ 0 by decide)
  have hy2 := Int.emod_lt_of_pos y (show (0 : Int) < 6 by decide)
  have ha := Int.emod_nonneg a (show (6 : Int) ≠ 0 by decide)
  have ha2 := Int.emod_lt_of_pos a (show (0 : Int) < 6 by decide)
  have hk := kAB (i := (a % 6).toNat) (by omega)
  unfold kSt
  by_cases h : k % 8 = 7
  · rw [if_pos h]
    unfold St.chk
    simp only []
    rw [if_neg (by omega), if_neg (by omega), if_neg (by omega)]
  · rw [if_neg h]
    unfold St.chk
    simp only []
    rw [if_neg (by omega), if_pos (by omega), if_neg (by simp)]

/-- A stitch that a row may take at slot i, where nx slots are made: the loops of the slots are xs. -/
def Take (xs : List Int) (i nx : Nat) (s : St) : Prop :=
  s.chk = 0 ∧ i + s.need.toNat ≤ xs.length ∧ s.lerr ((xs.drop i).take s.need.toNat) = 0 ∧ (s.need = 0 → nx + (xs.length - i) < 8)
/-- The stitches so far and the slots that they make. -/
structure Mid (xs : List Int) (i : Nat) (out : List St) (nx : List Int) : Prop where
  ok : ∀ s ∈ out, s.chk = 0
  need : rneed out = i
  lo : lo out (xs.take i) = some nx
  len : nx.length + (xs.length - i) ≤ 8
  le : i ≤ xs.length
  few : out.length ≤ nx.length
theorem Mid.start {xs : List Int} (h : xs.length ≤ 8) : Mid xs 0 [] [] := ⟨fun s hs => by simp at hs, rfl, by simp [_root_.Go.Proofs.Ytlmkcojimhbmiaa.lo], by simp; omega, by omega, Nat.le_refl _⟩
theorem make_pos {s : St} (h : s.chk = 0) : 1 ≤ s.make ∧ (s.need = 0 → s.make = 1) ∧ (s.need ≠ 0 → s.make ≤ s.need) := by
  obtain ⟨h1, _, h3⟩ := St.chk_ok h
  have hm : s.make = if s.k = 8 then s.a + s.b else 1 := by unfold St.make; rw [if_neg (by omega)]
  have hn : s.need = if s.k = 3 then 0 else if s.k = 4 ∨ s.k = 5 then 2 else if s.k = 8 then s.a + s.b else 1 := by unfold St.need; rw [if_neg (by omega)]
  by_cases e8 : s.k = 8
  · rw [if_pos e8] at hm
    rw [if_neg (by omega), if_neg (by omega), if_pos e8] at hn
    omega
  · rw [if_neg e8] at hm
    by_cases e3 : s.k = 3
    · rw [if_pos e3] at hn; omega
    · rw [if_neg e3] at hn
      by_cases e4 : s.k = 4 ∨ s.k = 5
      · rw [if_pos e4] at hn; omega
      · rw [if_neg e4, if_neg e8] at hn; omega
theorem Mid.step {xs : List Int} {i : Nat} {out : List St} {nx : List Int} {s : St} (h : Mid xs i out nx) (ht : Take xs i nx.length s) (hv : Vl xs) :
    Mid xs (i + s.need.toNat) (out ++ [s]) (nx ++ s.lmade ((xs.drop i).take s.need.toNat)) := by
  obtain ⟨t1, t2, t3, t4⟩ := ht
  have hn := St.need_bd s
  have hmk := make_pos t1
  have hl := lmade_len t3
  have hlt : ((xs.drop i).take s.need.toNat).length = s.need.toNat := by rw [List.length_take, List.length_drop]; omega
  refine ⟨fun x hx => ?_, ?_, ?_, ?_, t2, ?_⟩
  · rcases List.mem_append.1 hx with hx | hx
    · exact h.ok x hx
    · rw [List.mem_singleton.1 hx]; exact t1
  · rw [rneed_snoc, h.need]; omega
  · have ht : xs.take (i + s.need.toNat) = xs.take i ++ (xs.drop i).take s.need.toNat := List.take_add
    rw [ht, lo_app _ _ _ _ (by rw [List.length_take, h.need]; have := h.le; omega), h.lo]
    have hself : ((xs.drop i).take s.need.toNat).take s.need.toNat = (xs.drop i).take s.need.toNat := by rw [List.take_take, Nat.min_self]
    rw [Option.bind_some, _root_.Go.Proofs.Ytlmkcojimhbmiaa.lo, hself, if_neg (by simp [t3]), _root_.Go.Proofs.Ytlmkcojimhbmiaa.lo]
    simp
  · rw [List.length_append, hl]
    have := h.len
    have := h.le
    by_cases e : s.need = 0
    · have h4 := t4 e
      have := hmk.2.1 e
      omega
    · have := hmk.2.2 e
      omega
  · rw [List.length_append, List.length_append, hl, List.length_singleton]
    have := h.few
    omega
/-- How far the loop is from its end. -/
def far9 (n i nx : Nat) : Nat := 9 * (n - i) + (8 - (nx + (n - i)))
theorem Mid.far {xs : List Int} {i : Nat} {out : List St} {nx : List Int} {s : St} (h : Mid xs i out nx) (ht : Take xs i nx.length s) (hi : i < xs.length) :
    far9 xs.length (i + s.need.toNat) (nx ++ s.lmade ((xs.drop i).take s.need.toNat)).length < far9 xs.length i nx.length := by
  obtain ⟨t1, t2, t3, t4⟩ := ht
  have hn := St.need_bd s
  have hmk := make_pos t1
  have hl := lmade_len t3
  have := h.len
  unfold far9
  rw [List.length_append, hl]
  by_cases e : s.need = 0
  · have h4 := t4 e
    have := hmk.2.1 e
    omega
  · have := hmk.2.2 e
    omega
/-- What a row gives. -/
def RowOf (xs : List Int) (r : List St) (nx : List Int) : Prop := (∀ s ∈ r, s.chk = 0) ∧ rneed r = xs.length ∧ lo r xs = some nx ∧ nx.length ≤ 8 ∧ r.length ≤ nx.length ∧ Vl nx ∧ 1 ≤ r.length ∧ (nx.length : Int) = rmake r
theorem Mid.done {xs : List Int} {out : List St} {nx : List Int} (h : Mid xs xs.length out nx) (h0 : 1 ≤ xs.length) (hv : Vl xs) : RowOf xs out nx := by
  have hlo := h.lo
  rw [List.take_length] at hlo
  have h1 := lo_some out xs nx h.ok h.need.symm hv hlo
  refine ⟨h.ok, h.need, hlo, by have := h.len; omega, h.few, h1.1, ?_, h1.2⟩
  by_cases e : out = []
  · have := h.need; rw [e] at this; have : rneed [] = 0 := rfl; omega
  · exact List.length_pos_iff.2 e
theorem Vl.take' {xs : List Int} (h : Vl xs) (i n : Nat) : Vl ((xs.drop i).take n) := (h.drop i).take n
/-- Plain stitches may be taken. -/
theorem take_one {xs : List Int} {i nx : Nat} {k y : Int} (hi : i < xs.length) (hv : Vl xs) (hy : 1 ≤ y ∧ y ≤ 6) (hk : k = 1 ∨ k = 2 ∨ k = 7 ∨ k = 6 ∧ gi xs i < 3) : Take xs i nx ⟨k, y, 0, 0, false⟩ := by
  have hc : (⟨k, y, 0, 0, false⟩ : St).chk = 0 := by
    unfold St.chk; simp only []; rw [if_neg (by omega), if_pos (by omega), if_neg (by simp)]
  have hn : (⟨k, y, 0, 0, false⟩ : St).need = 1 := by
    unfold St.need; simp only []; rw [if_neg (by omega), if_neg (by omega), if_neg (by omega), if_neg (by omega)]
  have hlt : ((xs.drop i).take 1).length = 1 := by rw [List.length_take, List.length_drop]; omega
  refine ⟨hc, by rw [hn]; show i + 1 ≤ _; omega, ?_, fun h => by omega⟩
  rw [hn]
  show St.lerr _ ((xs.drop i).take 1) = 0
  rw [lerr_in hc (by rw [hlt, hn]; rfl) (Vl.gi (hv.take' i 1))]
  have hg : gi ((xs.drop i).take 1) 0 = gi xs i := by rw [gi_take (by omega), gi_drop]; rfl
  simp only []
  rw [hg, if_neg (by omega), if_neg (by omega)]
theorem take_over {xs : List Int} {i nx : Nat} {y : Int} (hi : i < xs.length) (hy : 1 ≤ y ∧ y ≤ 6) (hf : nx + (xs.length - i) < 8) : Take xs i nx ⟨3, y, 0, 0, false⟩ := by
  have hc : (⟨3, y, 0, 0, false⟩ : St).chk = 0 := by
    unfold St.chk; simp only []; rw [if_neg (by omega), if_pos (by omega), if_neg (by simp)]
  have hn : (⟨3, y, 0, 0, false⟩ : St).need = 0 := by unfold St.need; simp only []; rw [if_neg (by omega), if_pos trivial]
  refine ⟨hc, by rw [hn]; show i + 0 ≤ _; omega, ?_, fun _ => hf⟩
  rw [hn]
  show St.lerr _ [] = 0
  rw [lerr_in hc (by rw [hn]; rfl) (fun i hi => by simp at hi)]
  simp
theorem take_two {xs : List Int} {i nx : Nat} {k y : Int} (hk : k = 4 ∨ k = 5) (hi : i + 1 < xs.length) (hv : Vl xs) (hy : 1 ≤ y ∧ y ≤ 6) (hs : gi xs i + gi xs (i + 1) ≤ 4) : Take xs i nx ⟨k, y, 0, 0, false⟩ := by
  have hc : (⟨k, y, 0, 0, false⟩ : St).chk = 0 := by
    unfold St.chk; simp only []; rw [if_neg (by omega), if_pos (by omega), if_neg (by simp)]
  have hn : (⟨k, y, 0, 0, false⟩ : St).need = 2 := by
    unfold St.need; simp only []; rw [if_neg (by omega), if_neg (by omega), if_pos hk]
  have hlt : ((xs.drop i).take 2).length = 2 := by rw [List.length_take, List.length_drop]; omega
  refine ⟨hc, by rw [hn]; show i + 2 ≤ _; omega, ?_, fun h => by omega⟩
  rw [hn]
  show St.lerr _ ((xs.drop i).take 2) = 0
  rw [lerr_in hc (by rw [hlt, hn]; rfl) (Vl.gi (hv.take' i 2))]
  have hg : gi ((xs.drop i).take 2) 0 = gi xs i := by rw [gi_take (by omega), gi_drop]; rfl
  have hg1 : gi ((xs.drop i).take 2) 1 = gi xs (i + 1) := by rw [gi_take (by omega), gi_drop]
  simp only []
  rw [hg, hg1, if_pos hk, if_neg (by omega)]
theorem take_cable {xs : List Int} {i nx : Nat} {s : St} (hc : s.chk = 0) (h8 : s.k = 8) (hv : Vl xs) (hi : i ≤ xs.length) (hs : s.a + s.b ≤ ((xs.length - i : Nat) : Int)) : Take xs i nx s := by
  obtain ⟨_, _, h3⟩ := St.chk_ok hc
  have hn : s.need = s.a + s.b := by
    unfold St.need; rw [if_neg (by omega), if_neg (by omega), if_neg (by omega), if_pos h8]
  have hlt : ((xs.drop i).take s.need.toNat).length = s.need.toNat := by rw [List.length_take, List.length_drop]; omega
  refine ⟨hc, by rw [hn]; omega, ?_, fun h => by omega⟩
  rw [lerr_in hc (by rw [hlt]; omega) (Vl.gi (hv.take' i _)), if_neg (by omega), if_neg (by omega)]
end Go.Proofs.Ytlmkcojimhbmiaa
/- ganseylaw12.K.Of. -/
namespace Go.Proofs.Ytlmkcojimhbmiaa
set_option linter.unusedVariables false
set_option linter.unusedSimpArgs false
set_option maxRecDepth 8000
open Go Go.RowKit

set_option maxHeartbeats 2000000 in
theorem K_calls (k y a : Int) (f : Bool) (w : World) (hk : 0 ≤ k ∧ k ≤ 255) (hy : 0 ≤ y ∧ y ≤ 255) (ha : 0 ≤ a ∧ a ≤ 255) :
    Calls Try.prog 63 #[.agg #[.int .u8 k, .int .u8 y, .int .u8 a, .bool f]] w fun e w' => e = .returned (kSt k y a f).val ∧ Ext w w' := by
  have hm := Int.emod_nonneg k (show (8 : Int) ≠ 0 by decide)
  have hm2 := Int.emod_lt_of_pos k (show (0 : Int) < 8 by decide)
  have hy1 := Int.emod_nonneg y (show (6 : Int) ≠ 0 by decide)
  have hy2 := Int.emod_lt_of_pos y (show (0 : Int) < 6 by decide)
  have ha1 := Int.emod_nonneg a (show (6 : Int) ≠ 0 by decide)
  have ha2 := Int.emod_lt_of_pos a (show (0 : Int) < 6 by decide)
  have w1 : IntKind.u8.wrap (k % 8) = k % 8 := IntWalk.u8_in _ ⟨by omega, by omega⟩
  have w2 : IntKind.u8.wrap (1 + k % 8) = 1 + k % 8 := IntWalk.u8_in _ ⟨by omega, by omega⟩
  have w3 : IntKind.u8.wrap (y % 6) = y % 6 := IntWalk.u8_in _ ⟨by omega, by omega⟩
  have w4 : IntKind.u8.wrap (1 + y % 6) = 1 + y % 6 := IntWalk.u8_in _ ⟨by omega, by omega⟩
  have w5 : IntKind.u8.wrap (a % 6) = a % 6 := IntWalk.u8_in _ ⟨by omega, by omega⟩
  by_cases h7 : k % 8 = 7
  · have h7' : (1 + k % 8 == 8) = true := by rw [beq_iff_eq]; omega
    have hr : kSt k y a f = ⟨8, 1 + y % 6, gi kA (a % 6).toNat, gi kB (a % 6).toNat, f⟩ := by unfold kSt; rw [if_pos h7]
    rw [hr]
    have e1 : 1 + k % 8 = 8 := by omega
    rcases (show a % 6 = 0 ∨ a % 6 = 1 ∨ a % 6 = 2 ∨ a % 6 = 3 ∨ a % 6 = 4 ∨ a % 6 = 5 by omega) with e | e | e | e | e | e
    · unfold St.val
      simp only [e]
      obtain ⟨hk1, hk2⟩ := hk
      obtain ⟨hy1, hy2⟩ := hy
      obtain ⟨ha1, ha2⟩ := ha
      clear h7 hr
      go_enter Try.func63, Try.ntmps63
      go_wp2
      clear hm hm2 hy1 hy2 w1 w2 w3 w4 w5 e h7' e1 hk1 hk2 ha1 ha2
      go_region
      go_wp2
      exact bodyPost_ret (v := .agg #[.int .u8 8, .int .u8 (1 + y % 6), .int .i64 1, .int .i64 1, .bool f]) (by simp [results, Try.results63, go_sem]) rfl ⟨rfl, by (focus (repeat (first | (with_reducible exact Ext.refl _) | (with_reducible apply Ext.drew) | (with_reducible apply Ext.drewN) | (with_reducible apply Ext.alloc))))⟩
    · unfold St.val
      simp only [e]
      obtain ⟨hk1, hk2⟩ := hk
      obtain ⟨hy1, hy2⟩ := hy
      obtain ⟨ha1, ha2⟩ := ha
      clear h7 hr
      go_enter Try.func63, Try.ntmps63
      go_wp2
      clear hm hm2 hy1 hy2 w1 w2 w3 w4 w5 e h7' e1 hk1 hk2 ha1 ha2
      go_region
      go_wp2
      exact bodyPost_ret (v := .agg #[.int .u8 8, .int .u8 (1 + y % 6), .int .i64 1, .int .i64 2, .bool f]) (by simp [results, Try.results63, go_sem]) rfl ⟨rfl, by (focus (repeat (first | (with_reducible exact Ext.refl _) | (with_reducible apply Ext.drew) | (with_reducible apply Ext.drewN) | (with_reducible apply Ext.alloc))))⟩
    · unfold St.val
      simp only [e]
      obtain ⟨hk1, hk2⟩ := hk
      obtain ⟨hy1, hy2⟩ := hy
      obtain ⟨ha1, ha2⟩ := ha
      clear h7 hr
      go_enter Try.func63, Try.ntmps63
      go_wp2
      clear hm hm2 hy1 hy2 w1 w2 w3 w4 w5 e h7' e1 hk1 hk2 ha1 ha2
      go_region
      go_wp2
      exact bodyPost_ret (v := .agg #[.int .u8 8, .int .u8 (1 + y % 6), .int .i64 2, .int .i64 1, .bool f]) (by simp [results, Try.results63, go_sem]) rfl ⟨rfl, by (focus (repeat (first | (with_reducible exact Ext.refl _) | (with_reducible apply Ext.drew) | (with_reducible apply Ext.drewN) | (with_reducible apply Ext.alloc))))⟩
    · unfold St.val
      simp only [e]
      obtain ⟨hk1, hk2⟩ := hk
      obtain ⟨hy1, hy2⟩ := hy
      obtain ⟨ha1, ha2⟩ := ha
      clear h7 hr
      go_enter Try.func63, Try.ntmps63
      go_wp2
      clear hm hm2 hy1 hy2 w1 w2 w3 w4 w5 e h7' e1 hk1 hk2 ha1 ha2
      go_region
      go_wp2
      exact bodyPost_ret (v := .agg #[.int .u8 8, .int .u8 (1 + y % 6), .int .i64 2, .int .i64 2, .bool f]) (by simp [results, Try.results63, go_sem]) rfl ⟨rfl, by (focus (repeat (first | (with_reducible exact Ext.refl _) | (with_reducible apply Ext.drew) | (with_reducible apply Ext.drewN) | (with_reducible apply Ext.alloc))))⟩
    · unfold St.val
      simp only [e]
      obtain ⟨hk1, hk2⟩ := hk
      obtain ⟨hy1, hy2⟩ := hy
      obtain ⟨ha1, ha2⟩ := ha
      clear h7 hr
      go_enter Try.func63, Try.ntmps63
      go_wp2
      clear hm hm2 hy1 hy2 w1 w2 w3 w4 w5 e h7' e1 hk1 hk2 ha1 ha2
      go_region
      go_wp2
      exact bodyPost_ret (v := .agg #[.int .u8 8, .int .u8 (1 + y % 6), .int .i64 1, .int .i64 3, .bool f]) (by simp [results, Try.results63, go_sem]) rfl ⟨rfl, by (focus (repeat (first | (with_reducible exact Ext.refl _) | (with_reducible apply Ext.drew) | (with_reducible apply Ext.drewN) | (with_reducible apply Ext.alloc))))⟩
    · unfold St.val
      simp only [e]
      obtain ⟨hk1, hk2⟩ := hk
      obtain ⟨hy1, hy2⟩ := hy
      obtain ⟨ha1, ha2⟩ := ha
      clear h7 hr
      go_enter Try.func63, Try.ntmps63
      go_wp2
      clear hm hm2 hy1 hy2 w1 w2 w3 w4 w5 e h7' e1 hk1 hk2 ha1 ha2
      go_region
      go_wp2
      exact bodyPost_ret (v := .agg #[.int .u8 8, .int .u8 (1 + y % 6), .int .i64 3, .int .i64 1, .bool f]) (by simp [results, Try.results63, go_sem]) rfl ⟨rfl, by (focus (repeat (first | (with_reducible exact Ext.refl _) | (with_reducible apply Ext.drew) | (with_reducible apply Ext.drewN) | (with_reducible apply Ext.alloc))))⟩
  · have h7' : (1 + k % 8 == 8) = false := beq_eq_false_iff_ne.2 (by omega)
    have hr : kSt k y a f = ⟨1 + k % 8, 1 + y % 6, 0, 0, false⟩ := by unfold kSt; rw [if_neg h7]
    rw [hr]
    clear h7 hr
    go_enter Try.func63, Try.ntmps63
    go_wp2
    unfold St.val
    exact bodyPost_ret (v := .agg #[.int .u8 (1 + k % 8), .int .u8 (1 + y % 6), .int .i64 0, .int .i64 0, .bool false]) (by simp [results, Try.results63, go_sem]) rfl ⟨rfl, by (focus (repeat (first | (with_reducible exact Ext.refl _) | (with_reducible apply Ext.drew) | (with_reducible apply Ext.drewN) | (with_reducible apply Ext.alloc))))⟩
end Go.Proofs.Ytlmkcojimhbmiaa
/- Lists of lists of numbers that a call builds by appending. -/
namespace Go.Proofs.Ytlmkcojimhbmiaa
set_option linter.unusedVariables false
set_option linter.unusedSimpArgs false
set_option maxRecDepth 8000
open Go Go.RowKit

/-- A row of numbers of the call's own, or nil. -/
def IV (w : World) (u : Value) (l : List Int) : Prop := (u = .slice Option.none 0 0 ∧ l = []) ∨ ∃ q c f, u = .slice (some ⟨q, 0, Option.none⟩) l.length c ∧ l.length ≤ c ∧ c ≤ maxLen ∧ w.rowIs q 3 c f ∧ ∀ i, i < l.length → f i = .int .i64 (gi l i)
theorem IV.ext {w w' : World} {u : Value} {l : List Int} (h : IV w u l) (x : Ext w w') : IV w' u l := by
  rcases h with h | ⟨q, c, f, h1, h2, h3, h4, h5⟩
  · exact .inl h
  · exact .inr ⟨q, c, f, h1, h2, h3, x.row h4, h5⟩
theorem IV.grown {w w' : World} {B n z : Nat} {e : TypeId} {u : Value} {l : List Int} {v : Value} {xs : List Value} (h : IV w u l) (ho : w.ownsRow B e z v n xs) (hg : w.grownBy w' v.ownBlock) (ht : 3 ≠ e) : IV w' u l := by
  rcases h with h | ⟨q, c, f, h1, h2, h3, h4, h5⟩
  · exact .inl h
  · obtain ⟨cur, hb, _⟩ := id h4
    exact .inr ⟨q, c, f, h1, h2, h3, h4.of_block ((blk_grown ho hg hb ht).trans hb.symm), h5⟩
theorem IV.is {w : World} {u : Value} {l : List Int} (h : IV w u l) : ∃ c, IS .i64 w u c l := by
  rcases h with ⟨rfl, rfl⟩ | ⟨q, c, f, rfl, h2, h3, h4, h5⟩
  · exact ⟨0, IS.nil _ _⟩
  · exact ⟨c, IS.mk rfl h2 h3 fun i hi => by rw [Nat.zero_add, h4.cell (by omega), h5 i hi]⟩
theorem IV.form {w : World} {u : Value} {l : List Int} (h : IV w u l) : ∃ a n c, u = .slice a n c ∧ n = l.length := by
  rcases h with ⟨rfl, rfl⟩ | ⟨q, c, f, rfl, _⟩
  · exact ⟨_, _, _, rfl, rfl⟩
  · exact ⟨_, _, _, rfl, rfl⟩
theorem IV.of_own {w : World} {B n : Nat} {v : Value} {l : List Int} (h : w.ownsRow B 3 1 v n (l.map (Value.int .i64))) : IV w v l ∧ n = l.length := by
  obtain ⟨hl, h⟩ := h
  rw [List.length_map, Nat.mul_one] at hl
  refine ⟨?_, hl.symm⟩
  rcases h with ⟨hv, hn⟩ | ⟨g, cap, cur, hv, hB, hb, hnc, hm, hsz, htk⟩
  · exact .inl ⟨hv, List.eq_nil_of_length_eq_zero (by omega)⟩
  · rw [Nat.mul_one] at hsz htk
    refine .inr ⟨g, cap, fun i => (cur[i]?).getD undef, by rw [hv, hl], by omega, hm, ⟨cur, hb, by omega, fun i hi => by simp [Array.getElem?_eq_getElem (show i < cur.size by omega)]⟩, fun i hi => ?_⟩
    have : cur[i]? = (l.map (Value.int .i64))[i]? := by rw [← htk, List.getElem?_take, if_pos (by omega), Array.getElem?_toList]
    show (cur[i]?).getD undef = _
    rw [this, List.getElem?_map, gi_some hi]; rfl

/-- The lists that were appended so far. -/
def OI (w wr : World) (v : Value) (rows : List (List Int)) : Prop :=
  Ext w wr ∧ ∃ vs : List Value, wr.ownsRow w.heap.size 55 1 v rows.length vs ∧ ∀ i, i < rows.length → ∃ u, vs[i]? = some u ∧ IV wr u (ri rows i)
theorem OI.later {w wr w' : World} {v : Value} {rows : List (List Int)} (h : OI w wr v rows) (x : Ext wr w') : OI w w' v rows := by
  obtain ⟨h1, vs, h2, h3⟩ := h
  exact ⟨h1.trans x, vs, own_ext h2 x, fun i hi => by obtain ⟨u, a, b⟩ := h3 i hi; exact ⟨u, a, b.ext x⟩⟩
theorem OI.form {w wr : World} {v : Value} {rows : List (List Int)} (h : OI w wr v rows) : ∃ a n c, v = .slice a n c ∧ n = rows.length := by
  obtain ⟨_, vs, ⟨_, ⟨hv, hn⟩ | ⟨g, cap, cur, hv, _⟩⟩, _⟩ := h
  · exact ⟨_, _, _, hv, hn.symm⟩
  · exact ⟨_, _, _, hv, rfl⟩
/-- A list written out in a block of its own. -/
theorem OI.one {w wr : World} {u : Value} {l : List Int} (x : Ext w wr) (hu : IV wr u l) : OI w (wr.alloc (.cells #[u] 55)) (.slice (some ⟨wr.heap.size, 0, Option.none⟩) 1 1) [l] := by
  have hr := World.rowIs_alloc wr #[u] 55 (fun _ => u) (fun i hi => by simp at hi; subst hi; rfl)
  have := own_of_row hr (m := 1) (Nat.le_refl _) (by unfold maxLen; simp)
  obtain ⟨h1, h2⟩ := this
  refine ⟨x.alloc _, [u], ⟨h1, ?_⟩, fun i hi => ?_⟩
  · rcases h2 with ⟨hv, _⟩ | ⟨g, cap, cur, hv, hB, hrest⟩
    · cases hv
    · exact .inr ⟨g, cap, cur, hv, Nat.le_trans x.size hB, hrest⟩
  · obtain rfl : i = 0 := by simpa using hi
    exact ⟨u, rfl, hu.ext ((Ext.refl wr).alloc _)⟩
theorem OI.iss {w wr : World} {v : Value} {rows : List (List Int)} (h : OI w wr v rows) : ∃ c, ISS .i64 wr v c rows := by
  obtain ⟨h1, vs, h2, h3⟩ := h
  obtain ⟨c, hV⟩ := VS.of_own h2
  have hlen : vs.length = rows.length := by have := h2.1; omega
  have hcap : ∀ i, ∃ c', i < rows.length → IS .i64 wr (vs.getD i undef) c' (ri rows i) := fun i => by
    by_cases hi : i < rows.length
    · obtain ⟨u, a, b⟩ := h3 i hi
      obtain ⟨c', hr⟩ := b.is
      exact ⟨c', fun _ => by rw [show vs.getD i undef = u by simp [List.getD, a]]; exact hr⟩
    · exact ⟨0, fun h => absurd h hi⟩
  refine ⟨c, fun i => vs.getD i undef, fun i => (hcap i).choose, ?_, fun i hi => (hcap i).choose_spec hi⟩
  have : (List.range rows.length).map (fun i => vs.getD i undef) = vs := by
    apply List.ext_getElem (by simp [hlen])
    intro i h1 h2
    simp [List.getD, h2]
  rw [this]; exact hV
theorem ri_snoc (a : List (List Int)) (x : List Int) {j : Nat} (h : j < a.length) : ri (a ++ [x]) j = ri a j := by unfold ri; simp [List.getD, List.getElem?_append_left h]
theorem ri_last (a : List (List Int)) (x : List Int) : ri (a ++ [x]) a.length = x := by unfold ri; simp [List.getD]
/-- 'out = append(out, next)'. -/
theorem app_list {w : World} {ops : Array Oper} {rest : List Oper} {o : Oper} {a : Act} {Q : Exit → Act → World → Prop}
    (hg : o.guard = Option.none) (s x : Operand) (hop : o.op = Op.call { callee := Callee.builtin Builtin.append, args := #[s, x], argTypes := #[71, 71] })
    (wb : World) (v : Value) (rows : List (List Int)) (hs : a.eval s = v) (hco : OI wb w v rows) (u : Value) (l : List Int) (hu : IV w u l)
    (g : Nat) (hx : a.eval x = .slice (some ⟨g, 0, Option.none⟩) 1 1) (hgw : g = w.heap.size) (hlen : rows.length ≤ 100000)
    (hK : ∀ v' w', OI wb w' v' (rows ++ [l]) → IV w' u l → wpList Try.prog ops Q rest (a.put o.dst v') w') :
    wpList Try.prog ops Q (o :: rest) a (w.alloc (.cells #[u] 55)) := by
  obtain ⟨h1, vs, h2, h3⟩ := hco
  subst hgw
  have hvl : vs.length = rows.length := by have := h2.1; omega
  have h1u : ∀ y ∈ [u], y.oneCell' = true := by
    intro y hy
    obtain rfl := List.mem_singleton.1 hy
    obtain ⟨a', n', c', rfl, _⟩ := hu.form
    rfl
  have xa : Ext w (w.alloc (.cells #[u] 55)) := (Ext.refl w).alloc _
  refine app_own_g eiRow hg s x hop wb.heap.size v rows.length vs hs (own_ext h2 xa) _ 1 [u] hx (VS.one _ _ _) h1u (by simp; omega) (by simp; omega) (Nat.le_trans h1.size xa.size) ?_
  intro v' w' ho hgr
  have hst : 3 ≠ 55 := by decide
  refine hK v' w' ⟨?_, vs ++ [u], by simpa using ho, fun i hi => ?_⟩ ((hu.ext xa).grown (own_ext h2 xa) hgr hst)
  · refine (h1.trans xa).grown hgr fun k hk => ?_
    obtain ⟨_, ⟨hv, _⟩ | ⟨g', cap, cur, hv, hBg, _⟩⟩ := h2
    · rw [hv] at hk; cases hk
    · rw [hv] at hk; have : g' = k := by simpa [Value.ownBlock] using hk
      omega
  · rw [List.length_append, List.length_singleton] at hi
    by_cases e : i < rows.length
    · obtain ⟨u', a', b'⟩ := h3 i e
      rw [ri_snoc _ _ e]
      exact ⟨u', by rw [List.getElem?_append_left (by omega)]; exact a', (b'.ext xa).grown (own_ext h2 xa) hgr hst⟩
    · obtain rfl : i = rows.length := by omega
      rw [ri_last]
      exact ⟨u, by rw [List.getElem?_append_right (by omega)]; simp [hvl], (hu.ext xa).grown (own_ext h2 xa) hgr hst⟩
end Go.Proofs.Ytlmkcojimhbmiaa
/- ganseyref12.Valid, Needs, Makes. -/
namespace Go.Proofs.Ytlmkcojimhbmiaa
set_option linter.unusedVariables false
set_option linter.unusedSimpArgs false
set_option maxRecDepth 8000
open Go Go.RowKit

def St.vld (s : St) : Int := if s.chk = 0 then 1 else 0
theorem vld_head {s : St} (h : s.k < 1 ∨ 8 < s.k ∨ s.y < 1 ∨ 6 < s.y) : s.vld = 0 := by
  have : s.chk = 1 := by unfold St.chk; rw [if_pos h]
  unfold St.vld; rw [if_neg (by omega)]
theorem vld_plain {s : St} (h : ¬ (s.k < 1 ∨ 8 < s.k ∨ s.y < 1 ∨ 6 < s.y)) (h8 : s.k ≠ 8) : s.vld = if s.a ≠ 0 ∨ s.b ≠ 0 ∨ s.f = true then 0 else 1 := by
  unfold St.vld St.chk; rw [if_neg h, if_pos h8]
  by_cases h2 : s.a ≠ 0 ∨ s.b ≠ 0 ∨ s.f = true
  · rw [if_pos h2, if_pos h2, if_neg (by omega)]
  · rw [if_neg h2, if_neg h2, if_pos rfl]
theorem vld_cable {s : St} (h : ¬ (s.k < 1 ∨ 8 < s.k ∨ s.y < 1 ∨ 6 < s.y)) (h8 : s.k = 8) : s.vld = if 1 ≤ s.a ∧ 1 ≤ s.b ∧ s.a + s.b ≤ 4 then 1 else 0 := by
  have hc : s.chk = if s.a < 1 ∨ 4 < s.a ∨ s.b < 1 ∨ 4 - s.a < s.b then 1 else 0 := by unfold St.chk; rw [if_neg h, if_neg (by omega)]
  unfold St.vld
  by_cases h2 : s.a < 1 ∨ 4 < s.a ∨ s.b < 1 ∨ 4 - s.a < s.b
  · rw [hc, if_pos h2, if_neg (by omega), if_neg (by omega)]
  · rw [hc, if_neg h2, if_pos rfl, if_pos (by omega)]

set_option maxHeartbeats 2000000 in
theorem Valid_calls (s : St) (w : World) (hs : 0 ≤ s.k ∧ 0 ≤ s.y) : Calls Try.prog 30 #[s.val] w fun e w' => e = .returned (.int .i64 s.vld) ∧ Ext w w' := by
  have HB := Lib.hid (fun w' (x : Ext (w.alloc (.cells #[.int .u8 s.k, .int .u8 s.y, .int .i64 s.a, .int .i64 s.b, .bool s.f] 67)) w') => ((B5.new w s 67).ext x).at)
  have hv1 := vld_head (s := s); have hv2 := vld_plain (s := s); have hv3 := vld_cable (s := s)
  obtain ⟨k, y, a, b, f⟩ := s
  unfold St.val
  simp only [] at hv1 hv2 hv3 hs ⊢
  generalize St.vld ⟨k, y, a, b, f⟩ = V at *
  obtain ⟨W, hW⟩ : ∃ W, W = w.alloc (.cells #[.int .u8 k, .int .u8 y, .int .i64 a, .int .i64 b, .bool f] 67) := ⟨_, rfl⟩
  have XW := Lib.hid (show Ext w W by rw [hW]; exact (Ext.refl w).alloc _)
  have hb := HB.out W (by rw [hW]; exact Ext.refl _)
  obtain ⟨c0, c1, c2, c3, c4⟩ := hb
  simp only [Nat.zero_add] at c0 c1 c2 c3 c4
  rw [hW] at c0 c1 c2 c3 c4
  obtain ⟨s1, s2⟩ := hs
  by_cases h : k < 1 ∨ 8 < k ∨ y < 1 ∨ 6 < y
  · have hV := hv1 h
    clear hv1 hv2 hv3 HB
    subst hV
    rcases (show y = 0 ∨ (y ≠ 0 ∧ 6 < y) ∨ (y ≠ 0 ∧ ¬ 6 < y ∧ k = 0) ∨ (y ≠ 0 ∧ ¬ 6 < y ∧ k ≠ 0 ∧ 8 < k) by omega) with e | ⟨e1, e2⟩ | ⟨e1, e2, e3⟩ | ⟨e1, e2, e3, e4⟩
    all_goals
      clear h
      go_enter Try.func30, Try.ntmps30
      go_wp2
      go_ret
      exact ⟨rfl, (Ext.refl w).alloc _⟩
  · have e1 : ¬ y = 0 := by omega
    have e2 : ¬ 6 < y := by omega
    have e3 : ¬ k = 0 := by omega
    have e4 : ¬ 8 < k := by omega
    have e5 : (y == 0) = false := beq_eq_false_iff_ne.2 e1
    have e6 : (k == 0) = false := beq_eq_false_iff_ne.2 e3
    by_cases h8 : k = 8
    · have hV := hv3 h h8
      have HV := Lib.hid hV
      clear hv1 hv2 hv3 h hV e3 e4 e6
      subst h8
      go_enter Try.func30, Try.ntmps30
      go_wp2
      rw [← hW]
      clear c0 c1 c2 c3 c4 e1 e2
      go_loopw [3, 4] (fun x _ wr => ∃ p : Nat, p ≤ 3 ∧ x = .int .i64 ((p : Int) + 1) ∧ Hid (Ext W wr) ∧ Hid (∀ i : Nat, 1 ≤ i → i ≤ p → ¬ (a = i ∧ 1 ≤ b ∧ a + b ≤ 4))) (fun x _ _ => 4 - (intOf x).toNat)
      case atStart => exact ⟨0, by omega, rfl, Lib.hid (Ext.refl W), Lib.hid (fun i h1 h2 => by omega)⟩
      case round =>
        obtain ⟨p, hp, rfl, HX, HN⟩ := hrel
        by_cases hlt : p < 3
        · have p1 : (p : Int) + 1 < 4 := by omega
          go_wp2
          go_loopw [4] (fun x wr => ∃ q : Nat, q ≤ 3 ∧ x = .int .i64 ((q : Int) + 1) ∧ Hid (Ext W wr) ∧ Hid (∀ i : Nat, 1 ≤ i → i ≤ q → ¬ (a = (p : Int) + 1 ∧ b = i ∧ a + b ≤ 4))) (fun x _ => 4 - (intOf x).toNat)
          case atStart => exact ⟨0, by omega, rfl, HX, Lib.hid (fun i h1 h2 => by omega)⟩
          case round =>
            obtain ⟨q, hq, rfl, HX2, HN2⟩ := hrel
            have w1 : IntKind.i64.wrap ((p : Int) + 1 + ((q : Int) + 1)) = (p : Int) + 1 + ((q : Int) + 1) := IntWalk.i64_in _ ⟨by omega, by omega⟩
            by_cases hle : (p : Int) + 1 + ((q : Int) + 1) ≤ 4
            · have hb := HB.out wr (by rw [← hW]; exact HX2.out)
              obtain ⟨c0, c1, c2, c3, c4⟩ := hb
              simp only [Nat.zero_add] at c0 c1 c2 c3 c4
              by_cases ha : a = (p : Int) + 1
              · by_cases hbb : b = (q : Int) + 1
                · have hV := HV.out
                  rw [if_pos (by omega)] at hV
                  have q1 : (a == (p : Int) + 1) = true := by rw [beq_iff_eq]; exact ha
                  have q2 : (b == (q : Int) + 1) = true := by rw [beq_iff_eq]; exact hbb
                  clear ha hbb
                  subst hV
                  go_wp2
                  go_ret
                  exact ⟨rfl, XW.out.trans HX2.out⟩
                · have q1 : (a == (p : Int) + 1) = true := by rw [beq_iff_eq]; exact ha
                  have q2 : (b == (q : Int) + 1) = false := beq_eq_false_iff_ne.2 hbb
                  have HN3 := Lib.hid (show ∀ i : Nat, 1 ≤ i → i ≤ q + 1 → ¬ (a = (p : Int) + 1 ∧ b = i ∧ a + b ≤ 4) from fun i h1 h2 => by
                    by_cases e : i = q + 1
                    · omega
                    · exact HN2.out i h1 (by omega))
                  clear ha hbb
                  go_wp2
                  go_roundw
                  case rel => exact ⟨q + 1, by omega, by go_num, HX2, HN3⟩
                  case measure => simp [intOf]; omega
              · have q1 : (a == (p : Int) + 1) = false := beq_eq_false_iff_ne.2 ha
                have HN3 := Lib.hid (show ∀ i : Nat, 1 ≤ i → i ≤ q + 1 → ¬ (a = (p : Int) + 1 ∧ b = i ∧ a + b ≤ 4) from fun i h1 h2 hh => ha hh.1)
                clear ha
                go_wp2
                go_roundw
                case rel => exact ⟨q + 1, by omega, by go_num, HX2, HN3⟩
                case measure => simp [intOf]; omega
            · have HN3 := Lib.hid (show ∀ i : Nat, 1 ≤ i → i ≤ p + 1 → ¬ (a = i ∧ 1 ≤ b ∧ a + b ≤ 4) from fun i h1 h2 hh => by
                by_cases e : i = p + 1
                · refine HN2.out b.toNat (by omega) (by omega) ⟨by omega, by omega, by omega⟩
                · exact HN.out i h1 (by omega) hh)
              go_wp2
              go_roundw
              case rel => exact ⟨p + 1, by omega, by go_num, HX2, HN3⟩
              case measure => simp [intOf]; omega
        · obtain rfl : p = 3 := by omega
          have hV := HV.out
          rw [if_neg (fun hh => HN.out a.toNat (by omega) (by omega) ⟨by omega, by omega, by omega⟩)] at hV
          subst hV
          go_wp2
          go_ret
          exact ⟨rfl, XW.out.trans HX.out⟩
    · have hV := hv2 h h8
      have e7 : (k == 8) = false := beq_eq_false_iff_ne.2 h8
      clear hv1 hv2 hv3 h HB
      by_cases ha : a = 0
      · by_cases hb : b = 0
        · cases f
          · rw [if_neg (by simp [ha, hb])] at hV
            subst hV
            go_enter Try.func30, Try.ntmps30
            go_wp2
            go_ret
            exact ⟨rfl, (Ext.refl w).alloc _⟩
          · rw [if_pos (by simp)] at hV
            subst hV
            go_enter Try.func30, Try.ntmps30
            go_wp2
            go_ret
            exact ⟨rfl, (Ext.refl w).alloc _⟩
        · rw [if_pos (.inr (.inl hb))] at hV
          have e8 : (b != 0) = true := by rw [bne, beq_eq_false_iff_ne.2 hb]; rfl
          subst hV
          go_enter Try.func30, Try.ntmps30
          go_wp2
          go_ret
          exact ⟨rfl, (Ext.refl w).alloc _⟩
      · rw [if_pos (.inl ha)] at hV
        have e8 : (a != 0) = true := by rw [bne, beq_eq_false_iff_ne.2 ha]; rfl
        subst hV
        go_enter Try.func30, Try.ntmps30
        go_wp2
        go_ret
        exact ⟨rfl, (Ext.refl w).alloc _⟩
end Go.Proofs.Ytlmkcojimhbmiaa
/- ganseyref12.Needs, Makes. -/
namespace Go.Proofs.Ytlmkcojimhbmiaa
set_option linter.unusedVariables false
set_option linter.unusedSimpArgs false
set_option maxRecDepth 8000
open Go Go.RowKit

set_option maxHeartbeats 2000000 in
theorem RNeeds_calls (s : St) (w : World) (hs : 0 ≤ s.k ∧ 0 ≤ s.y) : Calls Try.prog 43 #[s.val] w fun e w' => e = .returned (.int .i64 s.need) ∧ Ext w w' := by
  have HB := Lib.hid (fun w' (x : Ext (w.alloc (.cells #[.int .u8 s.k, .int .u8 s.y, .int .i64 s.a, .int .i64 s.b, .bool s.f] 67)) w') => ((B5.new w s 67).ext x).at)
  have HV := Lib.hid (fun w' => Valid_calls s w' hs)
  have hn : s.need = if s.chk ≠ 0 then 0 else if s.k = 3 then 0 else if s.k = 4 ∨ s.k = 5 then 2 else if s.k = 8 then s.a + s.b else 1 := rfl
  have hk := fun h => (St.chk_ok (s := s) h)
  have hv : s.vld = if s.chk = 0 then 1 else 0 := rfl
  obtain ⟨k, y, a, b, f⟩ := s
  unfold St.val at *
  simp only [] at hn hk HB HV hs ⊢
  generalize St.need ⟨k, y, a, b, f⟩ = N at hn ⊢
  generalize St.vld ⟨k, y, a, b, f⟩ = V at hv HV
  generalize St.chk ⟨k, y, a, b, f⟩ = C at hn hk hv
  by_cases hC : C = 0
  · rw [if_pos hC] at hv
    rw [if_neg (by omega)] at hn
    have hk := hk hC
    subst hv
    clear hC
    by_cases k3 : k = 3
    · rw [if_pos k3] at hn
      subst hn; subst k3
      clear hk
      go_enter Try.func43, Try.ntmps43
      go_wp2_with fail
      refine (HV.out _).mono ?_
      rintro e w1 ⟨rfl, x1⟩
      obtain ⟨c0, c1, c2, c3, c4⟩ := HB.out _ x1
      simp only [Nat.zero_add] at c0 c1 c2 c3 c4
      have X1 := Lib.hid (((Ext.refl w).alloc _).trans x1)
      clear x1 HV HB
      go_wp2
      go_ret
      exact ⟨rfl, X1.out⟩
    rw [if_neg k3] at hn
    have b3 : (k == 3) = false := beq_eq_false_iff_ne.2 k3
    by_cases k8 : k = 8
    · rw [if_neg (by omega), if_pos k8] at hn
      subst hn; subst k8
      have w1 : IntKind.i64.wrap (a + b) = a + b := IntWalk.i64_in _ ⟨by omega, by omega⟩
      clear hk k3 b3
      go_enter Try.func43, Try.ntmps43
      go_wp2_with fail
      refine (HV.out _).mono ?_
      rintro e w1 ⟨rfl, x1⟩
      obtain ⟨c0, c1, c2, c3, c4⟩ := HB.out _ x1
      simp only [Nat.zero_add] at c0 c1 c2 c3 c4
      have X1 := Lib.hid (((Ext.refl w).alloc _).trans x1)
      clear x1 HV HB
      go_wp2
      go_ret
      exact ⟨rfl, X1.out⟩
    have b8 : (k == 8) = false := beq_eq_false_iff_ne.2 k8
    by_cases k45 : k = 4 ∨ k = 5
    · rw [if_pos k45] at hn
      subst hn
      clear hk k3 b3 k8 b8
      rcases k45 with rfl | rfl
      all_goals
        go_enter Try.func43, Try.ntmps43
        go_wp2_with fail
        refine (HV.out _).mono ?_
        rintro e w1 ⟨rfl, x1⟩
        obtain ⟨c0, c1, c2, c3, c4⟩ := HB.out _ x1
        simp only [Nat.zero_add] at c0 c1 c2 c3 c4
        have X1 := Lib.hid (((Ext.refl w).alloc _).trans x1)
        clear x1 HV HB
        go_wp2
        go_ret
        exact ⟨rfl, X1.out⟩
    · rw [if_neg k45, if_neg k8] at hn
      subst hn
      have b4 : (k == 4) = false := beq_eq_false_iff_ne.2 (by omega)
      have b5 : (k == 5) = false := beq_eq_false_iff_ne.2 (by omega)
      clear hk k3 k8 k45
      go_enter Try.func43, Try.ntmps43
      go_wp2_with fail
      refine (HV.out _).mono ?_
      rintro e w1 ⟨rfl, x1⟩
      obtain ⟨c0, c1, c2, c3, c4⟩ := HB.out _ x1
      simp only [Nat.zero_add] at c0 c1 c2 c3 c4
      have X1 := Lib.hid (((Ext.refl w).alloc _).trans x1)
      clear x1 HV HB
      go_wp2
      go_ret
      exact ⟨rfl, X1.out⟩
  · rw [if_neg hC] at hv
    rw [if_pos hC] at hn
    subst hv; subst hn
    clear hC hk
    go_enter Try.func43, Try.ntmps43
    go_wp2_with fail
    refine (HV.out _).mono ?_
    rintro e w1 ⟨rfl, x1⟩
    have X1 := Lib.hid (((Ext.refl w).alloc _).trans x1)
    clear x1 HV HB
    go_wp2
    go_ret
    exact ⟨rfl, X1.out⟩

set_option maxHeartbeats 2000000 in
theorem RMakes_calls (s : St) (w : World) (hs : 0 ≤ s.k ∧ 0 ≤ s.y) : Calls Try.prog 60 #[s.val] w fun e w' => e = .returned (.int .i64 s.make) ∧ Ext w w' := by
  have HB := Lib.hid (fun w' (x : Ext (w.alloc (.cells #[.int .u8 s.k, .int .u8 s.y, .int .i64 s.a, .int .i64 s.b, .bool s.f] 67)) w') => ((B5.new w s 67).ext x).at)
  have HV := Lib.hid (fun w' => Valid_calls s w' hs)
  have hn : s.make = if s.chk ≠ 0 then 0 else if s.k = 8 then s.a + s.b else 1 := rfl
  have hk := fun h => (St.chk_ok (s := s) h)
  have hv : s.vld = if s.chk = 0 then 1 else 0 := rfl
  obtain ⟨k, y, a, b, f⟩ := s
  unfold St.val at *
  simp only [] at hn hk HB HV hs ⊢
  generalize St.make ⟨k, y, a, b, f⟩ = N at hn ⊢
  generalize St.vld ⟨k, y, a, b, f⟩ = V at hv HV
  generalize St.chk ⟨k, y, a, b, f⟩ = C at hn hk hv
  by_cases hC : C = 0
  · rw [if_pos hC] at hv
    rw [if_neg (by omega)] at hn
    have hk := hk hC
    subst hv
    clear hC
    by_cases k8 : k = 8
    · rw [if_pos k8] at hn
      subst hn; subst k8
      have w1 : IntKind.i64.wrap (a + b) = a + b := IntWalk.i64_in _ ⟨by omega, by omega⟩
      clear hk
      go_enter Try.func60, Try.ntmps60
      go_wp2_with fail
      refine (HV.out _).mono ?_
      rintro e w1 ⟨rfl, x1⟩
      obtain ⟨c0, c1, c2, c3, c4⟩ := HB.out _ x1
      simp only [Nat.zero_add] at c0 c1 c2 c3 c4
      have X1 := Lib.hid (((Ext.refl w).alloc _).trans x1)
      clear x1 HV HB
      go_wp2
      go_ret
      exact ⟨rfl, X1.out⟩
    · rw [if_neg k8] at hn
      subst hn
      have b8 : (k == 8) = false := beq_eq_false_iff_ne.2 k8
      clear hk k8
      go_enter Try.func60, Try.ntmps60
      go_wp2_with fail
      refine (HV.out _).mono ?_
      rintro e w1 ⟨rfl, x1⟩
      obtain ⟨c0, c1, c2, c3, c4⟩ := HB.out _ x1
      simp only [Nat.zero_add] at c0 c1 c2 c3 c4
      have X1 := Lib.hid (((Ext.refl w).alloc _).trans x1)
      clear x1 HV HB
      go_wp2
      go_ret
      exact ⟨rfl, X1.out⟩
  · rw [if_neg hC] at hv
    rw [if_pos hC] at hn
    subst hv; subst hn
    clear hC hk
    go_enter Try.func60, Try.ntmps60
    go_wp2_with fail
    refine (HV.out _).mono ?_
    rintro e w1 ⟨rfl, x1⟩
    have X1 := Lib.hid (((Ext.refl w).alloc _).trans x1)
    clear x1 HV HB
    go_wp2
    go_ret
    exact ⟨rfl, X1.out⟩
end Go.Proofs.Ytlmkcojimhbmiaa
