/- Texts of this claim in one file: libraries and walks. -/
import Derived.Lib.OthersKept
import Derived.OwnWalk
import Derived.Test.YthllbcjglcplhaaDoorL2
import Derived.Test.YthllbcjglcplhaaDoorL4
/- Mirror images of charts, in plain Lean: the same errors. -/
namespace Go.Proofs.YthllbcjglcplhaaDoor
set_option linter.unusedVariables false
set_option linter.unusedSimpArgs false
set_option maxRecDepth 8000
open Go Go.RowKit

theorem mir_chk (s : St) : s.mir.chk = s.chk := by
  unfold St.mir
  split
  · rename_i h8
    unfold St.chk
    simp only [h8]
    by_cases h1 : (8 : Int) < 1 ∨ (8 : Int) < 8 ∨ s.y < 1 ∨ 6 < s.y
    · rw [if_pos h1, if_pos h1]
    · rw [if_neg h1, if_neg h1]
      simp only [ne_eq, not_true_eq_false, if_false]
      by_cases h2 : s.b < 1 ∨ 4 < s.b ∨ s.a < 1 ∨ 4 - s.b < s.a
      · rw [if_pos h2, if_pos (by omega)]
      · rw [if_neg h2, if_neg (by omega)]
  · rfl
theorem mir_k (s : St) : s.mir.k = s.k := by unfold St.mir; split <;> rfl
theorem mir_need (s : St) : s.mir.need = s.need := by
  unfold St.need
  rw [mir_chk, mir_k]
  unfold St.mir
  split
  · rfl
  · (repeat' split) <;> first | rfl | (simp only []; omega)
theorem mir_make (s : St) : s.mir.make = s.make := by
  unfold St.make
  rw [mir_chk, mir_k]
  unfold St.mir
  split
  · rfl
  · (repeat' split) <;> first | rfl | (simp only []; omega)
theorem mir_mir (s : St) : s.mir.mir = s := by
  obtain ⟨k, y, a, b, f⟩ := s
  unfold St.mir
  by_cases h : k = 8
  · simp [h]
  · simp [h]
theorem mirR_mirR (l : List St) : mirR (mirR l) = l := by
  unfold mirR
  rw [List.map_reverse, List.reverse_reverse, List.map_map]
  have : ∀ s ∈ l, (St.mir ∘ St.mir) s = id s := fun s _ => mir_mir s
  rw [List.map_congr_left this, List.map_id]
theorem mirC_mirC (l : List (List St)) : mirC (mirC l) = l := by
  unfold mirC
  rw [List.map_map]
  have : ∀ s ∈ l, (mirR ∘ mirR) s = id s := fun s _ => mirR_mirR s
  rw [List.map_congr_left this, List.map_id]
theorem mirR_cons (s : St) (l : List St) : mirR (s :: l) = mirR l ++ [s.mir] := by simp [mirR]
theorem rneed_app2 (a b : List St) : rneed (a ++ b) = rneed a + rneed b := by
  induction a with
  | nil => simp [rneed]
  | cons s a ih => rw [List.cons_append, rneed_cons, rneed_cons, ih]; omega
theorem rmake_app2 (a b : List St) : rmake (a ++ b) = rmake a + rmake b := by
  induction a with
  | nil => simp [rmake]
  | cons s a ih => rw [List.cons_append, rmake_cons, rmake_cons, ih]; omega
theorem mirR_need : ∀ l : List St, rneed (mirR l) = rneed l
  | [] => rfl
  | s :: l => by rw [mirR_cons, rneed_app2, mirR_need l, rneed_cons, rneed_cons, mir_need]; simp [rneed]; omega
theorem mirR_make : ∀ l : List St, rmake (mirR l) = rmake l
  | [] => rfl
  | s :: l => by rw [mirR_cons, rmake_app2, mirR_make l, rmake_cons, rmake_cons, mir_make]; simp [rmake]; omega
theorem mirR_any : ∀ l : List St, (mirR l).any (fun s => decide (s.chk ≠ 0)) = l.any (fun s => decide (s.chk ≠ 0)) := fun l => by
  unfold mirR
  rw [List.any_reverse, List.any_map]
  congr 1
  funext s
  simp only [Function.comp, mir_chk]
theorem mirR_rchk (l : List St) : rchk (mirR l) = rchk l := by
  unfold rchk
  rw [mirR_len, mirR_any, mirR_need, mirR_make]
theorem mirC_ferr : ∀ rows : List (List St), ferr (mirC rows) = ferr rows
  | [] => rfl
  | r :: rs => by
    have ih := mirC_ferr rs
    unfold mirC at ih ⊢
    rw [List.map_cons, ferr, ferr, mirR_rchk, ih]
theorem mirC_fit (rows : List (List St)) : fitB (mirC rows) = fitB rows := by
  rw [Bool.eq_iff_iff]
  unfold fitB
  rw [List.all_eq_true, List.all_eq_true, mirC_len]
  constructor
  · intro h i hi
    have hl := List.mem_range.1 hi
    have := h i hi
    rw [mirC_sw (by omega), mirC_sw (by omega), mirR_need, mirR_make] at this
    exact this
  · intro h i hi
    have hl := List.mem_range.1 hi
    have := h i hi
    rw [mirC_sw (by omega), mirC_sw (by omega), mirR_need, mirR_make]
    exact this
theorem mirC_cerr (rows : List (List St)) : cerr (mirC rows) = cerr rows := by
  unfold cerr
  rw [mirC_len, mirC_ferr, mirC_fit]

/-! ### Loops -/
def Vl (xs : List Int) : Prop := ∀ x ∈ xs, 1 ≤ x ∧ x ≤ 3
theorem Vl.gi {xs : List Int} (h : Vl xs) : ∀ i, i < xs.length → 1 ≤ gi xs i ∧ gi xs i ≤ 3 := fun i hi => h _ (gi_mem hi)
theorem lerr_vals {s : St} {xs : List Int} (hc : s.chk = 0) (hl : (xs.length : Int) = s.need) (hv : Vl xs) : s.lerr xs = 0 ∨ s.lerr xs = 9 := by
  rw [lerr_in hc hl hv.gi]
  (repeat' split) <;> simp
theorem need45 {s : St} (hc : s.chk = 0) (h : s.k = 4 ∨ s.k = 5) : s.need = 2 := by unfold St.need; rw [if_neg (by omega), if_neg (by omega), if_pos h]
theorem need67 {s : St} (hc : s.chk = 0) (h : s.k = 6 ∨ s.k = 7) : s.need = 1 := by unfold St.need; rw [if_neg (by omega), if_neg (by omega), if_neg (by omega), if_neg (by omega)]
theorem two_of {xs : List Int} (h : xs.length = 2) : ∃ x y, xs = [x, y] := by
  match xs, h with
  | [x, y], _ => exact ⟨x, y, rfl⟩
theorem one_of {xs : List Int} (h : xs.length = 1) : ∃ x, xs = [x] := by
  match xs, h with
  | [x], _ => exact ⟨x, rfl⟩
theorem lerr_mir {s : St} {xs : List Int} (hc : s.chk = 0) (hl : (xs.length : Int) = s.need) (hv : Vl xs) : s.mir.lerr xs.reverse = s.lerr xs := by
  have hv' : Vl xs.reverse := fun x hx => hv x (by simpa using hx)
  rw [lerr_in hc hl hv.gi, lerr_in (by rw [mir_chk]; exact hc) (by rw [List.length_reverse, mir_need]; exact hl) hv'.gi, mir_k]
  by_cases h4 : s.k = 4 ∨ s.k = 5
  · rw [if_pos h4, if_pos h4]
    obtain ⟨x, y, rfl⟩ := two_of (xs := xs) (by have := need45 hc h4; omega)
    show (if 4 < y + x then (9 : Int) else 0) = if 4 < x + y then 9 else 0
    rw [Int.add_comm]
  · rw [if_neg h4, if_neg h4]
    by_cases h6 : s.k = 6
    · obtain ⟨x, rfl⟩ := one_of (xs := xs) (by have := need67 hc (.inl h6); omega)
      rfl
    · rw [if_neg (fun h => h6 h.1), if_neg (fun h => h6 h.1)]
theorem lmade_mir {s : St} {xs : List Int} (hc : s.chk = 0) (hl : (xs.length : Int) = s.need) (hv : Vl xs) : s.mir.lmade xs.reverse = (s.lmade xs).reverse := by
  unfold St.lmade
  rw [lerr_mir hc hl hv, mir_k, mir_make]
  by_cases he : s.lerr xs ≠ 0
  · rw [if_pos he, if_pos he]; rfl
  · rw [if_neg he, if_neg he]
    by_cases h6 : s.k = 6
    · rw [if_pos h6, if_pos h6]
      obtain ⟨x, rfl⟩ := one_of (xs := xs) (by have := need67 hc (.inl h6); omega)
      rfl
    · rw [if_neg h6, if_neg h6]
      by_cases h7 : s.k = 7
      · rw [if_pos h7, if_pos h7]
        obtain ⟨x, rfl⟩ := one_of (xs := xs) (by have := need67 hc (.inr h7); omega)
        rfl
      · rw [if_neg h7, if_neg h7, List.reverse_replicate]
theorem lmade_val {s : St} {xs : List Int} (hc : s.chk = 0) (hl : (xs.length : Int) = s.need) (hv : Vl xs) : Vl (s.lmade xs) := by
  have hin := lerr_in hc hl hv.gi
  unfold St.lmade
  by_cases he : s.lerr xs ≠ 0
  · rw [if_pos he]; intro x hx; cases hx
  · rw [if_neg he]
    by_cases h6 : s.k = 6
    · rw [if_pos h6]
      rw [if_neg (by omega)] at hin
      have hg := hv.gi 0 (by have := need67 hc (.inl h6); omega)
      by_cases h3 : gi xs 0 = 3
      · rw [if_pos ⟨h6, h3⟩] at hin; omega
      · intro x hx
        rw [List.mem_singleton.1 hx]; omega
    · rw [if_neg h6]
      by_cases h7 : s.k = 7
      · rw [if_pos h7]
        have hg := hv.gi 0 (by have := need67 hc (.inr h7); omega)
        intro x hx
        rw [List.mem_singleton.1 hx]; omega
      · rw [if_neg h7]
        intro x hx
        rw [List.eq_of_mem_replicate hx]; omega
/-- The loops behind a row, if it can be worked. -/
def lo : List St → List Int → Option (List Int)
  | [], _ => some []
  | s :: r, bf => if s.lerr (bf.take s.need.toNat) ≠ 0 then none else (lo r (bf.drop s.need.toNat)).map (s.lmade (bf.take s.need.toNat) ++ ·)
theorem take_app {b1 b2 : List Int} {n : Nat} (h : b1.length = n) : (b1 ++ b2).take n = b1 ∧ (b1 ++ b2).drop n = b2 := by
  subst h; simp
theorem lo_app : ∀ (r1 r2 : List St) (b1 b2 : List Int), (b1.length : Int) = rneed r1 → lo (r1 ++ r2) (b1 ++ b2) = (lo r1 b1).bind fun o1 => (lo r2 b2).map (o1 ++ ·)
  | [], r2, b1, b2, h => by
    have h0 : b1 = [] := List.eq_nil_of_length_eq_zero (by have : rneed [] = 0 := rfl; omega)
    subst h0
    simp only [List.nil_append, lo, Option.bind_some]
    cases lo r2 b2 <;> simp
  | s :: r1, r2, b1, b2, h => by
    rw [rneed_cons] at h
    have hn := St.need_bd s
    have hr := (rneed_bd r1).1
    have ht : (b1 ++ b2).take s.need.toNat = b1.take s.need.toNat := List.take_append_of_le_length (by omega)
    have hd : (b1 ++ b2).drop s.need.toNat = b1.drop s.need.toNat ++ b2 := List.drop_append_of_le_length (by omega)
    rw [List.cons_append, lo, lo, ht, hd]
    by_cases he : s.lerr (b1.take s.need.toNat) ≠ 0
    · rw [if_pos he, if_pos he]; rfl
    · rw [if_neg he, if_neg he, lo_app r1 r2 (b1.drop s.need.toNat) b2 (by rw [List.length_drop]; omega)]
      cases lo r1 (b1.drop s.need.toNat) with
      | none => rfl
      | some o1 =>
        cases lo r2 b2 with
        | none => rfl
        | some o2 => simp
theorem Vl.take {xs : List Int} (h : Vl xs) (n : Nat) : Vl (xs.take n) := fun x hx => h x (List.mem_of_mem_take hx)
theorem Vl.drop {xs : List Int} (h : Vl xs) (n : Nat) : Vl (xs.drop n) := fun x hx => h x (List.mem_of_mem_drop hx)
theorem lo_mir : ∀ (r : List St) (bf : List Int), (∀ s ∈ r, s.chk = 0) → (bf.length : Int) = rneed r → Vl bf → lo (mirR r) bf.reverse = (lo r bf).map List.reverse
  | [], bf, _, _, _ => rfl
  | s :: r, bf, hc, hl, hv => by
    rw [rneed_cons] at hl
    have hn := St.need_bd s
    have hr := (rneed_bd r).1
    have hcs := hc s (by simp)
    obtain ⟨b1, hb1⟩ : ∃ b1, b1 = bf.take s.need.toNat := ⟨_, rfl⟩
    obtain ⟨b2, hb2⟩ : ∃ b2, b2 = bf.drop s.need.toNat := ⟨_, rfl⟩
    have hbf : bf = b1 ++ b2 := by rw [hb1, hb2, List.take_append_drop]
    have hl1 : (b1.length : Int) = s.need := by rw [hb1, List.length_take]; omega
    have hl2 : (b2.length : Int) = rneed r := by rw [hb2, List.length_drop]; omega
    have hv1 : Vl b1 := by rw [hb1]; exact hv.take _
    have hv2 : Vl b2 := by rw [hb2]; exact hv.drop _
    have ih := lo_mir r b2 (fun x hx => hc x (by simp [hx])) hl2 hv2
    have hone : lo [s.mir] b1.reverse = if s.lerr b1 ≠ 0 then none else some (s.lmade b1).reverse := by
      have ht : b1.reverse.take s.mir.need.toNat = b1.reverse := List.take_of_length_le (by rw [List.length_reverse, mir_need]; omega)
      rw [lo, ht, lerr_mir hcs hl1 hv1, lmade_mir hcs hl1 hv1]
      by_cases he : s.lerr b1 ≠ 0
      · rw [if_pos he, if_pos he]
      · rw [if_neg he, if_neg he, lo]; simp
    rw [mirR_cons, hbf, List.reverse_append, lo_app _ _ _ _ (by rw [List.length_reverse, mirR_need]; exact hl2), ih, hone, lo]
    obtain ⟨ht, hd⟩ := take_app (b1 := b1) (b2 := b2) (n := s.need.toNat) (by omega)
    rw [ht, hd]
    by_cases he : s.lerr b1 ≠ 0
    · rw [if_pos he, if_pos he]; cases lo r b2 <;> rfl
    · rw [if_neg he, if_neg he]
      cases lo r b2 with
      | none => rfl
      | some o => simp
theorem lo_some : ∀ (r : List St) (bf o : List Int), (∀ s ∈ r, s.chk = 0) → (bf.length : Int) = rneed r → Vl bf → lo r bf = some o → Vl o ∧ (o.length : Int) = rmake r
  | [], bf, o, _, _, _, h => by
    rw [lo] at h
    obtain rfl := Option.some.inj h
    exact ⟨fun x hx => by (cases hx), rfl⟩
  | s :: r, bf, o, hc, hl, hv, h => by
    rw [rneed_cons] at hl
    have hn := St.need_bd s
    have hm := St.make_bd s
    have hr := (rneed_bd r).1
    have hcs := hc s (by simp)
    have hl1 : ((bf.take s.need.toNat).length : Int) = s.need := by rw [List.length_take]; omega
    rw [lo] at h
    by_cases he : s.lerr (bf.take s.need.toNat) ≠ 0
    · rw [if_pos he] at h; cases h
    · rw [if_neg he] at h
      obtain ⟨o2, ho2, rfl⟩ := Option.map_eq_some_iff.1 h
      obtain ⟨i1, i2⟩ := lo_some r _ o2 (fun x hx => hc x (by simp [hx])) (by rw [List.length_drop]; omega) (hv.drop _) ho2
      have hml := lmade_len (s := s) (xs := bf.take s.need.toNat) (by omega)
      refine ⟨fun x hx => ?_, by rw [List.length_append, rmake_cons]; omega⟩
      rcases List.mem_append.1 hx with hx | hx
      · exact lmade_val hcs hl1 (hv.take _) x hx
      · exact i1 x hx
theorem ldRow_lo : ∀ (r : List St) (bf acc : List Int), (∀ s ∈ r, s.chk = 0) → (bf.length : Int) = rneed r → Vl bf → ldRow r bf acc = match lo r bf with | some o => (0, acc ++ o) | none => (9, [])
  | [], bf, acc, _, _, _ => by rw [ldRow, lo]; simp
  | s :: r, bf, acc, hc, hl, hv => by
    rw [rneed_cons] at hl
    have hn := St.need_bd s
    have hr := (rneed_bd r).1
    have hcs := hc s (by simp)
    have hl1 : ((bf.take s.need.toNat).length : Int) = s.need := by rw [List.length_take]; omega
    have hev := lerr_vals hcs hl1 (hv.take _)
    rw [ldRow, lo]
    by_cases he : s.lerr (bf.take s.need.toNat) ≠ 0
    · rw [if_pos he, if_pos he]
      have : s.lerr (bf.take s.need.toNat) = 9 := by omega
      rw [this]
    · rw [if_neg he, if_neg he, ldRow_lo r _ _ (fun x hx => hc x (by simp [hx])) (by rw [List.length_drop]; omega) (hv.drop _)]
      cases lo r (bf.drop s.need.toNat) <;> simp
/-- Whether the rows can be worked one behind the other. -/
def lr : List (List St) → List Int → Bool
  | [], _ => true
  | r :: rs, bf => match lo r bf with
    | none => false
    | some o => lr rs o
/-- The rows fit on one another. -/
def FT : List (List St) → Nat → Prop
  | [], _ => True
  | r :: rs, n => (n : Int) = rneed r ∧ (∀ s ∈ r, s.chk = 0) ∧ FT rs (rmake r).toNat
theorem lr_mir : ∀ (rs : List (List St)) (bf : List Int), FT rs bf.length → Vl bf → lr (mirC rs) bf.reverse = lr rs bf
  | [], _, _, _ => rfl
  | r :: rs, bf, ⟨h1, h2, h3⟩, hv => by
    have hm : mirC (r :: rs) = mirR r :: mirC rs := rfl
    rw [hm, lr, lr, lo_mir r bf h2 h1 hv]
    cases ho : lo r bf with
    | none => rfl
    | some o =>
      obtain ⟨i1, i2⟩ := lo_some r bf o h2 h1 hv ho
      exact lr_mir rs o (by rw [show o.length = (rmake r).toNat by omega]; exact h3) i1
theorem ldRows_lr : ∀ (rs : List (List St)) (bf : List Int) (acc : List (List Int)), FT rs bf.length → Vl bf → (ldRows rs bf acc).1 = if lr rs bf then 0 else 9
  | [], _, _, _, _ => rfl
  | r :: rs, bf, acc, ⟨h1, h2, h3⟩, hv => by
    rw [ldRows, lr, ldRow_lo r bf [] h2 h1 hv]
    cases ho : lo r bf with
    | none => simp
    | some o =>
      obtain ⟨i1, i2⟩ := lo_some r bf o h2 h1 hv ho
      simp only [ne_eq, not_true_eq_false, if_false, List.nil_append]
      exact ldRows_lr rs o _ (by rw [show o.length = (rmake r).toNat by omega]; exact h3) i1
theorem FT_of {rows : List (List St)} (h : cerr rows = 0) : ∀ (d k n : Nat), rows.length - k = d → (k < rows.length → (n : Int) = rneed (sw rows k)) → FT (rows.drop k) n
  | 0, k, n, hd, _ => by rw [List.drop_eq_nil_of_le (by omega)]; exact trivial
  | d + 1, k, n, hd, hn => by
    obtain ⟨r1, r2, r3, r4⟩ := cerr_zero h
    rw [drop_sw (show k < rows.length by omega)]
    have hz := rchk_zero (r3 k (by omega))
    refine ⟨hn (by omega), fun s hs => ?_, FT_of h d (k + 1) _ (by omega) (fun hk => ?_)⟩
    · obtain ⟨i, hi, rfl⟩ := List.mem_iff_getElem.1 hs
      have := hz.2.2.1 i hi
      rwa [si_of_lt hi] at this
    · rw [r4 k hk]
      have := hz.2.2.2.2.2.1
      omega
theorem first_val (rows : List (List St)) : Vl (first rows) := fun x hx => by
  unfold first at hx
  rw [List.eq_of_mem_replicate hx]; omega
/-- The error of a chart without an error of its rows. -/
theorem cloads_lr {rows : List (List St)} (h : cerr rows = 0) : (cloads rows).1 = if lr rows (first rows) then 0 else 9 := by
  have hc := h
  unfold cloads
  rw [if_neg (by omega)]
  have hl : (first rows).length = (rneed (sw rows 0)).toNat := by unfold first; simp
  have hn := (rneed_bd (sw rows 0)).1
  exact ldRows_lr rows _ _ (by rw [hl]; exact FT_of h rows.length 0 _ (by omega) (fun _ => by omega)) (first_val rows)
theorem cloads_mir {rows : List (List St)} (h : cerr rows = 0) : (cloads (mirC rows)).1 = (cloads rows).1 := by
  have hm : cerr (mirC rows) = 0 := by rw [mirC_cerr]; exact h
  obtain ⟨r1, r2, r3, r4⟩ := cerr_zero h
  rw [cloads_lr h, cloads_lr hm]
  have hl : (first rows).length = (rneed (sw rows 0)).toNat := by unfold first; simp
  have hn := (rneed_bd (sw rows 0)).1
  have hf : first (mirC rows) = (first rows).reverse := by
    unfold first
    rw [mirC_sw (by omega), mirR_need, List.reverse_replicate]
  rw [hf, lr_mir rows (first rows) (by rw [hl]; exact FT_of h rows.length 0 _ (by omega) (fun _ => by omega)) (first_val rows)]
theorem mir_err (rows : List (List St)) : (cloads (mirC rows)).1 = (cloads rows).1 := by
  by_cases h : cerr rows = 0
  · exact cloads_mir h
  · unfold cloads
    rw [mirC_cerr, if_pos h, if_pos h]
end Go.Proofs.YthllbcjglcplhaaDoor
/- Laces in plain Lean: the reference's way to fill a row; a valid lace has a valid chart. -/
namespace Go.Proofs.YthllbcjglcplhaaDoor
set_option linter.unusedVariables false
set_option linter.unusedSimpArgs false
set_option maxRecDepth 8000

theorem gi_set {s : List Int} {i j : Nat} {x : Int} (hi : i < s.length) : gi (s.set i x) j = if j = i then x else gi s j := by
  unfold gi
  by_cases h : j = i
  · subst h; simp [List.getD, hi]
  · rw [if_neg h]
    simp only [List.getD]
    rw [List.getElem?_set_ne (by omega)]
theorem gi_rep {n i : Nat} {x : Int} (hi : i < n) : gi (List.replicate n x) i = x := by unfold gi; simp [List.getD, hi]
theorem gi_put1 {s : List Int} {h : Ho} {j : Nat} (h1 : h.p.toNat < s.length) (h2 : h.two.toNat < s.length) : gi (put1 s h) j = if j = h.two.toNat then 47 else if j = h.p.toNat then 79 else gi s j := by
  unfold put1
  rw [gi_set (by simpa using h2), gi_set h1]
/-- What the reference asks of hole k. -/
def Ho.rok (W : Nat) (r : List Ho) (k : Nat) (s : List Int) : Prop :=
  (0 ≤ (oi r k).p ∧ (oi r k).p < W) ∧ (0 < k → (oi r (k - 1)).p < (oi r k).p) ∧ (0 ≤ (oi r k).two ∧ (oi r k).two < W) ∧ gi s (oi r k).p.toNat = 46 ∧ gi s (oi r k).two.toNat = 46
/-- The first k holes fit; slot f is the next one. -/
structure Pre (W : Nat) (r : List Ho) (k f : Nat) : Prop where
  le : f ≤ W
  go : rowE W r 0 = rowE W (r.drop k) f
  free : ∀ j, f ≤ j → j < W → gi (sgn W (r.take k)) j = 46
  prev : 0 < k → 2 ≤ f ∧ (oi r (k - 1)).fst = f - 2 ∧ gi (sgn W (r.take k)) (f - 2) ≠ 46 ∧ gi (sgn W (r.take k)) (f - 1) ≠ 46
theorem Pre.start (W : Nat) (r : List Ho) : Pre W r 0 0 := ⟨Nat.zero_le _, rfl, fun j _ hj => by
  rw [List.take_zero]; exact gi_rep hj, fun h => by omega⟩
theorem Pre.iff {W k f : Nat} {r : List Ho} (h : Pre W r k f) (hz : k = 0 → f = 0) : Ho.rok W r k (sgn W (r.take k)) ↔ (oi r k).ok W f := by
  have hl := (oi r k).two_lst
  constructor
  · rintro ⟨⟨a1, a2⟩, a3, ⟨a4, a5⟩, a6, a7⟩
    have hfst : (f : Int) ≤ (oi r k).fst := by
      by_cases h0 : k = 0
      · have := hz h0
        rcases Bool.eq_false_or_eq_true (oi r k).l with e | e
        · have := hl.1 e; omega
        · have := hl.2 e; omega
      · obtain ⟨p1, p2, p3, p4⟩ := h.prev (by omega)
        have a3' := a3 (by omega)
        have hl' := (oi r (k - 1)).two_lst
        have hp' : (f : Int) - 2 ≤ (oi r (k - 1)).p := by
          rcases Bool.eq_false_or_eq_true (oi r (k - 1)).l with e | e
          · have := hl'.1 e; omega
          · have := hl'.2 e; omega
        have b1 : (oi r k).p ≠ ((f - 2 : Nat) : Int) := fun e => p3 (by rw [← a6]; congr 1; omega)
        have b2 : (oi r k).p ≠ ((f - 1 : Nat) : Int) := fun e => p4 (by rw [← a6]; congr 1; omega)
        have b3 : (oi r k).two ≠ ((f - 1 : Nat) : Int) := fun e => p4 (by rw [← a7]; congr 1; omega)
        rcases Bool.eq_false_or_eq_true (oi r k).l with e | e
        · have := hl.1 e; omega
        · have := hl.2 e; omega
    refine ⟨a1, a2, hfst, ?_⟩
    unfold Ho.lst
    rcases Bool.eq_false_or_eq_true (oi r k).l with e | e
    · have := hl.1 e; omega
    · have := hl.2 e; omega
  · rintro ⟨a1, a2, a3, a4⟩
    unfold Ho.lst at a4
    have hpt : (f : Int) ≤ (oi r k).p ∧ (f : Int) ≤ (oi r k).two ∧ (oi r k).two < W := by
      rcases Bool.eq_false_or_eq_true (oi r k).l with e | e
      · have := hl.1 e; omega
      · have := hl.2 e; omega
    refine ⟨⟨a1, a2⟩, fun h0 => ?_, ⟨by omega, hpt.2.2⟩, h.free _ (by omega) (by omega), h.free _ (by omega) (by omega)⟩
    obtain ⟨p1, p2, p3, p4⟩ := h.prev h0
    have hl' := (oi r (k - 1)).two_lst
    rcases Bool.eq_false_or_eq_true (oi r (k - 1)).l with e | e
    · have := hl'.1 e; omega
    · have := hl'.2 e; omega
theorem Pre.step {W k f : Nat} {r : List Ho} (h : Pre W r k f) (hk : k < r.length) (hh : (oi r k).ok W f) : Pre W r (k + 1) ((oi r k).fst.toNat + 2) := by
  have hl := (oi r k).two_lst
  have hh' := hh
  obtain ⟨a1, a2, a3, a4⟩ := hh
  unfold Ho.lst at a4
  have hs : sgn W (r.take (k + 1)) = put1 (sgn W (r.take k)) (oi r k) := by rw [take_succ_oi hk, sgn_snoc]
  have hpt : (f : Int) ≤ (oi r k).p ∧ (f : Int) ≤ (oi r k).two ∧ (oi r k).two < W ∧ ((oi r k).p = (oi r k).fst ∧ (oi r k).two = (oi r k).fst + 1 ∨ (oi r k).p = (oi r k).fst + 1 ∧ (oi r k).two = (oi r k).fst) := by
    rcases Bool.eq_false_or_eq_true (oi r k).l with e | e
    · have := hl.1 e; omega
    · have := hl.2 e; omega
  have hg := fun j => gi_put1 (s := sgn W (r.take k)) (h := oi r k) (j := j) (by rw [sgn_len]; omega) (by rw [sgn_len]; omega)
  refine ⟨by omega, ?_, fun j h1 h2 => ?_, fun _ => ⟨by omega, ?_, ?_, ?_⟩⟩
  · rw [h.go, rowE_next hk hh']
    congr 1
    unfold Ho.lst; omega
  · rw [hs, hg, if_neg (by omega), if_neg (by omega)]
    exact h.free j (by omega) h2
  · rw [Nat.add_sub_cancel]; omega
  · rw [hs, hg]
    split
    · decide
    · rw [if_pos (by omega)]; decide
  · rw [hs, hg]
    split
    · decide
    · rw [if_pos (by omega)]; decide

/-! ### The chart of a lace is valid -/
/-- A stitch of lace. -/
def Lc (s : St) : Prop := s.chk = 0 ∧ (s.k = 1 ∨ s.k = 3 ∨ s.k = 4)
theorem lc_sg {y c : Int} (hy : 1 ≤ y ∧ y ≤ 6) : Lc (sgSt y c) := by
  have h : ∀ k, (k = 1 ∨ k = 3 ∨ k = 4) → Lc ⟨k, y, 0, 0, false⟩ := fun k hk => ⟨by
    unfold St.chk
    simp only []
    rw [if_neg (by omega), if_pos (by omega), if_neg (by simp)], hk⟩
  unfold sgSt
  apply h
  split
  · omega
  · split <;> omega
theorem Lc.need {s : St} (h : Lc s) : s.need = if s.k = 3 then 0 else if s.k = 4 then 2 else 1 := by
  obtain ⟨h1, h2⟩ := h
  unfold St.need
  rw [if_neg (by omega)]
  rcases h2 with h2 | h2 | h2 <;> rw [h2] <;> rfl
theorem Lc.make {s : St} (h : Lc s) : s.make = 1 := by
  obtain ⟨h1, h2⟩ := h
  unfold St.make
  rw [if_neg (by omega), if_neg (by omega)]
theorem lc_make : ∀ {r : List St}, (∀ s ∈ r, Lc s) → rmake r = r.length
  | [], _ => rfl
  | s :: r, h => by
    rw [rmake_cons, (h s (by simp)).make, lc_make (fun x hx => h x (by simp [hx]))]
    simp; omega
theorem rep_drop (n m : Nat) (x : Int) : (List.replicate n x).drop m = List.replicate (n - m) x := by simp
theorem lc_lo : ∀ {r : List St} (n : Nat), (∀ s ∈ r, Lc s) → rneed r = n → lo r (List.replicate n 1) = some (List.replicate r.length 1)
  | [], n, _, hn => by
    have : rneed [] = 0 := rfl
    rw [lo]; rfl
  | s :: r, n, h, hn => by
    have hs := h s (by simp)
    have hc := hs
    obtain ⟨h1, h2⟩ := hc
    rw [rneed_cons] at hn
    have hr := (rneed_bd r).1
    have hnd := hs.need
    have hmk := hs.make
    have hnn := (St.need_bd s).1
    obtain ⟨m, hm⟩ : ∃ m : Nat, s.need = m := ⟨s.need.toNat, by omega⟩
    have hle : m ≤ n := by omega
    have ht : (List.replicate n (1 : Int)).take m = List.replicate m 1 := by rw [List.take_replicate, Nat.min_eq_left hle]
    have he : s.lerr (List.replicate m 1) = 0 := by
      rw [lerr_in h1 (by simp; omega) (fun i hi => by rw [gi_rep (by simpa using hi)]; omega)]
      by_cases e4 : s.k = 4
      · rw [if_pos (.inl e4)]
        rw [e4, if_neg (by decide), if_pos rfl] at hnd
        obtain rfl : m = 2 := by omega
        rfl
      · rw [if_neg (by omega), if_neg (by omega)]
    rw [lo, hm, Int.toNat_natCast, ht, if_neg (by omega), rep_drop, lc_lo (n - m) (fun x hx => h x (by simp [hx])) (by omega)]
    have hmd : s.lmade (List.replicate m 1) = [1] := by
      unfold St.lmade
      rw [if_neg (by omega), if_neg (by omega), if_neg (by omega), hmk]
      rfl
    rw [hmd]; rfl
theorem lc_lr : ∀ {rows : List (List St)} (n : Nat), (∀ r ∈ rows, r.length = n ∧ rneed r = n ∧ ∀ s ∈ r, Lc s) → lr rows (List.replicate n 1) = true
  | [], _, _ => rfl
  | r :: rs, n, h => by
    obtain ⟨h1, h2, h3⟩ := h r (by simp)
    rw [lr, lc_lo n h3 h2, h1]
    exact lc_lr n (fun x hx => h x (by simp [hx]))
theorem lc_ok {rows : List (List St)} {n : Nat} (hn : 1 ≤ n ∧ n ≤ 16) (h1 : rows.length ≤ 31) (h2 : rows.length % 2 = 1) (h : ∀ r ∈ rows, r.length = n ∧ rneed r = n ∧ ∀ s ∈ r, Lc s) : (cloads rows).1 = 0 := by
  have hsw : ∀ i, i < rows.length → sw rows i ∈ rows := fun i hi => by rw [sw_of_lt hi]; exact List.getElem_mem hi
  have hc : cerr rows = 0 := cerr_ok h1 h2 (fun i hi => by
    obtain ⟨a, b, c⟩ := h _ (hsw i hi)
    have d := lc_make c
    rw [rchk_sum (by omega) (by omega) (fun j hj => (c _ (si_mem hj)).1), if_neg (by omega)]) (fun k hk => by
    obtain ⟨a, b, c⟩ := h _ (hsw (k + 1) hk)
    obtain ⟨a', b', c'⟩ := h _ (hsw k (by omega))
    rw [b, lc_make c', a'])
  have hf : first rows = List.replicate n 1 := by
    unfold first
    rw [(h _ (hsw 0 (by omega))).2.1]; simp
  rw [cloads_lr hc, hf, if_pos (lc_lr n h)]
theorem map_sg_need {y : Int} (hy : 1 ≤ y ∧ y ≤ 6) (W : Nat) : ∀ (r : List Ho) (f : Nat), f ≤ W → rowE W r f = true → rneed ((sgF W f r).map (sgSt y)) = ((W - f : Nat) : Int)
  | [], f, _, _ => by
    unfold sgF
    rw [List.map_replicate]
    generalize W - f = n
    induction n with
    | zero => rfl
    | succ n ih =>
      rw [List.replicate_succ, rneed_cons, ih, (lc_sg hy).need]
      show (1 : Int) + n = _; omega
  | h :: t, f, hf, e => by
    obtain ⟨h1, h2⟩ := rowE_cons.1 e
    obtain ⟨b1, b2, b3, b4⟩ := h1
    unfold Ho.lst at b4 h2
    have ih := map_sg_need hy W t (h.fst.toNat + 2) (by omega) (by rw [show ((h.fst.toNat + 2 : Nat) : Int) = h.fst + 1 + 1 by omega]; exact h2)
    have hdots : ∀ (n : Nat) (l : List St), rneed ((List.replicate n (46 : Int)).map (sgSt y) ++ l) = n + rneed l := fun n l => by
      induction n with
      | zero => simp
      | succ n ih =>
        rw [List.replicate_succ, List.map_cons, List.cons_append, rneed_cons, ih, (lc_sg hy).need]
        show (1 : Int) + (n + rneed l) = _; omega
    unfold sgF
    rw [List.map_append, hdots]
    have hpair : rneed (((if h.l then [47, 79] else [79, 47]) ++ sgF W (h.fst.toNat + 2) t).map (sgSt y)) = 2 + rneed ((sgF W (h.fst.toNat + 2) t).map (sgSt y)) := by
      cases h.l
      · simp only [Bool.false_eq_true, if_false, List.cons_append, List.nil_append, List.map_cons, rneed_cons]
        rw [(lc_sg hy).need, (lc_sg hy).need]
        show (0 : Int) + (2 + _) = _; omega
      · simp only [if_true, List.cons_append, List.nil_append, List.map_cons, rneed_cons]
        rw [(lc_sg hy).need, (lc_sg hy).need]
        show (2 : Int) + (0 + _) = _; omega
    rw [hpair, ih]
    omega
theorem lrow_need {W : Nat} {y : Int} {r : List Ho} (hy : 1 ≤ y ∧ y ≤ 6) (h : rowE W r 0 = true) : rneed (lrow W y r) = W := by
  unfold lrow; rw [sgn_sgF h, map_sg_need hy W r 0 (Nat.zero_le _) h]; simp
theorem lrow_lc {W : Nat} {y : Int} {r : List Ho} (hy : 1 ≤ y ∧ y ≤ 6) : ∀ s ∈ lrow W y r, Lc s := fun s hs => by
  unfold lrow at hs
  obtain ⟨c, _, rfl⟩ := List.mem_map.1 hs
  exact lc_sg hy
/-- The chart of a valid lace is valid. -/
theorem lch_ok {W : Nat} {y : Int} {rows : List (List Ho)} (hy : 1 ≤ y ∧ y ≤ 6) (h : lchk W rows = 0) : (cloads (lch W y rows)).1 = 0 := by
  obtain ⟨h1, h2, h3, h4, h5⟩ := lchk_zero h
  refine lc_ok (n := W) (by omega) (by rw [lch_len]; exact h1) (by rw [lch_len]; exact h4) (fun r hr => ?_)
  obtain ⟨i, hi, rfl⟩ := List.mem_iff_getElem.1 hr
  rw [lch_len] at hi
  have e := lch_sw (W := W) (y := y) hi
  rw [sw_of_lt (by rw [lch_len]; exact hi)] at e
  rw [e]
  exact ⟨lrow_len _ _ _, lrow_need hy (h5 i hi), lrow_lc hy⟩
end Go.Proofs.YthllbcjglcplhaaDoor
/- Laces in plain Lean: which charts are charts of laces. -/
namespace Go.Proofs.YthllbcjglcplhaaDoor
set_option linter.unusedVariables false
set_option linter.unusedSimpArgs false
set_option maxRecDepth 8000

/-- The sign of a kind, as the program writes it. -/
def kSg (k : Int) : Int := if k = 3 then 79 else if k = 4 then 47 else if k = 1 then 46 else 63
/-- .. as the law writes it. -/
def kSg2 (k : Int) : Int := if k = 4 then 47 else if k = 3 then 79 else 46
def lineP (r : List St) : List Int := r.map fun s => kSg s.k
def lineL (r : List St) : List Int := r.map fun s => kSg2 s.k
/-- The chart of a lace with that yarn. -/
def IsL (rows : List (List St)) (W : Nat) (y : Int) (hs : List (List Ho)) : Prop := lchk W hs = 0 ∧ rows = lch W y hs
theorem sg_sgn_mem {W : Nat} {r : List Ho} : ∀ c ∈ sgn W r, c = 46 ∨ c = 79 ∨ c = 47 := by
  unfold sgn
  have : ∀ (r : List Ho) (s : List Int), (∀ c ∈ s, c = 46 ∨ c = 79 ∨ c = 47) → ∀ c ∈ r.foldl put1 s, c = 46 ∨ c = 79 ∨ c = 47 := by
    intro r
    induction r with
    | nil => intro s h; exact h
    | cons h t ih =>
      intro s hs
      rw [List.foldl_cons]
      refine ih _ fun c hc => ?_
      unfold put1 at hc
      rcases List.mem_or_eq_of_mem_set hc with hc | hc
      · rcases List.mem_or_eq_of_mem_set hc with hc | hc
        · exact hs c hc
        · exact .inr (.inl hc)
      · exact .inr (.inr hc)
  exact this r _ fun c hc => .inl (List.eq_of_mem_replicate hc)
theorem lineP_lrow (W : Nat) (y : Int) (r : List Ho) : lineP (lrow W y r) = sgn W r := by
  unfold lineP lrow
  rw [List.map_map]
  conv => rhs; rw [← List.map_id (sgn W r)]
  refine List.map_congr_left fun c hc => ?_
  rcases sg_sgn_mem c hc with rfl | rfl | rfl <;> rfl
theorem lineL_lrow (W : Nat) (y : Int) (r : List Ho) : lineL (lrow W y r) = sgn W r := by
  unfold lineL lrow
  rw [List.map_map]
  conv => rhs; rw [← List.map_id (sgn W r)]
  refine List.map_congr_left fun c hc => ?_
  rcases sg_sgn_mem c hc with rfl | rfl | rfl <;> rfl
/-- The rows of such a chart read as the holes. -/
theorem IsL.rd {rows : List (List St)} {W : Nat} {y : Int} {hs : List (List Ho)} (h : IsL rows W y hs) : rows.length = hs.length ∧ ∀ i, i < rows.length → rdL 0 (lineP (sw rows i)) = some (ow hs i) ∧ rdL 0 (lineL (sw rows i)) = some (ow hs i) ∧ (sw rows i).length = W ∧ (∀ s ∈ sw rows i, s.y = y ∧ (s.k = 1 ∨ s.k = 3 ∨ s.k = 4)) := by
  obtain ⟨h1, rfl⟩ := h
  rw [lch_len]
  refine ⟨rfl, fun i hi => ?_⟩
  have hv := (lchk_zero h1).2.2.2.2 i hi
  rw [lch_sw hi, lineP_lrow, lineL_lrow, rdL_sgn hv]
  refine ⟨rfl, rfl, lrow_len _ _ _, fun s hs => ?_⟩
  unfold lrow at hs
  obtain ⟨c, hc, rfl⟩ := List.mem_map.1 hs
  rcases sg_sgn_mem c hc with rfl | rfl | rfl
  · exact ⟨rfl, .inl rfl⟩
  · exact ⟨rfl, .inr (.inl rfl)⟩
  · exact ⟨rfl, .inr (.inr rfl)⟩
theorem IsL.need {rows : List (List St)} {W : Nat} {y : Int} {hs : List (List Ho)} (h : IsL rows W y hs) (hy : 1 ≤ y ∧ y ≤ 6) : rneed (sw rows 0) = W := by
  obtain ⟨h1, rfl⟩ := h
  obtain ⟨r1, r2, r3, r4, r5⟩ := lchk_zero h1
  rw [lch_sw (by omega), lrow_need hy (r5 0 (by omega))]
/-- The holes are those that the rows read as. -/
theorem IsL.uniq {rows : List (List St)} {W W' : Nat} {y y' : Int} {hs hs' : List (List Ho)} (h : IsL rows W y hs) (hl : hs'.length = rows.length) (hr : ∀ i, i < rows.length → rdL 0 (lineP (sw rows i)) = some (ow hs' i)) : hs = hs' := by
  obtain ⟨a, b⟩ := h.rd
  refine ow_ext (by omega) fun i hi => ?_
  have := (b i (by omega)).1
  rw [hr i (by omega)] at this
  exact (Option.some.inj this).symm
/-- What the law finds out. -/
theorem IsL.of {rows : List (List St)} {W : Nat} {y : Int} {hs : List (List Ho)} (hc : ∀ i, i < rows.length → ∀ s ∈ sw rows i, s.chk = 0) (hl : hs.length = rows.length) (hr : ∀ i, i < rows.length → rdL 0 (lineL (sw rows i)) = some (ow hs i) ∧ (sw rows i).length = W ∧ (∀ s ∈ sw rows i, s.y = y ∧ (s.k = 1 ∨ s.k = 3 ∨ s.k = 4))) (hk : lchk W hs = 0) : IsL rows W y hs := by
  refine ⟨hk, ?_⟩
  have hsw : ∀ i, i < rows.length → sw rows i = lrow W y (ow hs i) := fun i hi => by
    obtain ⟨a, b, c⟩ := hr i hi
    obtain ⟨d, e⟩ := rdL_back0 a
    have hll : (lineL (sw rows i)).length = W := by unfold lineL; rw [List.length_map]; exact b
    rw [hll] at e
    unfold lrow
    rw [e]
    unfold lineL
    rw [List.map_map]
    conv => lhs; rw [← List.map_id (sw rows i)]
    refine List.map_congr_left fun s hs => ?_
    obtain ⟨c1, c2⟩ := c s hs
    have c3 := St.chk_ok (hc i hi s hs)
    obtain ⟨k, y', a', b', f'⟩ := s
    simp only at c1 c2 c3
    have : k ≠ 8 ∧ a' = 0 ∧ b' = 0 ∧ f' = false := by
      rcases c3.2.2 with h | h
      · exact h
      · omega
    obtain ⟨_, rfl, rfl, rfl⟩ := this
    subst c1
    rcases c2 with rfl | rfl | rfl <;> rfl
  apply List.ext_getElem (by rw [lch_len]; exact hl.symm)
  intro i h1 h2
  have := hsw i h1
  rw [sw_of_lt h1] at this
  rw [this]
  have h3 : i < hs.length := by rw [lch_len] at h2; exact h2
  have e := lch_sw (W := W) (y := y) h3
  rw [sw_of_lt h2] at e
  rw [e]
end Go.Proofs.YthllbcjglcplhaaDoor
/- Rows of holes as values; slices.Clip; laces.sign. -/
namespace Go.Proofs.YthllbcjglcplhaaDoor
set_option linter.unusedVariables false
set_option linter.unusedSimpArgs false
set_option maxRecDepth 8000
open Go Go.RowKit

theorem own_hext {w w' : World} {B n z : Nat} {e : TypeId} {v : Value} {xs : List Value} (h : w.ownsRow B e z v n xs) (x : Ext w w') : w'.ownsRow B e z v n xs := by
  obtain ⟨h1, h2 | ⟨g, cap, cur, hv, hB, hb, hr⟩⟩ := h
  · exact ⟨h1, .inl h2⟩
  · exact ⟨h1, .inr ⟨g, cap, cur, hv, hB, x.block hb, hr⟩⟩
theorem HO.lit1 {w : World} {g : Nat} {h : Ho} (hb : w.heap[g]? = some (.cells #[.int .i64 h.p, .bool h.l] 39 (0, 0))) : HO w g 1 [h] := HO.of_blk (l := [h]) hb rfl (by simp)
/-- A row of holes of the call's own, clipped or not, or nil. -/
def HU (w : World) (u : Value) (l : List Ho) : Prop := (u = .slice Option.none 0 0 ∧ l = []) ∨ ∃ q c d, u = .slice (some ⟨q, 0, Option.none⟩) l.length c ∧ l.length ≤ c ∧ c ≤ d ∧ HO w q d l
theorem HU.ext {w w' : World} {u : Value} {l : List Ho} (h : HU w u l) (x : Ext w w') : HU w' u l := by
  rcases h with h | ⟨q, c, d, h1, h2, h3, h4⟩
  · exact .inl h
  · exact .inr ⟨q, c, d, h1, h2, h3, h4.ext x⟩
theorem HU.setOther {w : World} {u u' : Value} {l : List Ho} (h : HU w u l) {a : Addr} {cs : Array Value} {t : TypeId} {q : Nat × Nat} (hb : w.heap[a.block]? = some (.cells cs t q)) (ht : 39 ≠ t) : HU (w.setCell a u') u l := by
  rcases h with h | ⟨g, c, d, h1, h2, h3, h4⟩
  · exact .inl h
  · refine .inr ⟨g, c, d, h1, h2, h3, h4.setOther (fun e => ?_) _⟩
    obtain ⟨cs', hb2⟩ := h4.block
    rw [e, hb] at hb2
    simp only [Option.some.injEq, Obj.cells.injEq] at hb2
    exact ht hb2.2.1.symm
theorem HU.hs {w : World} {u : Value} {l : List Ho} (h : HU w u l) : ∃ c, HS w u c l := by
  rcases h with ⟨rfl, rfl⟩ | ⟨q, c, d, rfl, h2, h3, h4⟩
  · exact ⟨0, HS.nil w⟩
  · obtain ⟨ao, e1, e2, e3, e4⟩ := h4.rs
    simp only [Value.slice.injEq] at e1
    obtain ⟨rfl, _, _⟩ := e1
    exact ⟨c, _, rfl, h2, by omega, e4⟩
theorem HU.form {w : World} {u : Value} {l : List Ho} (h : HU w u l) : ∃ a n c, u = .slice a n c ∧ n = l.length := by
  rcases h with ⟨rfl, rfl⟩ | ⟨q, c, d, rfl, h2⟩
  · exact ⟨_, _, _, rfl, rfl⟩
  · exact ⟨_, _, _, rfl, rfl⟩
theorem HV.hu {w : World} {u : Value} {l : List Ho} (h : HV w u l) : HU w u l := by
  rcases h with h | ⟨q, c, h1, h2⟩
  · exact .inl h
  · exact .inr ⟨q, c, c, h1, h2.1, Nat.le_refl _, h2⟩
/-- Block R has room for N rows; the first k are laid. -/
def HW (w wr : World) (R N k : Nat) (rows : Nat → List Ho) : Prop := Ext w wr ∧ w.heap.size ≤ R ∧ N ≤ maxLen ∧ ∃ f, wr.rowIs R 37 N f ∧ ∀ i, i < k → HU wr (f i) (rows i)
theorem HW.start {w wr : World} {R N : Nat} {f : Nat → Value} {rows : Nat → List Ho} (x : Ext w wr) (h : w.heap.size ≤ R) (hN : N ≤ maxLen) (hr : wr.rowIs R 37 N f) : HW w wr R N 0 rows := ⟨x, h, hN, f, hr, fun i hi => by omega⟩
theorem HW.later {w wr w' : World} {R N k : Nat} {rows : Nat → List Ho} (h : HW w wr R N k rows) (x : Ext wr w') : HW w w' R N k rows := by
  obtain ⟨h1, h2, h3, f, h4, h5⟩ := h
  exact ⟨h1.trans x, h2, h3, f, x.row h4, fun i hi => (h5 i hi).ext x⟩
theorem HW.block {w wr : World} {R N k : Nat} {rows : Nat → List Ho} (h : HW w wr R N k rows) : ∃ cs, wr.heap[R]? = some (.cells cs 37 (0, 0)) := by
  obtain ⟨_, _, _, f, ⟨cs, h4, _⟩, _⟩ := h
  exact ⟨cs, h4⟩
theorem HW.ex {w wr : World} {R N k : Nat} {rows : Nat → List Ho} (h : HW w wr R N k rows) {i : Nat} (hi : i < N) : ∃ v, wr.cell? ⟨R, i, none⟩ = some v := by
  obtain ⟨_, _, _, f, h4, _⟩ := h
  exact ⟨_, h4.cell hi⟩
theorem HW.frozen {w wr : World} {R N k : Nat} {rows : Nat → List Ho} (h : HW w wr R N k rows) (i : Nat) : wr.frozen? ⟨R, i, none⟩ = false := by
  obtain ⟨_, _, _, f, h4, _⟩ := h
  exact h4.frozen i
theorem HW.put {w wr : World} {R N k : Nat} {rows : Nat → List Ho} {u : Value} {l : List Ho} (h : HW w wr R N k rows) (hk : k < N) (hu : HU wr u l) (hl : rows k = l) : HW w (wr.setCell ⟨R, k, none⟩ u) R N (k + 1) rows := by
  obtain ⟨cs, hb⟩ := h.block
  obtain ⟨h1, h2, h3, f, h4, h5⟩ := h
  refine ⟨h1.setCell h2 _, h2, h3, _, h4.set k _, fun i hi => ?_⟩
  by_cases e : i = k
  · subst e
    rw [hl]
    simpa using hu.setOther (a := ⟨R, i, none⟩) hb (by decide)
  · simpa [e] using (h5 i (by omega)).setOther (a := ⟨R, k, none⟩) hb (by decide)
theorem HW.hr {w wr : World} {R N : Nat} {rows : List (List Ho)} (h : HW w wr R N N (ow rows)) (hn : N = rows.length) : HR wr (.slice (some ⟨R, 0, none⟩) N N) N rows := by
  obtain ⟨h1, h2, h3, f, h4, h5⟩ := h
  have hcap : ∀ i, ∃ d, i < N → HS wr (f i) d (ow rows i) := fun i => by
    by_cases hi : i < N
    · obtain ⟨d, hd⟩ := (h5 i hi).hs
      exact ⟨d, fun _ => hd⟩
    · exact ⟨0, fun h => absurd h hi⟩
  refine ⟨_, f, fun i => (hcap i).choose, by rw [hn], by omega, h3, .inr ⟨R, 0, rfl, fun i hi => ?_⟩, fun i hi => (hcap i).choose_spec (by omega)⟩
  rw [Nat.zero_add]; exact h4.cell (by omega)
theorem HClip_calls (u : Value) (l : List Ho) (w : World) (h : HU w u l) : Calls Tryd.prog 64 #[u] w fun e w' => (∃ v, e = .returned v ∧ HU w v l) ∧ w = w' := by
  rcases h with ⟨rfl, rfl⟩ | ⟨q, c, d, rfl, h2, h3, h4⟩
  · go_enter Tryd.func64, Tryd.ntmps64
    go_wp2
    go_ret
    exact ⟨⟨_, rfl, .inl ⟨rfl, rfl⟩⟩, rfl⟩
  · have h1 : (l.length : Int) ≤ (c : Int) := by omega
    obtain ⟨n, hn⟩ : ∃ n, n = l.length := ⟨_, rfl⟩
    rw [← hn] at h1 h2 ⊢
    have H4 := Lib.hid h4; have Hn := Lib.hid hn
    clear h4 hn
    go_enter Tryd.func64, Tryd.ntmps64
    go_wp2
    go_ret
    refine ⟨⟨_, rfl, ?_⟩, rfl⟩
    exact .inr ⟨q, n, d, by rw [← Hn.out]; rfl, by rw [← Hn.out]; exact Nat.le_refl _, by omega, H4.out⟩
theorem sign_calls (k : Int) (w : World) : Calls Tryd.prog 36 #[.int .u8 k] w fun e w' => e = .returned (.int .u8 (kSg k)) ∧ w = w' := by
  unfold kSg
  by_cases h3 : k = 3
  · subst h3
    go_enter Tryd.func36, Tryd.ntmps36
    go_wp2
    go_ret
    exact ⟨rfl, rfl⟩
  have b3 : (k == 3) = false := beq_eq_false_iff_ne.2 h3
  by_cases h4 : k = 4
  · subst h4
    go_enter Tryd.func36, Tryd.ntmps36
    go_wp2
    go_ret
    exact ⟨rfl, rfl⟩
  have b4 : (k == 4) = false := beq_eq_false_iff_ne.2 h4
  by_cases h1 : k = 1
  · subst h1
    go_enter Tryd.func36, Tryd.ntmps36
    go_wp2
    go_ret
    exact ⟨rfl, rfl⟩
  have b1 : (k == 1) = false := beq_eq_false_iff_ne.2 h1
  rw [if_neg h3, if_neg h4, if_neg h1]
  go_enter Tryd.func36, Tryd.ntmps36
  go_wp2
  go_ret
  exact ⟨rfl, rfl⟩
end Go.Proofs.YthllbcjglcplhaaDoor
/- Laces in plain Lean: mirror images, shifts, pairs. -/
namespace Go.Proofs.YthllbcjglcplhaaDoor
set_option linter.unusedVariables false
set_option linter.unusedSimpArgs false
set_option maxRecDepth 8000

theorem rowE_iff {W : Int} : ∀ {r : List Ho} {f : Int}, rowE W r f = true ↔ (∀ h ∈ r, h.ok W f) ∧ r.Pairwise (fun a b => a.lst < b.fst)
  | [], f => by simp [rowE]
  | a :: t, f => by
    rw [rowE_cons, List.pairwise_cons, rowE_iff (r := t)]
    constructor
    · rintro ⟨h1, h2, h3⟩
      refine ⟨fun h hh => ?_, fun h hh => ?_, h3⟩
      · rcases List.mem_cons.1 hh with rfl | hh
        · exact h1
        · obtain ⟨b1, b2, b3, b4⟩ := h2 h hh
          obtain ⟨_, _, c3, _⟩ := h1
          exact ⟨b1, b2, by unfold Ho.lst at b3; omega, b4⟩
      · have := (h2 h hh).2.2.1; omega
    · rintro ⟨h1, h2, h3⟩
      refine ⟨h1 a (by simp), fun h hh => ?_, h3⟩
      obtain ⟨b1, b2, b3, b4⟩ := h1 h (by simp [hh])
      exact ⟨b1, b2, by have := h2 h hh; omega, b4⟩
/-- The sign of slot j. -/
def sAt (r : List Ho) (j : Int) : Int := if r.any (fun h => decide (h.p = j)) then 79 else if r.any (fun h => decide (h.two = j)) then 47 else 46
theorem sAt_low {W f j : Int} {r : List Ho} (h : rowE W r f = true) (hj : j < f) : sAt r j = 46 := by
  have hh := (rowE_iff.1 h).1
  unfold sAt
  rw [if_neg, if_neg]
  · rw [Bool.not_eq_true, List.any_eq_false]
    intro x hx
    obtain ⟨b1, b2, b3, b4⟩ := hh x hx
    have hl := x.two_lst
    rw [decide_eq_true_iff]
    rcases Bool.eq_false_or_eq_true x.l with e | e
    · have := hl.1 e; omega
    · have := hl.2 e; omega
  · rw [Bool.not_eq_true, List.any_eq_false]
    intro x hx
    obtain ⟨b1, b2, b3, b4⟩ := hh x hx
    have hl := x.two_lst
    rw [decide_eq_true_iff]
    rcases Bool.eq_false_or_eq_true x.l with e | e
    · have := hl.1 e; omega
    · have := hl.2 e; omega
theorem sAt_cons (h : Ho) (t : List Ho) (j : Int) (h1 : j ≠ h.p) (h2 : j ≠ h.two) : sAt (h :: t) j = sAt t j := by
  unfold sAt
  rw [List.any_cons, List.any_cons, decide_eq_false (by omega), decide_eq_false (by omega), Bool.false_or, Bool.false_or]
theorem gi_app2 {xs ys : List Int} {n i : Nat} (hn : xs.length = n) : gi (xs ++ ys) i = if i < n then gi xs i else gi ys (i - n) := by
  subst hn
  split
  · exact gi_append_left (by assumption)
  · exact gi_append_right (by omega)
theorem sgF_at (W : Nat) : ∀ (r : List Ho) (f : Nat), rowE W r f = true → ∀ j, f ≤ j → j < W → gi (sgF W f r) (j - f) = sAt r j
  | [], f, _, j, h1, h2 => by
    unfold sgF
    rw [gi_rep (by omega)]; rfl
  | h :: t, f, e, j, h1, h2 => by
    obtain ⟨⟨b1, b2, b3, b4⟩, e2⟩ := rowE_cons.1 e
    have e2' := e2
    unfold Ho.lst at b4 e2
    have ih := sgF_at W t (h.fst.toNat + 2) (by rw [show ((h.fst.toNat + 2 : Nat) : Int) = h.fst + 1 + 1 by omega]; exact e2) j
    have hl := h.two_lst
    have hpt : (h.l = false ∧ h.p = h.fst ∧ h.two = h.fst + 1) ∨ (h.l = true ∧ h.p = h.fst + 1 ∧ h.two = h.fst) := by
      rcases Bool.eq_false_or_eq_true h.l with e | e
      · exact .inr ⟨e, hl.1 e⟩
      · exact .inl ⟨e, hl.2 e⟩
    unfold sgF
    rw [gi_app2 (n := h.fst.toNat - f) (by simp)]
    by_cases c1 : j < h.fst.toNat
    · rw [if_pos (by omega), gi_rep (by omega), sAt_cons _ _ _ (by omega) (by omega), sAt_low e2' (by unfold Ho.lst; omega)]
    · rw [if_neg (by omega), gi_app2 (n := 2) (by split <;> rfl)]
      by_cases c2 : j < h.fst.toNat + 2
      · rw [if_pos (by omega)]
        rcases hpt with ⟨el, ep, et⟩ | ⟨el, ep, et⟩
        · rw [el]; simp only [Bool.false_eq_true, if_false]
          by_cases c3 : j = h.fst.toNat
          · have : j - f - (h.fst.toNat - f) = 0 := by omega
            rw [this]
            unfold sAt
            rw [if_pos (by rw [List.any_cons, decide_eq_true (by omega)]; rfl)]; rfl
          · have : j - f - (h.fst.toNat - f) = 1 := by omega
            rw [this]
            have hlow := sAt_low e2' (j := j) (by unfold Ho.lst; omega)
            unfold sAt at hlow ⊢
            rw [List.any_cons, List.any_cons, decide_eq_false (by omega), decide_eq_true (by omega), Bool.false_or, Bool.true_or]
            by_cases c4 : t.any (fun h => decide (h.p = j)) = true
            · rw [if_pos c4] at hlow; cases hlow
            · rw [if_neg c4]; rfl
        · rw [el]; simp only [if_true]
          by_cases c3 : j = h.fst.toNat
          · have : j - f - (h.fst.toNat - f) = 0 := by omega
            rw [this]
            have hlow := sAt_low e2' (j := j) (by unfold Ho.lst; omega)
            unfold sAt at hlow ⊢
            rw [List.any_cons, List.any_cons, decide_eq_false (by omega), decide_eq_true (by omega), Bool.false_or, Bool.true_or]
            by_cases c4 : t.any (fun h => decide (h.p = j)) = true
            · rw [if_pos c4] at hlow; cases hlow
            · rw [if_neg c4]; rfl
          · have : j - f - (h.fst.toNat - f) = 1 := by omega
            rw [this]
            unfold sAt
            rw [if_pos (by rw [List.any_cons, decide_eq_true (by omega)]; rfl)]; rfl
      · rw [if_neg (by omega), sAt_cons _ _ _ (by omega) (by omega), ← ih (by omega) h2]
        congr 1; omega
theorem sgn_at {W : Nat} {r : List Ho} (h : rowE W r 0 = true) {j : Nat} (hj : j < W) : gi (sgn W r) j = sAt r j := by
  rw [sgn_sgF h]; exact sgF_at W r 0 h j (Nat.zero_le _) hj
theorem lrow_si {W : Nat} {y : Int} {r : List Ho} (h : rowE W r 0 = true) {j : Nat} (hj : j < W) : si (lrow W y r) j = sgSt y (sAt r j) := by
  rw [← sgn_at h hj]
  unfold lrow
  have hl : j < (sgn W r).length := by rw [sgn_len]; exact hj
  rw [si_of_lt (by rw [List.length_map]; exact hl), List.getElem_map, gi_of_lt hl]
/-! ### Mirror images -/
def Ho.mir (W : Int) (h : Ho) : Ho := ⟨W - 1 - h.p, !h.l⟩
def hmir (W : Int) (r : List Ho) : List Ho := (r.map (Ho.mir W)).reverse
def lmir (W : Int) (rows : List (List Ho)) : List (List Ho) := rows.map (hmir W)
theorem mir_two (W : Int) (h : Ho) : (h.mir W).two = W - 1 - h.two ∧ (h.mir W).fst = W - 1 - h.lst ∧ (h.mir W).lst = W - 1 - h.fst := by
  unfold Ho.mir Ho.lst Ho.two Ho.fst
  rcases Bool.eq_false_or_eq_true h.l with e | e <;> simp [e] <;> omega
theorem Ho.mir_mir (W : Int) (h : Ho) : (h.mir W).mir W = h := by
  cases h; simp [Ho.mir]; omega
theorem hmir_len (W : Int) (r : List Ho) : (hmir W r).length = r.length := by simp [hmir]
theorem lmir_len (W : Int) (rows : List (List Ho)) : (lmir W rows).length = rows.length := by simp [lmir]
theorem lmir_ow {W : Int} {rows : List (List Ho)} {i : Nat} (h : i < rows.length) : ow (lmir W rows) i = hmir W (ow rows i) := by
  rw [ow_of_lt (by rw [lmir_len]; exact h), ow_of_lt h]; unfold lmir; rw [List.getElem_map]
theorem hmir_oi {W : Int} {r : List Ho} {i : Nat} (h : i < r.length) : oi (hmir W r) (r.length - 1 - i) = (oi r i).mir W := by
  unfold hmir
  rw [oi_of_lt (by simp; omega), List.getElem_reverse, oi_of_lt h, List.getElem_map]
  congr 1
  simp
  congr 1
  omega
theorem hmir_hmir (W : Int) (r : List Ho) : hmir W (hmir W r) = r := by
  unfold hmir
  rw [List.map_reverse, List.reverse_reverse, List.map_map]
  have : (Ho.mir W ∘ Ho.mir W) = id := funext fun h => h.mir_mir W
  rw [this, List.map_id]
theorem lmir_lmir (W : Int) (rows : List (List Ho)) : lmir W (lmir W rows) = rows := by
  unfold lmir
  rw [List.map_map]
  have : (hmir W ∘ hmir W) = id := funext fun h => hmir_hmir W h
  rw [this, List.map_id]
theorem hmir_ok {W : Int} {r : List Ho} (h : rowE W r 0 = true) : rowE W (hmir W r) 0 = true := by
  obtain ⟨h1, h2⟩ := rowE_iff.1 h
  refine rowE_iff.2 ⟨fun x hx => ?_, ?_⟩
  · unfold hmir at hx
    rw [List.mem_reverse] at hx
    obtain ⟨a, ha, rfl⟩ := List.mem_map.1 hx
    obtain ⟨b1, b2, b3, b4⟩ := h1 a ha
    obtain ⟨c1, c2, c3⟩ := mir_two W a
    have c4 : (a.mir W).p = W - 1 - a.p := rfl
    exact ⟨by omega, by omega, by omega, by omega⟩
  · unfold hmir
    rw [List.pairwise_reverse, List.pairwise_map]
    refine h2.imp fun {a b} hab => ?_
    obtain ⟨_, c2, c3⟩ := mir_two W a
    obtain ⟨_, d2, d3⟩ := mir_two W b
    omega
theorem sAt_mir (W : Int) (r : List Ho) (j : Int) : sAt (hmir W r) j = sAt r (W - 1 - j) := by
  have h1 : (hmir W r).any (fun h => decide (h.p = j)) = r.any (fun h => decide (h.p = W - 1 - j)) := by
    unfold hmir
    rw [List.any_reverse, List.any_map]
    congr 1; funext h
    have : (h.mir W).p = W - 1 - h.p := rfl
    simp only [Function.comp_apply, this]
    exact decide_eq_decide.2 (by omega)
  have h2 : (hmir W r).any (fun h => decide (h.two = j)) = r.any (fun h => decide (h.two = W - 1 - j)) := by
    unfold hmir
    rw [List.any_reverse, List.any_map]
    congr 1; funext h
    simp only [Function.comp_apply, (mir_two W h).1]
    exact decide_eq_decide.2 (by omega)
  unfold sAt
  rw [h1, h2]
theorem lrow_mir {W : Nat} {y : Int} (hy : 1 ≤ y ∧ y ≤ 6) {r : List Ho} (h : rowE W r 0 = true) : lrow W y (hmir W r) = mirR (lrow W y r) := by
  refine si_ext (by rw [mirR_len, lrow_len, lrow_len]) fun j hj => ?_
  rw [lrow_len] at hj
  rw [lrow_si (hmir_ok h) hj, sAt_mir]
  have hm := mirR_si (l := lrow W y r) (i := W - 1 - j) (by rw [lrow_len]; omega)
  rw [lrow_len, show W - 1 - (W - 1 - j) = j by omega, lrow_si h (by omega)] at hm
  rw [hm]
  have : ((W : Int) - 1 - (j : Int)) = ((W - 1 - j : Nat) : Int) := by omega
  rw [this]
  unfold St.mir
  rw [if_neg]
  unfold sgSt
  simp only []
  split
  · decide
  · split <;> decide
theorem lch_mir {W : Nat} {y : Int} (hy : 1 ≤ y ∧ y ≤ 6) {rows : List (List Ho)} (h : ∀ k, k < rows.length → rowE W (ow rows k) 0 = true) : lch W y (lmir W rows) = mirC (lch W y rows) := by
  unfold lch lmir mirC
  rw [List.map_map, List.map_map]
  refine List.map_congr_left fun r hr => ?_
  obtain ⟨i, hi, rfl⟩ := List.mem_iff_getElem.1 hr
  have := h i hi
  rw [ow_of_lt hi] at this
  exact lrow_mir hy this
theorem lchk_mir {W : Int} {rows : List (List Ho)} (h : lchk W rows = 0) : lchk W (lmir W rows) = 0 := by
  obtain ⟨h1, h2, h3, h4, h5⟩ := lchk_zero h
  exact lchk_ok (by rw [lmir_len]; omega) (by rw [lmir_len]; omega) fun k hk => by
    rw [lmir_len] at hk
    rw [lmir_ow hk]; exact hmir_ok (h5 k hk)
/-! ### Shifts -/
def Ho.sh (n : Int) (h : Ho) : Ho := ⟨h.p + n, h.l⟩
def lsh (n : Int) (rows : List (List Ho)) : List (List Ho) := rows.map (fun r => r.map (Ho.sh n))
theorem sh_two (n : Int) (h : Ho) : (h.sh n).two = h.two + n ∧ (h.sh n).fst = h.fst + n ∧ (h.sh n).lst = h.lst + n := by
  unfold Ho.sh Ho.lst Ho.two Ho.fst
  rcases Bool.eq_false_or_eq_true h.l with e | e <;> simp [e] <;> omega
theorem lsh_len (n : Int) (rows : List (List Ho)) : (lsh n rows).length = rows.length := by simp [lsh]
theorem lsh_ow {n : Int} {rows : List (List Ho)} {i : Nat} (h : i < rows.length) : ow (lsh n rows) i = (ow rows i).map (Ho.sh n) := by
  rw [ow_of_lt (by rw [lsh_len]; exact h), ow_of_lt h]; unfold lsh; rw [List.getElem_map]
theorem sh_oi {n : Int} {r : List Ho} {i : Nat} (h : i < r.length) : oi (r.map (Ho.sh n)) i = (oi r i).sh n := by
  rw [oi_of_lt (by simpa using h), oi_of_lt h, List.getElem_map]
theorem sAt_sh (n : Int) (r : List Ho) (j : Int) : sAt (r.map (Ho.sh n)) (j + n) = sAt r j := by
  unfold sAt
  rw [List.any_map, List.any_map]
  have h1 : ((fun h : Ho => decide (h.p = j + n)) ∘ Ho.sh n) = fun h => decide (h.p = j) := funext fun h => by
    have : (h.sh n).p = h.p + n := rfl
    simp only [Function.comp_apply, this]
    exact decide_eq_decide.2 (by omega)
  have h2 : ((fun h : Ho => decide (h.two = j + n)) ∘ Ho.sh n) = fun h => decide (h.two = j) := funext fun h => by
    simp only [Function.comp_apply, (sh_two n h).1]
    exact decide_eq_decide.2 (by omega)
  rw [h1, h2]
/-- No hole leaves the row. -/
def shOK (W n : Int) (r : List Ho) : Prop := ∀ h ∈ r, 0 ≤ h.fst + n ∧ h.lst + n < W
theorem sh_rowE {W n : Int} {r : List Ho} (h : rowE W r 0 = true) : rowE W (r.map (Ho.sh n)) 0 = true ↔ shOK W n r := by
  obtain ⟨h1, h2⟩ := rowE_iff.1 h
  rw [rowE_iff]
  constructor
  · rintro ⟨g1, _⟩ x hx
    obtain ⟨b1, b2, b3, b4⟩ := g1 (x.sh n) (List.mem_map_of_mem hx)
    obtain ⟨_, c2, c3⟩ := sh_two n x
    omega
  · intro g
    refine ⟨fun x hx => ?_, ?_⟩
    · obtain ⟨a, ha, rfl⟩ := List.mem_map.1 hx
      obtain ⟨c1, c2, c3⟩ := sh_two n a
      have := g a ha
      have hl := a.two_lst
      have c4 : (a.sh n).p = a.p + n := rfl
      have c5 : a.lst = a.fst + 1 := rfl
      rcases Bool.eq_false_or_eq_true a.l with e | e
      · have := hl.1 e; exact ⟨by omega, by omega, by omega, by omega⟩
      · have := hl.2 e; exact ⟨by omega, by omega, by omega, by omega⟩
    · rw [List.pairwise_map]
      refine h2.imp fun {a b} hab => ?_
      have := (sh_two n a).2.2; have := (sh_two n b).2.1
      omega
theorem lsh_lsh (n : Int) (rows : List (List Ho)) : lsh (-n) (lsh n rows) = rows := by
  unfold lsh
  rw [List.map_map]
  have : ((fun r => List.map (Ho.sh (-n)) r) ∘ fun r => List.map (Ho.sh n) r) = id := funext fun r => by
    simp only [Function.comp_apply, List.map_map]
    have : (Ho.sh (-n) ∘ Ho.sh n) = id := funext fun h => by cases h; simp [Ho.sh]; omega
    rw [this, List.map_id]; rfl
  rw [this, List.map_id]
/-! ### Pairs -/
/-- The places of the stitches that q holds of. -/
def ixs (q : St → Bool) : Nat → List St → List Int
  | _, [] => []
  | f, s :: r => if q s then (f : Int) :: ixs q (f + 1) r else ixs q (f + 1) r
def isO (s : St) : Bool := decide (s.k = 3)
def isT (s : St) : Bool := decide (s.k = 4 ∨ s.k = 5)
theorem ixs_snoc (q : St → Bool) : ∀ (r : List St) (f : Nat) (s : St), ixs q f (r ++ [s]) = ixs q f r ++ (if q s then [((f + r.length : Nat) : Int)] else [])
  | [], f, s => by simp [ixs]
  | a :: r, f, s => by
    rw [List.cons_append, ixs, ixs, ixs_snoc q r (f + 1) s]
    have : f + 1 + r.length = f + (a :: r).length := by simp; omega
    rw [this]
    cases q a <;> simp
theorem ixs_len (q : St → Bool) : ∀ (r : List St) (f : Nat), (ixs q f r).length ≤ r.length
  | [], f => by simp [ixs]
  | a :: r, f => by
    rw [ixs]
    have := ixs_len q r (f + 1)
    split <;> simp <;> omega
theorem ixs_dots (q : St → Bool) (y : Int) (hq : q (sgSt y 46) = false) (n : Nat) : ∀ (f : Nat) (r : List St), ixs q f ((List.replicate n (46 : Int)).map (sgSt y) ++ r) = ixs q (f + n) r := by
  induction n with
  | zero => intro f r; simp
  | succ n ih =>
    intro f r
    rw [List.replicate_succ, List.map_cons, List.cons_append, ixs, if_neg (by rw [hq]; simp), ih]
    congr 1; omega
theorem ixs_sgF (W : Nat) (y : Int) : ∀ (r : List Ho) (f : Nat), rowE W r f = true → ixs isO f ((sgF W f r).map (sgSt y)) = r.map Ho.p ∧ ixs isT f ((sgF W f r).map (sgSt y)) = r.map Ho.two
  | [], f, _ => by
    unfold sgF
    have h1 := ixs_dots isO y rfl (W - f) f []
    have h2 := ixs_dots isT y rfl (W - f) f []
    rw [List.append_nil] at h1 h2
    rw [h1, h2]
    exact ⟨rfl, rfl⟩
  | h :: t, f, e => by
    obtain ⟨⟨b1, b2, b3, b4⟩, e2⟩ := rowE_cons.1 e
    unfold Ho.lst at b4 e2
    obtain ⟨i1, i2⟩ := ixs_sgF W y t (h.fst.toNat + 2) (by rw [show ((h.fst.toNat + 2 : Nat) : Int) = h.fst + 1 + 1 by omega]; exact e2)
    unfold sgF
    rw [List.map_append, ixs_dots isO y rfl, ixs_dots isT y rfl]
    have e1 : f + (h.fst.toNat - f) = h.fst.toNat := by omega
    rw [e1, List.map_append]
    have hl := h.two_lst
    have c79 : isO (sgSt y 79) = true := rfl
    have c47 : isO (sgSt y 47) = false := rfl
    have d79 : isT (sgSt y 79) = false := rfl
    have d47 : isT (sgSt y 47) = true := rfl
    rcases Bool.eq_false_or_eq_true h.l with el | el
    · obtain ⟨x1, x2⟩ := hl.1 el
      rw [el]
      simp only [if_true, List.map_cons, List.map_nil, List.cons_append, List.nil_append, ixs, c79, c47, d79, d47, Bool.false_eq_true, if_false]
      rw [i1, i2]
      exact ⟨by congr 1; omega, by congr 1; omega⟩
    · obtain ⟨x1, x2⟩ := hl.2 el
      rw [el]
      simp only [if_true, List.map_cons, List.map_nil, List.cons_append, List.nil_append, ixs, c79, c47, d79, d47, Bool.false_eq_true, if_false]
      rw [i1, i2]
      exact ⟨by congr 1; omega, by congr 1; omega⟩
theorem ixs_lrow {W : Nat} {y : Int} {r : List Ho} (h : rowE W r 0 = true) : ixs isO 0 (lrow W y r) = r.map Ho.p ∧ ixs isT 0 (lrow W y r) = r.map Ho.two := by
  unfold lrow; rw [sgn_sgF h]; exact ixs_sgF W y r 0 h
end Go.Proofs.YthllbcjglcplhaaDoor
