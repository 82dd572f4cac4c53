/- Texts of this claim in one file: libraries and walks. -/
import Derived.Deep.RegionHeld3
import Derived.RegionTactic
import Derived.Test.YtkolebjpeaigcaaDoorL2
import Derived.Test.YtkolebjpeaigcaaDoorL6
import Derived.Test.YtkolebjpeaigcaaDoorL8
/- Mirror images of stitches and of charts. -/
namespace Go.Proofs.YtkolebjpeaigcaaDoor
set_option linter.unusedVariables false
set_option linter.unusedSimpArgs false
set_option maxRecDepth 8000
open Go Go.RowKit

def St.mir (s : St) : St := if s.k = 8 then ⟨s.k, s.y, s.b, s.a, !s.f⟩ else s
theorem B5c {w : World} {b : Nat} {s : St} {t : TypeId} (h : B5 w b s t) : w.cell? ⟨b, 0, none⟩ = some (.int .u8 s.k) ∧ w.cell? ⟨b, 1, none⟩ = some (.int .u8 s.y) ∧ w.cell? ⟨b, 2, none⟩ = some (.int .i64 s.a) ∧ w.cell? ⟨b, 3, none⟩ = some (.int .i64 s.b) ∧ w.cell? ⟨b, 4, none⟩ = some (.bool s.f) := by
  obtain ⟨c0, c1, c2, c3, c4⟩ := h.at
  simp only [Nat.zero_add] at c1 c2 c3 c4
  exact ⟨c0, c1, c2, c3, c4⟩
set_option maxHeartbeats 1000000 in
theorem SMirror_calls (s : St) (w : World) : Calls Tryd.prog 31 #[s.val] w fun e w' => e = .returned s.mir.val ∧ Ext w w' := by
  obtain ⟨k, y, a, b, f⟩ := s
  by_cases hk : k = 8
  · have hm : St.mir ⟨k, y, a, b, f⟩ = ⟨8, y, b, a, !f⟩ := by unfold St.mir; rw [if_pos hk, hk]
    rw [hm]
    subst hk
    unfold St.val
    clear hm
    go_enter Tryd.func31, Tryd.ntmps31
    go_wp2
    exact bodyPost_ret (v := .agg #[.int .u8 8, .int .u8 y, .int .i64 b, .int .i64 a, .bool !f]) (by simp [results, Tryd.results31, go_sem]) rfl ⟨rfl, ((Ext.refl w).alloc _).alloc _⟩
  · have hm : St.mir ⟨k, y, a, b, f⟩ = ⟨k, y, a, b, f⟩ := by unfold St.mir; rw [if_neg hk]
    rw [hm]
    have hk' : (k == 8) = false := beq_eq_false_iff_ne.2 hk
    unfold St.val
    clear hm hk
    go_enter Tryd.func31, Tryd.ntmps31
    go_wp2
    exact bodyPost_ret (v := .agg #[.int .u8 k, .int .u8 y, .int .i64 a, .int .i64 b, .bool f]) (by simp [results, Tryd.results31, go_sem]) rfl ⟨rfl, ((Ext.refl w).alloc _).alloc _⟩

/-- The mirror image of a row. -/
def mirR (l : List St) : List St := (l.map St.mir).reverse
def mirC (rows : List (List St)) : List (List St) := rows.map mirR
theorem mirR_len (l : List St) : (mirR l).length = l.length := by simp [mirR]
theorem mirC_len (rows : List (List St)) : (mirC rows).length = rows.length := by simp [mirC]
theorem mirC_sw {rows : List (List St)} {i : Nat} (h : i < rows.length) : sw (mirC rows) i = mirR (sw rows i) := by
  rw [sw_of_lt (by rw [mirC_len]; exact h), sw_of_lt h]; simp [mirC]
theorem mirR_si {l : List St} {i : Nat} (h : i < l.length) : si (mirR l) (l.length - 1 - i) = (si l i).mir := by
  rw [si_of_lt (by rw [mirR_len]; omega), si_of_lt h]
  unfold mirR
  rw [List.getElem_reverse]
  simp only [List.getElem_map, List.length_map]
  congr 2; omega
/-- The last j stitches of the image are laid. -/
def mrU (l : List St) (j : Nat) : List St := List.replicate (l.length - j) St.none ++ (mirR l).drop (l.length - j)
theorem mrU_len (l : List St) {j : Nat} (h : j ≤ l.length) : (mrU l j).length = l.length := by unfold mrU; simp [mirR_len]; try omega
theorem mrU_zero (l : List St) : mrU l 0 = List.replicate l.length St.none := by
  unfold mrU; rw [List.drop_eq_nil_of_le (by rw [mirR_len]; omega)]; simp
theorem mrU_all (l : List St) : mrU l l.length = mirR l := by unfold mrU; simp
theorem mrU_set {l : List St} {j : Nat} (h : j < l.length) : (mrU l j).set (l.length - 1 - j) (si l j).mir = mrU l (j + 1) := by
  unfold mrU
  have hl := mirR_len l
  have e : l.length - j = (l.length - (j + 1)) + 1 := by omega
  have hd : (mirR l).drop (l.length - (j + 1)) = (si l j).mir :: (mirR l).drop (l.length - j) := by
    rw [List.drop_eq_getElem_cons (by omega), ← si_of_lt (by omega), show l.length - (j + 1) = l.length - 1 - j by omega, mirR_si h, show l.length - 1 - j + 1 = l.length - j by omega]
  rw [hd]
  rw [List.set_append_left _ _ (by simp; omega), e, List.replicate_succ', List.set_append_right _ _ (by simp; omega)]
  have e2 : l.length - 1 - j - (List.replicate (l.length - (j + 1)) St.none).length = 0 := by simp; omega
  rw [e2]
  simp
end Go.Proofs.YtkolebjpeaigcaaDoor
/- Mirror images of charts, in plain Lean: the same errors. -/
namespace Go.Proofs.YtkolebjpeaigcaaDoor
set_option linter.unusedVariables false
set_option linter.unusedSimpArgs false
set_option maxRecDepth 8000
open Go Go.RowKit

theorem mir_chk (s : St) : s.mir.chk = s.chk := by
  unfold St.mir
  split
  · rename_i h8
    unfold St.chk
    simp only [h8]
    by_cases h1 : (8 : Int) < 1 ∨ (8 : Int) < 8 ∨ s.y < 1 ∨ 6 < s.y
    · rw [if_pos h1, if_pos h1]
    · rw [if_neg h1, if_neg h1]
      simp only [ne_eq, not_true_eq_false, if_false]
      by_cases h2 : s.b < 1 ∨ 4 < s.b ∨ s.a < 1 ∨ 4 - s.b < s.a
      · rw [if_pos h2, if_pos (by omega)]
      · rw [if_neg h2, if_neg (by omega)]
  · rfl
theorem mir_k (s : St) : s.mir.k = s.k := by unfold St.mir; split <;> rfl
theorem mir_need (s : St) : s.mir.need = s.need := by
  unfold St.need
  rw [mir_chk, mir_k]
  unfold St.mir
  split
  · rfl
  · (repeat' split) <;> first | rfl | (simp only []; omega)
theorem mir_make (s : St) : s.mir.make = s.make := by
  unfold St.make
  rw [mir_chk, mir_k]
  unfold St.mir
  split
  · rfl
  · (repeat' split) <;> first | rfl | (simp only []; omega)
theorem mir_mir (s : St) : s.mir.mir = s := by
  obtain ⟨k, y, a, b, f⟩ := s
  unfold St.mir
  by_cases h : k = 8
  · simp [h]
  · simp [h]
theorem mirR_mirR (l : List St) : mirR (mirR l) = l := by
  unfold mirR
  rw [List.map_reverse, List.reverse_reverse, List.map_map]
  have : ∀ s ∈ l, (St.mir ∘ St.mir) s = id s := fun s _ => mir_mir s
  rw [List.map_congr_left this, List.map_id]
theorem mirC_mirC (l : List (List St)) : mirC (mirC l) = l := by
  unfold mirC
  rw [List.map_map]
  have : ∀ s ∈ l, (mirR ∘ mirR) s = id s := fun s _ => mirR_mirR s
  rw [List.map_congr_left this, List.map_id]
theorem mirR_cons (s : St) (l : List St) : mirR (s :: l) = mirR l ++ [s.mir] := by simp [mirR]
theorem rneed_app2 (a b : List St) : rneed (a ++ b) = rneed a + rneed b := by
  induction a with
  | nil => simp [rneed]
  | cons s a ih => rw [List.cons_append, rneed_cons, rneed_cons, ih]; omega
theorem rmake_app2 (a b : List St) : rmake (a ++ b) = rmake a + rmake b := by
  induction a with
  | nil => simp [rmake]
  | cons s a ih => rw [List.cons_append, rmake_cons, rmake_cons, ih]; omega
theorem mirR_need : ∀ l : List St, rneed (mirR l) = rneed l
  | [] => rfl
  | s :: l => by rw [mirR_cons, rneed_app2, mirR_need l, rneed_cons, rneed_cons, mir_need]; simp [rneed]; omega
theorem mirR_make : ∀ l : List St, rmake (mirR l) = rmake l
  | [] => rfl
  | s :: l => by rw [mirR_cons, rmake_app2, mirR_make l, rmake_cons, rmake_cons, mir_make]; simp [rmake]; omega
theorem mirR_any : ∀ l : List St, (mirR l).any (fun s => decide (s.chk ≠ 0)) = l.any (fun s => decide (s.chk ≠ 0)) := fun l => by
  unfold mirR
  rw [List.any_reverse, List.any_map]
  congr 1
  funext s
  simp only [Function.comp, mir_chk]
theorem mirR_rchk (l : List St) : rchk (mirR l) = rchk l := by
  unfold rchk
  rw [mirR_len, mirR_any, mirR_need, mirR_make]
theorem mirC_ferr : ∀ rows : List (List St), ferr (mirC rows) = ferr rows
  | [] => rfl
  | r :: rs => by
    have ih := mirC_ferr rs
    unfold mirC at ih ⊢
    rw [List.map_cons, ferr, ferr, mirR_rchk, ih]
theorem mirC_fit (rows : List (List St)) : fitB (mirC rows) = fitB rows := by
  rw [Bool.eq_iff_iff]
  unfold fitB
  rw [List.all_eq_true, List.all_eq_true, mirC_len]
  constructor
  · intro h i hi
    have hl := List.mem_range.1 hi
    have := h i hi
    rw [mirC_sw (by omega), mirC_sw (by omega), mirR_need, mirR_make] at this
    exact this
  · intro h i hi
    have hl := List.mem_range.1 hi
    have := h i hi
    rw [mirC_sw (by omega), mirC_sw (by omega), mirR_need, mirR_make]
    exact this
theorem mirC_cerr (rows : List (List St)) : cerr (mirC rows) = cerr rows := by
  unfold cerr
  rw [mirC_len, mirC_ferr, mirC_fit]

/-! ### Loops -/
def Vl (xs : List Int) : Prop := ∀ x ∈ xs, 1 ≤ x ∧ x ≤ 3
theorem Vl.gi {xs : List Int} (h : Vl xs) : ∀ i, i < xs.length → 1 ≤ gi xs i ∧ gi xs i ≤ 3 := fun i hi => h _ (gi_mem hi)
theorem lerr_vals {s : St} {xs : List Int} (hc : s.chk = 0) (hl : (xs.length : Int) = s.need) (hv : Vl xs) : s.lerr xs = 0 ∨ s.lerr xs = 9 := by
  rw [lerr_in hc hl hv.gi]
  (repeat' split) <;> simp
theorem need45 {s : St} (hc : s.chk = 0) (h : s.k = 4 ∨ s.k = 5) : s.need = 2 := by unfold St.need; rw [if_neg (by omega), if_neg (by omega), if_pos h]
theorem need67 {s : St} (hc : s.chk = 0) (h : s.k = 6 ∨ s.k = 7) : s.need = 1 := by unfold St.need; rw [if_neg (by omega), if_neg (by omega), if_neg (by omega), if_neg (by omega)]
theorem two_of {xs : List Int} (h : xs.length = 2) : ∃ x y, xs = [x, y] := by
  match xs, h with
  | [x, y], _ => exact ⟨x, y, rfl⟩
theorem one_of {xs : List Int} (h : xs.length = 1) : ∃ x, xs = [x] := by
  match xs, h with
  | [x], _ => exact ⟨x, rfl⟩
theorem lerr_mir {s : St} {xs : List Int} (hc : s.chk = 0) (hl : (xs.length : Int) = s.need) (hv : Vl xs) : s.mir.lerr xs.reverse = s.lerr xs := by
  have hv' : Vl xs.reverse := fun x hx => hv x (by simpa using hx)
  rw [lerr_in hc hl hv.gi, lerr_in (by rw [mir_chk]; exact hc) (by rw [List.length_reverse, mir_need]; exact hl) hv'.gi, mir_k]
  by_cases h4 : s.k = 4 ∨ s.k = 5
  · rw [if_pos h4, if_pos h4]
    obtain ⟨x, y, rfl⟩ := two_of (xs := xs) (by have := need45 hc h4; omega)
    show (if 4 < y + x then (9 : Int) else 0) = if 4 < x + y then 9 else 0
    rw [Int.add_comm]
  · rw [if_neg h4, if_neg h4]
    by_cases h6 : s.k = 6
    · obtain ⟨x, rfl⟩ := one_of (xs := xs) (by have := need67 hc (.inl h6); omega)
      rfl
    · rw [if_neg (fun h => h6 h.1), if_neg (fun h => h6 h.1)]
theorem lmade_mir {s : St} {xs : List Int} (hc : s.chk = 0) (hl : (xs.length : Int) = s.need) (hv : Vl xs) : s.mir.lmade xs.reverse = (s.lmade xs).reverse := by
  unfold St.lmade
  rw [lerr_mir hc hl hv, mir_k, mir_make]
  by_cases he : s.lerr xs ≠ 0
  · rw [if_pos he, if_pos he]; rfl
  · rw [if_neg he, if_neg he]
    by_cases h6 : s.k = 6
    · rw [if_pos h6, if_pos h6]
      obtain ⟨x, rfl⟩ := one_of (xs := xs) (by have := need67 hc (.inl h6); omega)
      rfl
    · rw [if_neg h6, if_neg h6]
      by_cases h7 : s.k = 7
      · rw [if_pos h7, if_pos h7]
        obtain ⟨x, rfl⟩ := one_of (xs := xs) (by have := need67 hc (.inr h7); omega)
        rfl
      · rw [if_neg h7, if_neg h7, List.reverse_replicate]
theorem lmade_val {s : St} {xs : List Int} (hc : s.chk = 0) (hl : (xs.length : Int) = s.need) (hv : Vl xs) : Vl (s.lmade xs) := by
  have hin := lerr_in hc hl hv.gi
  unfold St.lmade
  by_cases he : s.lerr xs ≠ 0
  · rw [if_pos he]; intro x hx; cases hx
  · rw [if_neg he]
    by_cases h6 : s.k = 6
    · rw [if_pos h6]
      rw [if_neg (by omega)] at hin
      have hg := hv.gi 0 (by have := need67 hc (.inl h6); omega)
      by_cases h3 : gi xs 0 = 3
      · rw [if_pos ⟨h6, h3⟩] at hin; omega
      · intro x hx
        rw [List.mem_singleton.1 hx]; omega
    · rw [if_neg h6]
      by_cases h7 : s.k = 7
      · rw [if_pos h7]
        have hg := hv.gi 0 (by have := need67 hc (.inr h7); omega)
        intro x hx
        rw [List.mem_singleton.1 hx]; omega
      · rw [if_neg h7]
        intro x hx
        rw [List.eq_of_mem_replicate hx]; omega
/-- The loops behind a row, if it can be worked. -/
def lo : List St → List Int → Option (List Int)
  | [], _ => some []
  | s :: r, bf => if s.lerr (bf.take s.need.toNat) ≠ 0 then none else (lo r (bf.drop s.need.toNat)).map (s.lmade (bf.take s.need.toNat) ++ ·)
theorem take_app {b1 b2 : List Int} {n : Nat} (h : b1.length = n) : (b1 ++ b2).take n = b1 ∧ (b1 ++ b2).drop n = b2 := by
  subst h; simp
theorem lo_app : ∀ (r1 r2 : List St) (b1 b2 : List Int), (b1.length : Int) = rneed r1 → lo (r1 ++ r2) (b1 ++ b2) = (lo r1 b1).bind fun o1 => (lo r2 b2).map (o1 ++ ·)
  | [], r2, b1, b2, h => by
    have h0 : b1 = [] := List.eq_nil_of_length_eq_zero (by have : rneed [] = 0 := rfl; omega)
    subst h0
    simp only [List.nil_append, lo, Option.bind_some]
    cases lo r2 b2 <;> simp
  | s :: r1, r2, b1, b2, h => by
    rw [rneed_cons] at h
    have hn := St.need_bd s
    have hr := (rneed_bd r1).1
    have ht : (b1 ++ b2).take s.need.toNat = b1.take s.need.toNat := List.take_append_of_le_length (by omega)
    have hd : (b1 ++ b2).drop s.need.toNat = b1.drop s.need.toNat ++ b2 := List.drop_append_of_le_length (by omega)
    rw [List.cons_append, lo, lo, ht, hd]
    by_cases he : s.lerr (b1.take s.need.toNat) ≠ 0
    · rw [if_pos he, if_pos he]; rfl
    · rw [if_neg he, if_neg he, lo_app r1 r2 (b1.drop s.need.toNat) b2 (by rw [List.length_drop]; omega)]
      cases lo r1 (b1.drop s.need.toNat) with
      | none => rfl
      | some o1 =>
        cases lo r2 b2 with
        | none => rfl
        | some o2 => simp
theorem Vl.take {xs : List Int} (h : Vl xs) (n : Nat) : Vl (xs.take n) := fun x hx => h x (List.mem_of_mem_take hx)
theorem Vl.drop {xs : List Int} (h : Vl xs) (n : Nat) : Vl (xs.drop n) := fun x hx => h x (List.mem_of_mem_drop hx)
theorem lo_mir : ∀ (r : List St) (bf : List Int), (∀ s ∈ r, s.chk = 0) → (bf.length : Int) = rneed r → Vl bf → lo (mirR r) bf.reverse = (lo r bf).map List.reverse
  | [], bf, _, _, _ => rfl
  | s :: r, bf, hc, hl, hv => by
    rw [rneed_cons] at hl
    have hn := St.need_bd s
    have hr := (rneed_bd r).1
    have hcs := hc s (by simp)
    obtain ⟨b1, hb1⟩ : ∃ b1, b1 = bf.take s.need.toNat := ⟨_, rfl⟩
    obtain ⟨b2, hb2⟩ : ∃ b2, b2 = bf.drop s.need.toNat := ⟨_, rfl⟩
    have hbf : bf = b1 ++ b2 := by rw [hb1, hb2, List.take_append_drop]
    have hl1 : (b1.length : Int) = s.need := by rw [hb1, List.length_take]; omega
    have hl2 : (b2.length : Int) = rneed r := by rw [hb2, List.length_drop]; omega
    have hv1 : Vl b1 := by rw [hb1]; exact hv.take _
    have hv2 : Vl b2 := by rw [hb2]; exact hv.drop _
    have ih := lo_mir r b2 (fun x hx => hc x (by simp [hx])) hl2 hv2
    have hone : lo [s.mir] b1.reverse = if s.lerr b1 ≠ 0 then none else some (s.lmade b1).reverse := by
      have ht : b1.reverse.take s.mir.need.toNat = b1.reverse := List.take_of_length_le (by rw [List.length_reverse, mir_need]; omega)
      rw [lo, ht, lerr_mir hcs hl1 hv1, lmade_mir hcs hl1 hv1]
      by_cases he : s.lerr b1 ≠ 0
      · rw [if_pos he, if_pos he]
      · rw [if_neg he, if_neg he, lo]; simp
    rw [mirR_cons, hbf, List.reverse_append, lo_app _ _ _ _ (by rw [List.length_reverse, mirR_need]; exact hl2), ih, hone, lo]
    obtain ⟨ht, hd⟩ := take_app (b1 := b1) (b2 := b2) (n := s.need.toNat) (by omega)
    rw [ht, hd]
    by_cases he : s.lerr b1 ≠ 0
    · rw [if_pos he, if_pos he]; cases lo r b2 <;> rfl
    · rw [if_neg he, if_neg he]
      cases lo r b2 with
      | none => rfl
      | some o => simp
theorem lo_some : ∀ (r : List St) (bf o : List Int), (∀ s ∈ r, s.chk = 0) → (bf.length : Int) = rneed r → Vl bf → lo r bf = some o → Vl o ∧ (o.length : Int) = rmake r
  | [], bf, o, _, _, _, h => by
    rw [lo] at h
    obtain rfl := Option.some.inj h
    exact ⟨fun x hx => by (cases hx), rfl⟩
  | s :: r, bf, o, hc, hl, hv, h => by
    rw [rneed_cons] at hl
    have hn := St.need_bd s
    have hm := St.make_bd s
    have hr := (rneed_bd r).1
    have hcs := hc s (by simp)
    have hl1 : ((bf.take s.need.toNat).length : Int) = s.need := by rw [List.length_take]; omega
    rw [lo] at h
    by_cases he : s.lerr (bf.take s.need.toNat) ≠ 0
    · rw [if_pos he] at h; cases h
    · rw [if_neg he] at h
      obtain ⟨o2, ho2, rfl⟩ := Option.map_eq_some_iff.1 h
      obtain ⟨i1, i2⟩ := lo_some r _ o2 (fun x hx => hc x (by simp [hx])) (by rw [List.length_drop]; omega) (hv.drop _) ho2
      have hml := lmade_len (s := s) (xs := bf.take s.need.toNat) (by omega)
      refine ⟨fun x hx => ?_, by rw [List.length_append, rmake_cons]; omega⟩
      rcases List.mem_append.1 hx with hx | hx
      · exact lmade_val hcs hl1 (hv.take _) x hx
      · exact i1 x hx
theorem ldRow_lo : ∀ (r : List St) (bf acc : List Int), (∀ s ∈ r, s.chk = 0) → (bf.length : Int) = rneed r → Vl bf → ldRow r bf acc = match lo r bf with | some o => (0, acc ++ o) | none => (9, [])
  | [], bf, acc, _, _, _ => by rw [ldRow, lo]; simp
  | s :: r, bf, acc, hc, hl, hv => by
    rw [rneed_cons] at hl
    have hn := St.need_bd s
    have hr := (rneed_bd r).1
    have hcs := hc s (by simp)
    have hl1 : ((bf.take s.need.toNat).length : Int) = s.need := by rw [List.length_take]; omega
    have hev := lerr_vals hcs hl1 (hv.take _)
    rw [ldRow, lo]
    by_cases he : s.lerr (bf.take s.need.toNat) ≠ 0
    · rw [if_pos he, if_pos he]
      have : s.lerr (bf.take s.need.toNat) = 9 := by omega
      rw [this]
    · rw [if_neg he, if_neg he, ldRow_lo r _ _ (fun x hx => hc x (by simp [hx])) (by rw [List.length_drop]; omega) (hv.drop _)]
      cases lo r (bf.drop s.need.toNat) <;> simp
/-- Whether the rows can be worked one behind the other. -/
def lr : List (List St) → List Int → Bool
  | [], _ => true
  | r :: rs, bf => match lo r bf with
    | none => false
    | some o => lr rs o
/-- The rows fit on one another. -/
def FT : List (List St) → Nat → Prop
  | [], _ => True
  | r :: rs, n => (n : Int) = rneed r ∧ (∀ s ∈ r, s.chk = 0) ∧ FT rs (rmake r).toNat
theorem lr_mir : ∀ (rs : List (List St)) (bf : List Int), FT rs bf.length → Vl bf → lr (mirC rs) bf.reverse = lr rs bf
  | [], _, _, _ => rfl
  | r :: rs, bf, ⟨h1, h2, h3⟩, hv => by
    have hm : mirC (r :: rs) = mirR r :: mirC rs := rfl
    rw [hm, lr, lr, lo_mir r bf h2 h1 hv]
    cases ho : lo r bf with
    | none => rfl
    | some o =>
      obtain ⟨i1, i2⟩ := lo_some r bf o h2 h1 hv ho
      exact lr_mir rs o (by rw [show o.length = (rmake r).toNat by omega]; exact h3) i1
theorem ldRows_lr : ∀ (rs : List (List St)) (bf : List Int) (acc : List (List Int)), FT rs bf.length → Vl bf → (ldRows rs bf acc).1 = if lr rs bf then 0 else 9
  | [], _, _, _, _ => rfl
  | r :: rs, bf, acc, ⟨h1, h2, h3⟩, hv => by
    rw [ldRows, lr, ldRow_lo r bf [] h2 h1 hv]
    cases ho : lo r bf with
    | none => simp
    | some o =>
      obtain ⟨i1, i2⟩ := lo_some r bf o h2 h1 hv ho
      simp only [ne_eq, not_true_eq_false, if_false, List.nil_append]
      exact ldRows_lr rs o _ (by rw [show o.length = (rmake r).toNat by omega]; exact h3) i1
theorem FT_of {rows : List (List St)} (h : cerr rows = 0) : ∀ (d k n : Nat), rows.length - k = d → (k < rows.length → (n : Int) = rneed (sw rows k)) → FT (rows.drop k) n
  | 0, k, n, hd, _ => by rw [List.drop_eq_nil_of_le (by omega)]; exact trivial
  | d + 1, k, n, hd, hn => by
    obtain ⟨r1, r2, r3, r4⟩ := cerr_zero h
    rw [drop_sw (show k < rows.length by omega)]
    have hz := rchk_zero (r3 k (by omega))
    refine ⟨hn (by omega), fun s hs => ?_, FT_of h d (k + 1) _ (by omega) (fun hk => ?_)⟩
    · obtain ⟨i, hi, rfl⟩ := List.mem_iff_getElem.1 hs
      have := hz.2.2.1 i hi
      rwa [si_of_lt hi] at this
    · rw [r4 k hk]
      have := hz.2.2.2.2.2.1
      omega
theorem first_val (rows : List (List St)) : Vl (first rows) := fun x hx => by
  unfold first at hx
  rw [List.eq_of_mem_replicate hx]; omega
/-- The error of a chart without an error of its rows. -/
theorem cloads_lr {rows : List (List St)} (h : cerr rows = 0) : (cloads rows).1 = if lr rows (first rows) then 0 else 9 := by
  have hc := h
  unfold cloads
  rw [if_neg (by omega)]
  have hl : (first rows).length = (rneed (sw rows 0)).toNat := by unfold first; simp
  have hn := (rneed_bd (sw rows 0)).1
  exact ldRows_lr rows _ _ (by rw [hl]; exact FT_of h rows.length 0 _ (by omega) (fun _ => by omega)) (first_val rows)
theorem cloads_mir {rows : List (List St)} (h : cerr rows = 0) : (cloads (mirC rows)).1 = (cloads rows).1 := by
  have hm : cerr (mirC rows) = 0 := by rw [mirC_cerr]; exact h
  obtain ⟨r1, r2, r3, r4⟩ := cerr_zero h
  rw [cloads_lr h, cloads_lr hm]
  have hl : (first rows).length = (rneed (sw rows 0)).toNat := by unfold first; simp
  have hn := (rneed_bd (sw rows 0)).1
  have hf : first (mirC rows) = (first rows).reverse := by
    unfold first
    rw [mirC_sw (by omega), mirR_need, List.reverse_replicate]
  rw [hf, lr_mir rows (first rows) (by rw [hl]; exact FT_of h rows.length 0 _ (by omega) (fun _ => by omega)) (first_val rows)]
theorem mir_err (rows : List (List St)) : (cloads (mirC rows)).1 = (cloads rows).1 := by
  by_cases h : cerr rows = 0
  · exact cloads_mir h
  · unfold cloads
    rw [mirC_cerr, if_pos h, if_pos h]
end Go.Proofs.YtkolebjpeaigcaaDoor
/- Rows of plain data in plain Lean: what ganseylaw12.K.Of gives, which stitches ganseylaw13.row may take, and that its rows are valid. -/
namespace Go.Proofs.YtkolebjpeaigcaaDoor
set_option linter.unusedVariables false
set_option linter.unusedSimpArgs false
set_option maxRecDepth 8000
open Go Go.RowKit

def kA : List Int := [1, 1, 2, 2, 1, 3]
def kB : List Int := [1, 2, 1, 2, 3, 1]
/-- K.Of. -/
def kSt (k y a : Int) (f : Bool) : St := if k % 8 = 7 then ⟨8, 1 + y % 6, gi kA (a % 6).toNat, gi kB (a % 6).toNat, f⟩ else ⟨1 + k % 8, 1 + y % 6, 0, 0, false⟩
theorem kAB {i : Nat} (h : i < 6) : 1 ≤ gi kA i ∧ gi kA i ≤ 3 ∧ 1 ≤ gi kB i ∧ gi kB i ≤ 3 ∧ gi kA i + gi kB i ≤ 4 := by
  rcases (show i = 0 ∨ i = 1 ∨ i = 2 ∨ i = 3 ∨ i = 4 ∨ i = 5 by omega) with rfl | rfl | rfl | rfl | rfl | rfl <;> decide
theorem kSt_chk (k y a : Int) (f : Bool) : (kSt k y a f).chk = 0 := by
  have hm := Int.emod_nonneg k (show (8 : Int) ≠ 0 by decide)
  have hm2 := Int.emod_lt_of_pos k (show (0 : Int) < 8 by decide)
  have hy := Int.emod_nonneg y (show (6 : Int) ≠ 0 by decide)
  have hy2 := Int.emod_lt_of_pos y (show (0 : Int) < 6 by decide)
  have ha := Int.emod_nonneg a (show (6 : Int) ≠ 0 by decide)
  have ha2 := Int.emod_lt_of_pos a (show (0 : Int) < 6 by decide)
  have hk := kAB (i := (a % 6).toNat) (by omega)
  unfold kSt
  by_cases h : k % 8 = 7
  · rw [if_pos h]
    unfold St.chk
    simp only []
    rw [if_neg (by omega), if_neg (by omega), if_neg (by omega)]
  · rw [if_neg h]
    unfold St.chk
    simp only []
    rw [if_neg (by omega), if_pos (by omega), if_neg (by simp)]

/-- A stitch that a row may take at slot i, where nx slots are made: the loops of the slots are xs. -/
def Take (xs : List Int) (i nx : Nat) (s : St) : Prop :=
  s.chk = 0 ∧ i + s.need.toNat ≤ xs.length ∧ s.lerr ((xs.drop i).take s.need.toNat) = 0 ∧ (s.need = 0 → nx + (xs.length - i) < 8)
/-- The stitches so far and the slots that they make. -/
structure Mid (xs : List Int) (i : Nat) (out : List St) (nx : List Int) : Prop where
  ok : ∀ s ∈ out, s.chk = 0
  need : rneed out = i
  lo : lo out (xs.take i) = some nx
  len : nx.length + (xs.length - i) ≤ 8
  le : i ≤ xs.length
  few : out.length ≤ nx.length
theorem Mid.start {xs : List Int} (h : xs.length ≤ 8) : Mid xs 0 [] [] := ⟨fun s hs => by simp at hs, rfl, by simp [_root_.Go.Proofs.YtkolebjpeaigcaaDoor.lo], by simp; omega, by omega, Nat.le_refl _⟩
theorem make_pos {s : St} (h : s.chk = 0) : 1 ≤ s.make ∧ (s.need = 0 → s.make = 1) ∧ (s.need ≠ 0 → s.make ≤ s.need) := by
  obtain ⟨h1, _, h3⟩ := St.chk_ok h
  have hm : s.make = if s.k = 8 then s.a + s.b else 1 := by unfold St.make; rw [if_neg (by omega)]
  have hn : s.need = if s.k = 3 then 0 else if s.k = 4 ∨ s.k = 5 then 2 else if s.k = 8 then s.a + s.b else 1 := by unfold St.need; rw [if_neg (by omega)]
  by_cases e8 : s.k = 8
  · rw [if_pos e8] at hm
    rw [if_neg (by omega), if_neg (by omega), if_pos e8] at hn
    omega
  · rw [if_neg e8] at hm
    by_cases e3 : s.k = 3
    · rw [if_pos e3] at hn; omega
    · rw [if_neg e3] at hn
      by_cases e4 : s.k = 4 ∨ s.k = 5
      · rw [if_pos e4] at hn; omega
      · rw [if_neg e4, if_neg e8] at hn; omega
theorem Mid.step {xs : List Int} {i : Nat} {out : List St} {nx : List Int} {s : St} (h : Mid xs i out nx) (ht : Take xs i nx.length s) (hv : Vl xs) :
    Mid xs (i + s.need.toNat) (out ++ [s]) (nx ++ s.lmade ((xs.drop i).take s.need.toNat)) := by
  obtain ⟨t1, t2, t3, t4⟩ := ht
  have hn := St.need_bd s
  have hmk := make_pos t1
  have hl := lmade_len t3
  have hlt : ((xs.drop i).take s.need.toNat).length = s.need.toNat := by rw [List.length_take, List.length_drop]; omega
  refine ⟨fun x hx => ?_, ?_, ?_, ?_, t2, ?_⟩
  · rcases List.mem_append.1 hx with hx | hx
    · exact h.ok x hx
    · rw [List.mem_singleton.1 hx]; exact t1
  · rw [rneed_snoc, h.need]; omega
  · have ht : xs.take (i + s.need.toNat) = xs.take i ++ (xs.drop i).take s.need.toNat := List.take_add
    rw [ht, lo_app _ _ _ _ (by rw [List.length_take, h.need]; have := h.le; omega), h.lo]
    have hself : ((xs.drop i).take s.need.toNat).take s.need.toNat = (xs.drop i).take s.need.toNat := by rw [List.take_take, Nat.min_self]
    rw [Option.bind_some, _root_.Go.Proofs.YtkolebjpeaigcaaDoor.lo, hself, if_neg (by simp [t3]), _root_.Go.Proofs.YtkolebjpeaigcaaDoor.lo]
    simp
  · rw [List.length_append, hl]
    have := h.len
    have := h.le
    by_cases e : s.need = 0
    · have h4 := t4 e
      have := hmk.2.1 e
      omega
    · have := hmk.2.2 e
      omega
  · rw [List.length_append, List.length_append, hl, List.length_singleton]
    have := h.few
    omega
/-- How far the loop is from its end. -/
def far9 (n i nx : Nat) : Nat := 9 * (n - i) + (8 - (nx + (n - i)))
theorem Mid.far {xs : List Int} {i : Nat} {out : List St} {nx : List Int} {s : St} (h : Mid xs i out nx) (ht : Take xs i nx.length s) (hi : i < xs.length) :
    far9 xs.length (i + s.need.toNat) (nx ++ s.lmade ((xs.drop i).take s.need.toNat)).length < far9 xs.length i nx.length := by
  obtain ⟨t1, t2, t3, t4⟩ := ht
  have hn := St.need_bd s
  have hmk := make_pos t1
  have hl := lmade_len t3
  have := h.len
  unfold far9
  rw [List.length_append, hl]
  by_cases e : s.need = 0
  · have h4 := t4 e
    have := hmk.2.1 e
    omega
  · have := hmk.2.2 e
    omega
/-- What a row gives. -/
def RowOf (xs : List Int) (r : List St) (nx : List Int) : Prop := (∀ s ∈ r, s.chk = 0) ∧ rneed r = xs.length ∧ lo r xs = some nx ∧ nx.length ≤ 8 ∧ r.length ≤ nx.length ∧ Vl nx ∧ 1 ≤ r.length ∧ (nx.length : Int) = rmake r
theorem Mid.done {xs : List Int} {out : List St} {nx : List Int} (h : Mid xs xs.length out nx) (h0 : 1 ≤ xs.length) (hv : Vl xs) : RowOf xs out nx := by
  have hlo := h.lo
  rw [List.take_length] at hlo
  have h1 := lo_some out xs nx h.ok h.need.symm hv hlo
  refine ⟨h.ok, h.need, hlo, by have := h.len; omega, h.few, h1.1, ?_, h1.2⟩
  by_cases e : out = []
  · have := h.need; rw [e] at this; have : rneed [] = 0 := rfl; omega
  · exact List.length_pos_iff.2 e
theorem Vl.take' {xs : List Int} (h : Vl xs) (i n : Nat) : Vl ((xs.drop i).take n) := (h.drop i).take n
/-- Plain stitches may be taken. -/
theorem take_one {xs : List Int} {i nx : Nat} {k y : Int} (hi : i < xs.length) (hv : Vl xs) (hy : 1 ≤ y ∧ y ≤ 6) (hk : k = 1 ∨ k = 2 ∨ k = 7 ∨ k = 6 ∧ gi xs i < 3) : Take xs i nx ⟨k, y, 0, 0, false⟩ := by
  have hc : (⟨k, y, 0, 0, false⟩ : St).chk = 0 := by
    unfold St.chk; simp only []; rw [if_neg (by omega), if_pos (by omega), if_neg (by simp)]
  have hn : (⟨k, y, 0, 0, false⟩ : St).need = 1 := by
    unfold St.need; simp only []; rw [if_neg (by omega), if_neg (by omega), if_neg (by omega), if_neg (by omega)]
  have hlt : ((xs.drop i).take 1).length = 1 := by rw [List.length_take, List.length_drop]; omega
  refine ⟨hc, by rw [hn]; show i + 1 ≤ _; omega, ?_, fun h => by omega⟩
  rw [hn]
  show St.lerr _ ((xs.drop i).take 1) = 0
  rw [lerr_in hc (by rw [hlt, hn]; rfl) (Vl.gi (hv.take' i 1))]
  have hg : gi ((xs.drop i).take 1) 0 = gi xs i := by rw [gi_take (by omega), gi_drop]; rfl
  simp only []
  rw [hg, if_neg (by omega), if_neg (by omega)]
theorem take_over {xs : List Int} {i nx : Nat} {y : Int} (hi : i < xs.length) (hy : 1 ≤ y ∧ y ≤ 6) (hf : nx + (xs.length - i) < 8) : Take xs i nx ⟨3, y, 0, 0, false⟩ := by
  have hc : (⟨3, y, 0, 0, false⟩ : St).chk = 0 := by
    unfold St.chk; simp only []; rw [if_neg (by omega), if_pos (by omega), if_neg (by simp)]
  have hn : (⟨3, y, 0, 0, false⟩ : St).need = 0 := by unfold St.need; simp only []; rw [if_neg (by omega), if_pos trivial]
  refine ⟨hc, by rw [hn]; show i + 0 ≤ _; omega, ?_, fun _ => hf⟩
  rw [hn]
  show St.lerr _ [] = 0
  rw [lerr_in hc (by rw [hn]; rfl) (fun i hi => by simp at hi)]
  simp
theorem take_two {xs : List Int} {i nx : Nat} {k y : Int} (hk : k = 4 ∨ k = 5) (hi : i + 1 < xs.length) (hv : Vl xs) (hy : 1 ≤ y ∧ y ≤ 6) (hs : gi xs i + gi xs (i + 1) ≤ 4) : Take xs i nx ⟨k, y, 0, 0, false⟩ := by
  have hc : (⟨k, y, 0, 0, false⟩ : St).chk = 0 := by
    unfold St.chk; simp only []; rw [if_neg (by omega), if_pos (by omega), if_neg (by simp)]
  have hn : (⟨k, y, 0, 0, false⟩ : St).need = 2 := by
    unfold St.need; simp only []; rw [if_neg (by omega), if_neg (by omega), if_pos hk]
  have hlt : ((xs.drop i).take 2).length = 2 := by rw [List.length_take, List.length_drop]; omega
  refine ⟨hc, by rw [hn]; show i + 2 ≤ _; omega, ?_, fun h => by omega⟩
  rw [hn]
  show St.lerr _ ((xs.drop i).take 2) = 0
  rw [lerr_in hc (by rw [hlt, hn]; rfl) (Vl.gi (hv.take' i 2))]
  have hg : gi ((xs.drop i).take 2) 0 = gi xs i := by rw [gi_take (by omega), gi_drop]; rfl
  have hg1 : gi ((xs.drop i).take 2) 1 = gi xs (i + 1) := by rw [gi_take (by omega), gi_drop]
  simp only []
  rw [hg, hg1, if_pos hk, if_neg (by omega)]
theorem take_cable {xs : List Int} {i nx : Nat} {s : St} (hc : s.chk = 0) (h8 : s.k = 8) (hv : Vl xs) (hi : i ≤ xs.length) (hs : s.a + s.b ≤ ((xs.length - i : Nat) : Int)) : Take xs i nx s := by
  obtain ⟨_, _, h3⟩ := St.chk_ok hc
  have hn : s.need = s.a + s.b := by
    unfold St.need; rw [if_neg (by omega), if_neg (by omega), if_neg (by omega), if_pos h8]
  have hlt : ((xs.drop i).take s.need.toNat).length = s.need.toNat := by rw [List.length_take, List.length_drop]; omega
  refine ⟨hc, by rw [hn]; omega, ?_, fun h => by omega⟩
  rw [lerr_in hc (by rw [hlt]; omega) (Vl.gi (hv.take' i _)), if_neg (by omega), if_neg (by omega)]
end Go.Proofs.YtkolebjpeaigcaaDoor
/- ganseylaw12.K.Of. -/
namespace Go.Proofs.YtkolebjpeaigcaaDoor
set_option linter.unusedVariables false
set_option linter.unusedSimpArgs false
set_option maxRecDepth 8000
open Go Go.RowKit

set_option maxHeartbeats 2000000 in
theorem K_calls (k y a : Int) (f : Bool) (w : World) (hk : 0 ≤ k ∧ k ≤ 255) (hy : 0 ≤ y ∧ y ≤ 255) (ha : 0 ≤ a ∧ a ≤ 255) :
    Calls Tryd.prog 11 #[.agg #[.int .u8 k, .int .u8 y, .int .u8 a, .bool f]] w fun e w' => e = .returned (kSt k y a f).val ∧ Ext w w' := by
  have hm := Int.emod_nonneg k (show (8 : Int) ≠ 0 by decide)
  have hm2 := Int.emod_lt_of_pos k (show (0 : Int) < 8 by decide)
  have hy1 := Int.emod_nonneg y (show (6 : Int) ≠ 0 by decide)
  have hy2 := Int.emod_lt_of_pos y (show (0 : Int) < 6 by decide)
  have ha1 := Int.emod_nonneg a (show (6 : Int) ≠ 0 by decide)
  have ha2 := Int.emod_lt_of_pos a (show (0 : Int) < 6 by decide)
  have w1 : IntKind.u8.wrap (k % 8) = k % 8 := IntWalk.u8_in _ ⟨by omega, by omega⟩
  have w2 : IntKind.u8.wrap (1 + k % 8) = 1 + k % 8 := IntWalk.u8_in _ ⟨by omega, by omega⟩
  have w3 : IntKind.u8.wrap (y % 6) = y % 6 := IntWalk.u8_in _ ⟨by omega, by omega⟩
  have w4 : IntKind.u8.wrap (1 + y % 6) = 1 + y % 6 := IntWalk.u8_in _ ⟨by omega, by omega⟩
  have w5 : IntKind.u8.wrap (a % 6) = a % 6 := IntWalk.u8_in _ ⟨by omega, by omega⟩
  by_cases h7 : k % 8 = 7
  · have h7' : (1 + k % 8 == 8) = true := by rw [beq_iff_eq]; omega
    have hr : kSt k y a f = ⟨8, 1 + y % 6, gi kA (a % 6).toNat, gi kB (a % 6).toNat, f⟩ := by unfold kSt; rw [if_pos h7]
    rw [hr]
    have e1 : 1 + k % 8 = 8 := by omega
    rcases (show a % 6 = 0 ∨ a % 6 = 1 ∨ a % 6 = 2 ∨ a % 6 = 3 ∨ a % 6 = 4 ∨ a % 6 = 5 by omega) with e | e | e | e | e | e
    · unfold St.val
      simp only [e]
      obtain ⟨hk1, hk2⟩ := hk
      obtain ⟨hy1, hy2⟩ := hy
      obtain ⟨ha1, ha2⟩ := ha
      clear h7 hr
      go_enter Tryd.func11, Tryd.ntmps11
      go_wp2
      clear hm hm2 hy1 hy2 w1 w2 w3 w4 w5 e h7' e1 hk1 hk2 ha1 ha2
      go_region
      go_wp2
      exact bodyPost_ret (v := .agg #[.int .u8 8, .int .u8 (1 + y % 6), .int .i64 1, .int .i64 1, .bool f]) (by simp [results, Tryd.results11, go_sem]) rfl ⟨rfl, by (focus (repeat (first | (with_reducible exact Ext.refl _) | (with_reducible apply Ext.drew) | (with_reducible apply Ext.drewN) | (with_reducible apply Ext.alloc))))⟩
    · unfold St.val
      simp only [e]
      obtain ⟨hk1, hk2⟩ := hk
      obtain ⟨hy1, hy2⟩ := hy
      obtain ⟨ha1, ha2⟩ := ha
      clear h7 hr
      go_enter Tryd.func11, Tryd.ntmps11
      go_wp2
      clear hm hm2 hy1 hy2 w1 w2 w3 w4 w5 e h7' e1 hk1 hk2 ha1 ha2
      go_region
      go_wp2
      exact bodyPost_ret (v := .agg #[.int .u8 8, .int .u8 (1 + y % 6), .int .i64 1, .int .i64 2, .bool f]) (by simp [results, Tryd.results11, go_sem]) rfl ⟨rfl, by (focus (repeat (first | (with_reducible exact Ext.refl _) | (with_reducible apply Ext.drew) | (with_reducible apply Ext.drewN) | (with_reducible apply Ext.alloc))))⟩
    · unfold St.val
      simp only [e]
      obtain ⟨hk1, hk2⟩ := hk
      obtain ⟨hy1, hy2⟩ := hy
      obtain ⟨ha1, ha2⟩ := ha
      clear h7 hr
      go_enter Tryd.func11, Tryd.ntmps11
      go_wp2
      clear hm hm2 hy1 hy2 w1 w2 w3 w4 w5 e h7' e1 hk1 hk2 ha1 ha2
      go_region
      go_wp2
      exact bodyPost_ret (v := .agg #[.int .u8 8, .int .u8 (1 + y % 6), .int .i64 2, .int .i64 1, .bool f]) (by simp [results, Tryd.results11, go_sem]) rfl ⟨rfl, by (focus (repeat (first | (with_reducible exact Ext.refl _) | (with_reducible apply Ext.drew) | (with_reducible apply Ext.drewN) | (with_reducible apply Ext.alloc))))⟩
    · unfold St.val
      simp only [e]
      obtain ⟨hk1, hk2⟩ := hk
      obtain ⟨hy1, hy2⟩ := hy
      obtain ⟨ha1, ha2⟩ := ha
      clear h7 hr
      go_enter Tryd.func11, Tryd.ntmps11
      go_wp2
      clear hm hm2 hy1 hy2 w1 w2 w3 w4 w5 e h7' e1 hk1 hk2 ha1 ha2
      go_region
      go_wp2
      exact bodyPost_ret (v := .agg #[.int .u8 8, .int .u8 (1 + y % 6), .int .i64 2, .int .i64 2, .bool f]) (by simp [results, Tryd.results11, go_sem]) rfl ⟨rfl, by (focus (repeat (first | (with_reducible exact Ext.refl _) | (with_reducible apply Ext.drew) | (with_reducible apply Ext.drewN) | (with_reducible apply Ext.alloc))))⟩
    · unfold St.val
      simp only [e]
      obtain ⟨hk1, hk2⟩ := hk
      obtain ⟨hy1, hy2⟩ := hy
      obtain ⟨ha1, ha2⟩ := ha
      clear h7 hr
      go_enter Tryd.func11, Tryd.ntmps11
      go_wp2
      clear hm hm2 hy1 hy2 w1 w2 w3 w4 w5 e h7' e1 hk1 hk2 ha1 ha2
      go_region
      go_wp2
      exact bodyPost_ret (v := .agg #[.int .u8 8, .int .u8 (1 + y % 6), .int .i64 1, .int .i64 3, .bool f]) (by simp [results, Tryd.results11, go_sem]) rfl ⟨rfl, by (focus (repeat (first | (with_reducible exact Ext.refl _) | (with_reducible apply Ext.drew) | (with_reducible apply Ext.drewN) | (with_reducible apply Ext.alloc))))⟩
    · unfold St.val
      simp only [e]
      obtain ⟨hk1, hk2⟩ := hk
      obtain ⟨hy1, hy2⟩ := hy
      obtain ⟨ha1, ha2⟩ := ha
      clear h7 hr
      go_enter Tryd.func11, Tryd.ntmps11
      go_wp2
      clear hm hm2 hy1 hy2 w1 w2 w3 w4 w5 e h7' e1 hk1 hk2 ha1 ha2
      go_region
      go_wp2
      exact bodyPost_ret (v := .agg #[.int .u8 8, .int .u8 (1 + y % 6), .int .i64 3, .int .i64 1, .bool f]) (by simp [results, Tryd.results11, go_sem]) rfl ⟨rfl, by (focus (repeat (first | (with_reducible exact Ext.refl _) | (with_reducible apply Ext.drew) | (with_reducible apply Ext.drewN) | (with_reducible apply Ext.alloc))))⟩
  · have h7' : (1 + k % 8 == 8) = false := beq_eq_false_iff_ne.2 (by omega)
    have hr : kSt k y a f = ⟨1 + k % 8, 1 + y % 6, 0, 0, false⟩ := by unfold kSt; rw [if_neg h7]
    rw [hr]
    clear h7 hr
    go_enter Tryd.func11, Tryd.ntmps11
    go_wp2
    unfold St.val
    exact bodyPost_ret (v := .agg #[.int .u8 (1 + k % 8), .int .u8 (1 + y % 6), .int .i64 0, .int .i64 0, .bool false]) (by simp [results, Tryd.results11, go_sem]) rfl ⟨rfl, by (focus (repeat (first | (with_reducible exact Ext.refl _) | (with_reducible apply Ext.drew) | (with_reducible apply Ext.drewN) | (with_reducible apply Ext.alloc))))⟩
end Go.Proofs.YtkolebjpeaigcaaDoor
/- ganseyref12.Loads: its list lies in a block of numbers. -/
namespace Go.Proofs.YtkolebjpeaigcaaDoor
set_option linter.unusedVariables false
set_option linter.unusedSimpArgs false
set_option maxRecDepth 8000
open Go Go.RowKit

def RetLV (w0 : World) (xs : List Int) (err : Int) (e : Ending) (w' : World) : Prop := ∃ v, e = .returned (.tuple #[v, .int .i64 err]) ∧ IV w' v xs ∧ Ext w0 w'
theorem IV.lit1 (w : World) (x : Int) : IV (w.alloc (.cells #[.int .i64 x] 3)) (.slice (some ⟨w.heap.size, 0, Option.none⟩) 1 1) [x] :=
  .inr ⟨_, 1, fun _ => .int .i64 x, rfl, Nat.le_refl _, by unfold maxLen; omega, World.rowIs_alloc w #[.int .i64 x] 3 (fun _ => .int .i64 x) (fun i hi => by simp at hi; subst hi; rfl), fun i hi => by
    obtain rfl : i = 0 := by simpa using hi
    rfl⟩
set_option maxHeartbeats 4000000 in
theorem RLoads2_calls (s : St) (v : Value) (c : Nat) (xs : List Int) (w : World) (h : IS .i64 w v c xs) (hs : 0 ≤ s.k ∧ 0 ≤ s.y) : Calls Tryd.prog 34 #[s.val, v] w (RetLV w (s.lmade xs) (s.lerr xs)) := by
  have HB := Lib.hid (fun w' (x : Ext (w.alloc (.cells #[.int .u8 s.k, .int .u8 s.y, .int .i64 s.a, .int .i64 s.b, .bool s.f] 33)) w') => ((B5.new w s 33).ext x).at)
  have HV := Lib.hid (fun w' => Valid_calls s w' hs)
  have HNe := Lib.hid (fun w' => RNeeds_calls s w' hs)
  have HMa := Lib.hid (fun w' => RMakes_calls s w' hs)
  have hv : s.vld = if s.chk = 0 then 1 else 0 := rfl
  have hcc := St.chk_cases s
  have hnb := St.need_bd s
  have hmb := St.make_bd s
  have hn45 : s.chk = 0 → (s.k = 4 ∨ s.k = 5) → s.need = 2 := fun h h4 => by unfold St.need; rw [if_neg (by omega), if_neg (by omega), if_pos h4]
  have hn67 : s.chk = 0 → (s.k = 6 ∨ s.k = 7) → s.need = 1 := fun h h4 => by unfold St.need; rw [if_neg (by omega), if_neg (by omega), if_neg (by omega), if_neg (by omega)]
  have hm1 : s.chk = 0 → s.k ≠ 8 → s.make = 1 := fun h h8 => by unfold St.make; rw [if_neg (by omega), if_neg h8]
  have e1 : s.chk ≠ 0 → s.lerr xs = 1 := lerr_chk
  have e5 : s.chk = 0 → (xs.length : Int) ≠ s.need → s.lerr xs = 5 := lerr_len
  have eb : s.chk = 0 → (xs.length : Int) = s.need → ∀ i, i < xs.length → (gi xs i < 1 ∨ 3 < gi xs i) → s.lerr xs = 1 := fun a b i c d => lerr_bad a b c d
  have ei : s.chk = 0 → (xs.length : Int) = s.need → (∀ i, i < xs.length → 1 ≤ gi xs i ∧ gi xs i ≤ 3) → s.lerr xs = if s.k = 4 ∨ s.k = 5 then (if 4 < gi xs 0 + gi xs 1 then 9 else 0) else if s.k = 6 ∧ gi xs 0 = 3 then 9 else 0 := lerr_in
  have hbad : ∀ w' e, Ext w w' → s.lerr xs = e → e ≠ 0 → RetLV w (s.lmade xs) (s.lerr xs) (.returned (.tuple #[.slice none 0 0, .int .i64 e])) w' := fun w' e x h1 h2 => by
    rw [lmade_err (by omega), h1]; exact ⟨_, rfl, .inl ⟨rfl, rfl⟩, x⟩
  have hgood : ∀ w' u ys, Ext w w' → s.lerr xs = 0 → (if s.k = 6 then [gi xs 0 + 1] else if s.k = 7 then [gi xs 0] else List.replicate s.make.toNat 1) = ys → IV w' u ys → RetLV w (s.lmade xs) (s.lerr xs) (.returned (.tuple #[u, .int .i64 0])) w' := fun w' u ys x h1 h2 h3 => by
    have : s.lmade xs = ys := by unfold St.lmade; rw [if_neg (by omega)]; exact h2
    rw [this, h1]; exact ⟨u, rfl, h3, x⟩
  obtain ⟨ao, n, c', rfl, hn, rfl, hIS⟩ := h.out
  rw [← hn] at e5 eb ei
  obtain ⟨k, y, a, b, f⟩ := s
  unfold St.val at *
  simp only [] at HB HV HNe HMa hs hn45 hn67 hm1 ei hgood ⊢
  generalize St.need ⟨k, y, a, b, f⟩ = N at *
  generalize St.make ⟨k, y, a, b, f⟩ = M at *
  generalize St.vld ⟨k, y, a, b, f⟩ = V at *
  generalize St.chk ⟨k, y, a, b, f⟩ = C at *
  generalize St.lerr ⟨k, y, a, b, f⟩ xs = E at *
  generalize St.lmade ⟨k, y, a, b, f⟩ xs = L at *
  obtain ⟨W, hW⟩ : ∃ W, W = w.alloc (.cells #[.int .u8 k, .int .u8 y, .int .i64 a, .int .i64 b, .bool f] 33) := ⟨_, rfl⟩
  have xW : Ext w W := by rw [hW]; exact (Ext.refl w).alloc _
  rw [← hW] at HB
  have XW := Lib.hid xW; have HW := Lib.hid hW; have HI := Lib.hid (hIS.ext xW); have HBad := Lib.hid hbad; have HGood := Lib.hid hgood
  by_cases hC : C = 0
  · rw [if_pos hC] at hv
    subst hv
    by_cases hnN : (n : Int) = N
    · have HEb := Lib.hid (fun i hi hb => eb hC hnN i hi hb); have HEi := Lib.hid (fun hg => ei hC hnN hg); have H45 := Lib.hid (hn45 hC); have H67 := Lib.hid (hn67 hC); have HM1 := Lib.hid (hm1 hC)
      have tn : ((n : Int) != N) = false := by rw [hnN]; simp
      have hn4 : n ≤ 4 := by omega
      have HNn := Lib.hid hnN
      clear hcc e1 e5 eb ei hbad hgood hn45 hn67 hm1 hC h hIS hn xW hnN hs
      have hb0 := HB.out W (Ext.refl W)
      rw [hW] at hb0
      clear hW
      go_enter Tryd.func34, Tryd.ntmps34
      obtain ⟨c0, c1, c2, c3, c4⟩ := hb0
      simp only [Nat.zero_add] at c0 c1 c2 c3 c4
      go_wp2_with fail
      rw [← HW.out]
      refine (HV.out _).mono ?_
      rintro e w1 ⟨rfl, x1⟩
      have hb1 := HB.out _ x1
      have X1 := Lib.hid x1
      obtain ⟨c0, c1, c2, c3, c4⟩ := hb1
      simp only [Nat.zero_add] at c0 c1 c2 c3 c4
      clear x1 HV
      go_wp2_with fail
      refine (HNe.out _).mono ?_
      rintro e w2 ⟨rfl, x2⟩
      have X2 := Lib.hid (X1.out.trans x2)
      clear x2 HNe c0 c1 c2 c3 c4
      go_wp2
      go_loopw [6] (fun i wr => ∃ j : Nat, j ≤ n ∧ i = .int .i64 j ∧ Hid (Ext W wr) ∧ Hid (∀ i, i < j → 1 ≤ gi xs i ∧ gi xs i ≤ 3)) (fun i _ => n - (intOf i).toNat)
      case atStart => exact ⟨0, Nat.zero_le _, rfl, X2, Lib.hid (fun i hi => by omega)⟩
      case round =>
        obtain ⟨j, hj, rfl, HX, HG⟩ := hrel
        by_cases hlt : j < n
        · obtain ⟨bb, oo, rfl, hc⟩ := HI.out.at hlt
          replace hc := HX.out.cell (hc j hlt)
          have heb := HEb.out j hlt
          have HG2 := Lib.hid (show (1 ≤ gi xs j ∧ gi xs j ≤ 3) → ∀ i, i < j + 1 → 1 ≤ gi xs i ∧ gi xs i ≤ 3 from fun hh i hi => by
            by_cases e : i = j
            · rw [e]; exact hh
            · exact HG.out i (by omega))
          generalize gi xs j = z at *
          by_cases z1 : z = 1
          · have HG3 := Lib.hid (HG2.out (by omega))
            clear heb
            subst z1
            go_wp2
            go_roundw
            case rel => exact ⟨j + 1, by omega, by go_num, HX, HG3⟩
            case measure => simp [intOf]; omega
          by_cases z2 : z = 2
          · have HG3 := Lib.hid (HG2.out (by omega))
            clear heb z1
            subst z2
            go_wp2
            go_roundw
            case rel => exact ⟨j + 1, by omega, by go_num, HX, HG3⟩
            case measure => simp [intOf]; omega
          by_cases z3 : z = 3
          · have HG3 := Lib.hid (HG2.out (by omega))
            clear heb z1 z2
            subst z3
            go_wp2
            go_roundw
            case rel => exact ⟨j + 1, by omega, by go_num, HX, HG3⟩
            case measure => simp [intOf]; omega
          · have HF := Lib.hid (HBad.out wr 1 (XW.out.trans HX.out) (heb (by omega)) (by decide))
            have t1 : (z != 1) = true := by rw [bne, beq_eq_false_iff_ne.2 z1]; rfl
            have t2 : (z != 2) = true := by rw [bne, beq_eq_false_iff_ne.2 z2]; rfl
            have t3 : (z != 3) = true := by rw [bne, beq_eq_false_iff_ne.2 z3]; rfl
            clear heb z1 z2 z3
            go_wp2
            go_ret2
            exact HF.out
        · obtain rfl : n = j := by omega
          have hE := HEi.out HG.out
          have hb3 := HB.out _ HX.out
          obtain ⟨c0, c1, c2, c3, c4⟩ := hb3
          simp only [Nat.zero_add] at c0 c1 c2 c3 c4
          have tl : ¬ ((n : Int) < n) := by omega
          have hNn := HNn.out
          by_cases k45 : k = 4 ∨ k = 5
          · rw [if_pos k45] at hE
            have h2 := H45.out k45
            have hM := HM1.out (by omega)
            have hn2 : n = 2 := by omega
            subst hn2
            obtain ⟨bb, oo, rfl, hc⟩ := HI.out.at (show 0 < 2 by omega)
            have i0 := HX.out.cell (hc 0 (by omega))
            have i1 := HX.out.cell (hc 1 (by omega))
            rw [Nat.add_zero] at i0
            have g0 := HG.out 0 (by omega)
            have g1 := HG.out 1 (by omega)
            generalize gi xs 0 = x0 at *
            generalize gi xs 1 = x1 at *
            have wx : IntKind.i64.wrap (x0 + x1) = x0 + x1 := IntWalk.i64_in _ ⟨by omega, by omega⟩
            by_cases h4 : 4 < x0 + x1
            · rw [if_pos h4] at hE
              have HF := Lib.hid (fun w' x => HBad.out w' 9 x hE (by decide))
              clear hE h2 hM hNn hc
              rcases k45 with rfl | rfl
              all_goals
                go_wp2
                go_quiet (fail)
                go_wp2
                go_ret2
                exact HF.out _ (XW.out.trans (by first | exact HX.out.drewN _ | exact HX.out))
            · rw [if_neg h4] at hE
              clear h2 hNn hc
              rcases k45 with rfl | rfl
              all_goals
                have HE := Lib.hid hE; have HM := Lib.hid hM
                clear hE hM
                go_wp2
                go_quiet (fail)
                obtain ⟨wk, hwk⟩ : ∃ wk, wk = wr.drewN nq := ⟨_, rfl⟩
                have hxk : Ext W wk := by rw [hwk]; exact HX.out.drewN nq
                rw [← hwk]
                have hlit := IV.lit1 wk (1)
                have HF := Lib.hid (HGood.out (wk.alloc (.cells #[.int .i64 1] 3)) _ _ ((XW.out.trans hxk).alloc _) HE.out (by rw [if_neg (by omega), if_neg (by omega), HM.out]; rfl) hlit)
                clear hlit hxk hwk c0 c1 c2 c3 c4 i0 i1
                go_wp2
                go_ret2
                exact HF.out
          rw [if_neg k45] at hE
          have b4 : (k == 4) = false := beq_eq_false_iff_ne.2 (by omega)
          have b5 : (k == 5) = false := beq_eq_false_iff_ne.2 (by omega)
          clear k45
          by_cases k6 : k = 6
          · have h1 := H67.out (.inl k6)
            have hn1 : n = 1 := by omega
            subst hn1; subst k6
            obtain ⟨bb, oo, rfl, hc⟩ := HI.out.at (show 0 < 1 by omega)
            have i0 := HX.out.cell (hc 0 (by omega))
            rw [Nat.add_zero] at i0
            have g0 := HG.out 0 (by omega)
            generalize gi xs 0 = x0 at *
            by_cases h3 : x0 = 3
            · rw [if_pos ⟨rfl, h3⟩] at hE
              have HF := Lib.hid (HBad.out wr 9 (XW.out.trans HX.out) hE (by decide))
              clear hE h1 hNn hc
              subst h3
              go_wp2
              go_ret2
              exact HF.out
            · rw [if_neg (fun h => h3 h.2)] at hE
              have b3 : (x0 == 3) = false := beq_eq_false_iff_ne.2 h3
              have wx : IntKind.i64.wrap (x0 + 1) = x0 + 1 := IntWalk.i64_in _ ⟨by omega, by omega⟩
              clear h1 hNn hc h3
              have hlit := IV.lit1 wr (x0 + 1)
              have HF := Lib.hid (HGood.out (wr.alloc (.cells #[.int .i64 (x0 + 1)] 3)) _ _ ((XW.out.trans HX.out).alloc _) hE (by rw [if_pos rfl]) hlit)
              clear hlit hE
              go_wp2
              go_ret2
              exact HF.out
          have b6 : (k == 6) = false := beq_eq_false_iff_ne.2 k6
          rw [if_neg (fun h => k6 h.1)] at hE
          by_cases k7 : k = 7
          · have h1 := H67.out (.inr k7)
            have hn1 : n = 1 := by omega
            subst hn1; subst k7
            obtain ⟨bb, oo, rfl, hc⟩ := HI.out.at (show 0 < 1 by omega)
            have i0 := HX.out.cell (hc 0 (by omega))
            rw [Nat.add_zero] at i0
            generalize gi xs 0 = x0 at *
            clear h1 hNn hc
            have hlit := IV.lit1 wr (x0)
            have HF := Lib.hid (HGood.out (wr.alloc (.cells #[.int .i64 (x0)] 3)) _ _ ((XW.out.trans HX.out).alloc _) hE (by rw [if_neg (by omega), if_pos rfl]) hlit)
            clear hlit hE
            go_wp2
            go_ret2
            exact HF.out
          have b7 : (k == 7) = false := beq_eq_false_iff_ne.2 k7
          have HE := Lib.hid hE
          have hys : (if k = 6 then [gi xs 0 + 1] else if k = 7 then [gi xs 0] else List.replicate M.toNat 1) = List.replicate M.toNat 1 := by rw [if_neg k6, if_neg k7]
          have HYs := Lib.hid hys
          obtain ⟨m, hm⟩ : ∃ m : Nat, M = m := ⟨M.toNat, by omega⟩
          have hm4 : m ≤ 4 := by omega
          have HM2 := Lib.hid hm
          rw [hm] at HMa
          clear hE hys k6 k7 hNn hm
          obtain ⟨wk, hwk⟩ : ∃ wk : World, wk = wr := ⟨_, rfl⟩
          have HXk := Lib.hid (show Ext W wk by rw [hwk]; exact HX.out)
          rw [← hwk] at c0 c1 c2 c3 c4 ⊢
          clear hwk HX
          go_wp2
          go_loopw [7, 8] (fun l i wr => ∃ j : Nat, j ≤ m ∧ i = .int .i64 j ∧ Hid (wr.ownsRow W.heap.size 3 1 l j ((List.replicate j (1 : Int)).map (Value.int .i64)) ∧ Ext W wr)) (fun _ i _ => m - (intOf i).toNat)
          case atStart => exact ⟨0, Nat.zero_le _, rfl, Lib.hid ⟨World.ownsRow_nil _ _ _ _, HXk.out⟩⟩
          case round =>
            obtain ⟨j, hj, rfl, H⟩ := hrel
            have hb5 := HB.out _ H.out.2
            obtain ⟨c0, c1, c2, c3, c4⟩ := hb5
            simp only [Nat.zero_add] at c0 c1 c2 c3 c4
            go_wp2_with fail
            refine (HMa.out _).mono ?_
            rintro e w4 ⟨rfl, x4⟩
            have H4 := Lib.hid (And.intro (own_ext H.out.1 x4) (H.out.2.trans x4))
            clear x4 c0 c1 c2 c3 c4
            by_cases hjl : j < m
            · have hsz := H4.out.2.size
              go_wp2_with (at_builtin; refine app_own eiInt rfl _ _ rfl W.heap.size _ j _ rfl (H4.out.1.alloc _) _ _ _ rfl (VS.one _ _ _) (one1 _) ?d1 ?d2 ?d3 ?_)
              any_goals (first | omega | (simp; done) | (simp only [List.length_cons, List.length_nil]; omega) | (simp; omega))
              intro v' w' hown hbel
              have HO := Lib.hid (show w'.ownsRow W.heap.size 3 1 v' (j + 1) ((List.replicate (j + 1) (1 : Int)).map (Value.int .i64)) ∧ Ext W w' from ⟨by rw [rep_snoc, List.map_replicate]; exact hown, Below.trans (H4.out.2.alloc _) hbel⟩)
              clear hown hbel
              go_wp2
              go_roundw
              case rel => exact ⟨j + 1, by omega, by go_num, HO⟩
              case measure => simp [intOf]; omega
            · obtain rfl : m = j := by omega
              have hI := (IV.of_own H4.out.1).1
              have HF := Lib.hid (HGood.out _ _ _ (XW.out.trans H4.out.2) HE.out (by rw [HYs.out, HM2.out, Int.toNat_natCast]) hI)
              clear hI
              go_wp2
              go_ret2
              exact HF.out
    · have HF := Lib.hid (fun w' x => HBad.out w' 5 x (e5 hC hnN) (by decide))
      have tn : ((n : Int) != N) = true := by rw [bne, beq_eq_false_iff_ne.2 hnN]; rfl
      clear hcc e1 e5 eb ei hbad hgood hn45 hn67 hm1 hC h hIS hn xW hnN hs
      have hb0 := HB.out W (Ext.refl W)
      rw [hW] at hb0
      clear hW
      go_enter Tryd.func34, Tryd.ntmps34
      obtain ⟨c0, c1, c2, c3, c4⟩ := hb0
      simp only [Nat.zero_add] at c0 c1 c2 c3 c4
      go_wp2_with fail
      rw [← HW.out]
      refine (HV.out _).mono ?_
      rintro e w1 ⟨rfl, x1⟩
      have hb1 := HB.out _ x1
      have X1 := Lib.hid x1
      obtain ⟨c0, c1, c2, c3, c4⟩ := hb1
      simp only [Nat.zero_add] at c0 c1 c2 c3 c4
      clear x1 HV
      go_wp2_with fail
      refine (HNe.out _).mono ?_
      rintro e w2 ⟨rfl, x2⟩
      have HF2 := Lib.hid (HF.out _ (XW.out.trans (X1.out.trans x2)))
      clear x2 HNe c0 c1 c2 c3 c4
      go_wp2
      go_ret2
      exact HF2.out
  · have HF := Lib.hid (fun w' x => HBad.out w' 1 x (e1 hC) (by decide))
    rw [if_neg hC] at hv
    subst hv
    clear hcc e1 e5 eb ei hbad hgood hn45 hn67 hm1 hC h hIS hn xW hs
    have hb0 := HB.out W (Ext.refl W)
    rw [hW] at hb0
    clear hW
    go_enter Tryd.func34, Tryd.ntmps34
    obtain ⟨c0, c1, c2, c3, c4⟩ := hb0
    simp only [Nat.zero_add] at c0 c1 c2 c3 c4
    go_wp2_with fail
    rw [← HW.out]
    refine (HV.out _).mono ?_
    rintro e w1 ⟨rfl, x1⟩
    have HF2 := Lib.hid (HF.out _ (XW.out.trans x1))
    clear x1 HV
    go_wp2
    go_ret2
    exact HF2.out
end Go.Proofs.YtkolebjpeaigcaaDoor
