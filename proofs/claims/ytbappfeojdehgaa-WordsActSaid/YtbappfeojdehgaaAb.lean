/- The laws of braids hold for images, followed strands, links and sums; how long images get. No program in sight. -/
import Derived.Test.YtbappfeojdehgaaAa
import Derived.Test.YtbappfeojdehgaaWg
namespace Go.Proofs.Ytbappfeojdehgaa
set_option linter.unusedVariables false
set_option linter.unusedSimpArgs false
open Go Go.RowKit

/-! ### images -/
def lx (k : Int) (a b : List Int) : List Int := if 0 < k then red (a ++ b ++ invL a) else b
def ly (k : Int) (a b : List Int) : List Int := if 0 < k then a else red (invL b ++ a ++ b)
theorem lx_pos {k : Int} (h : 0 < k) (a b : List Int) : lx k a b = red (a ++ b ++ invL a) := if_pos h
theorem ly_pos {k : Int} (h : 0 < k) (a b : List Int) : ly k a b = a := if_pos h
theorem lx_neg {k : Int} (h : ¬ 0 < k) (a b : List Int) : lx k a b = b := if_neg h
theorem ly_neg {k : Int} (h : ¬ 0 < k) (a b : List Int) : ly k a b = red (invL b ++ a ++ b) := if_neg h
def IV (n : Nat) (rows : List (List Int)) : Prop := rows.length = n ∧ RL rows
theorem ri_let {n : Nat} {rows : List (List Int)} {k : Int} (h1 : 1 ≤ n) (hV : IV n rows) (hk : wbad n k = false) {q : Nat} (hq : k.natAbs = q + 1) (j : Nat) :
    ri (letterRows rows k) j = if j = q + 1 then ly k (ri rows q) (ri rows (q + 1)) else if j = q then lx k (ri rows q) (ri rows (q + 1)) else ri rows j := by
  have hl := hV.1
  rw [← (img_letter hV.1 hk h1 hV.2).1]
  rcases letter_place hk (by omega) with ⟨hp, p, rfl, hpn⟩ | ⟨hp, p, rfl, hpn⟩
  · obtain rfl : p = q := by omega
    rw [imgRows_pos, ri_set _ _ _ _ (by rw [List.length_set]; omega)]
    rw [lx_pos hp, ly_pos hp]
    split
    · rfl
    · rw [ri_set _ _ _ _ (by omega)]
  · obtain rfl : p = q := by omega
    rw [imgRows_neg, ri_set _ _ _ _ (by rw [List.length_set]; omega)]
    rw [lx_neg (by omega), ly_neg (by omega)]
    split
    · rfl
    · rw [ri_set _ _ _ _ (by omega)]
theorem IV.step {n : Nat} {rows : List (List Int)} {k : Int} (h1 : 1 ≤ n) (hV : IV n rows) (hk : wbad n k = false) : IV n (letterRows rows k) :=
  ⟨by rw [letterRows_len]; exact hV.1, (img_letter hV.1 hk h1 hV.2).2⟩
theorem wb_of {n : Nat} {k : Int} {q : Nat} (h : k.natAbs = q + 1) (hn : q + 1 < n) : wbad n k = false := wbad_not (by omega) (by omega) (by omega)
theorem place_of {n : Nat} {k : Int} (h : wbad n k = false) : ∃ q : Nat, k.natAbs = q + 1 ∧ q + 1 < n := by
  unfold wbad at h
  simp only [Bool.or_eq_false_iff, beq_eq_false_iff_ne, decide_eq_false_iff_not] at h
  exact ⟨k.natAbs - 1, by omega, by omega⟩
theorem conj1 {a b : List Int} (hb : RedL b) : red (invL a ++ red (a ++ b ++ invL a) ++ a) = b := by
  have e1 := red_mid (invL a) (a ++ b ++ invL a) a
  have e2 := red_cut' [] a (b ++ (invL a ++ a))
  have e3 := red_cut' b a []
  simp only [List.append_assoc, List.nil_append, List.append_nil] at e1 e2 e3 ⊢
  rw [e1, e2, e3, red_of hb]
theorem conj2 {a b : List Int} (ha : RedL a) : red (b ++ red (invL b ++ a ++ b) ++ invL b) = a := by
  have := conj1 (a := invL b) ha
  rw [invL_invL] at this
  exact this
theorem invL_app (a b : List Int) : invL (a ++ b) = invL b ++ invL a := by unfold invL; simp
theorem red_invL (x : List Int) : red (invL x) = invL (red x) := by
  have e1 := red_cut (invL x) (red x) []
  have e2 := red_mid (invL x) x (invL (red x))
  have e3 := red_cut' [] x (invL (red x))
  simp only [List.append_assoc, List.nil_append, List.append_nil] at e1 e2 e3
  rw [← e1, e2, e3, red_of (redL_inv (redL_red x))]
theorem red_inv_mid (p x s : List Int) : red (p ++ invL (red x) ++ s) = red (p ++ invL x ++ s) := by rw [← red_invL, red_mid]

theorem ext_rows {n : Nat} {r s : List (List Int)} (hr : r.length = n) (hs : s.length = n) (h : ∀ j, j < n → ri r j = ri s j) : r = s :=
  ri_ext (by omega) (fun j hj => h j (by omega))

theorem braid3 (a b c : List Int) : red (red (a ++ b ++ invL a) ++ red (a ++ c ++ invL a) ++ invL (red (a ++ b ++ invL a))) = red (a ++ red (b ++ c ++ invL b) ++ invL a) := by
  have e1 := red_mid [] (a ++ b ++ invL a) (red (a ++ c ++ invL a) ++ invL (red (a ++ b ++ invL a)))
  have e2 := red_mid (a ++ b ++ invL a) (a ++ c ++ invL a) (invL (red (a ++ b ++ invL a)))
  have e3 := red_inv_mid (a ++ b ++ invL a ++ (a ++ c ++ invL a)) (a ++ b ++ invL a) []
  have e4 := red_cut' (a ++ b) a (c ++ (invL a ++ (a ++ (invL b ++ invL a))))
  have e5 := red_cut' (a ++ b ++ c) a (invL b ++ invL a)
  have e6 := red_mid a (b ++ c ++ invL b) (invL a)
  simp only [invL_app, invL_invL, List.append_assoc, List.nil_append, List.append_nil] at e1 e2 e3 e4 e5 e6 ⊢
  rw [e1, e2, e3, e4, e5, e6]
theorem braid3n (a b c : List Int) : red (invL (red (invL c ++ b ++ c)) ++ red (invL c ++ a ++ c) ++ red (invL c ++ b ++ c)) = red (invL c ++ red (invL b ++ a ++ b) ++ c) := by
  have e1 := red_inv_mid [] (invL c ++ b ++ c) (red (invL c ++ a ++ c) ++ red (invL c ++ b ++ c))
  have e2 := red_mid (invL (invL c ++ b ++ c)) (invL c ++ a ++ c) (red (invL c ++ b ++ c))
  have e3 := red_mid (invL (invL c ++ b ++ c) ++ (invL c ++ a ++ c)) (invL c ++ b ++ c) []
  have e4 := red_cut (invL c ++ invL b) c (a ++ (c ++ (invL c ++ (b ++ c))))
  have e5 := red_cut (invL c ++ invL b ++ a) c (b ++ c)
  have e6 := red_mid (invL c) (invL b ++ a ++ b) c
  simp only [invL_app, invL_invL, List.append_assoc, List.nil_append, List.append_nil] at e1 e2 e3 e4 e5 e6 ⊢
  rw [e1, e2, e3, e4, e5, e6]

theorem laws_rows (n : Nat) (h1 : 1 ≤ n) : Laws n letterRows (IV n) := by
  refine ⟨fun s k hV hk => hV.step h1 hk, fun s k hV hk => ?_, fun s p q a b hV ha hb hp hq hpq => ?_, fun s q hV hq => ?_, fun s q hV hq => ?_⟩
  · obtain ⟨q, hq, hqn⟩ := place_of hk
    have hV1 := hV.step h1 hk
    have hk' := wbad_neg hk
    have hq' : (-k).natAbs = q + 1 := by omega
    refine ext_rows (hV1.step h1 hk').1 hV.1 fun j hj => ?_
    rw [ri_let h1 hV1 hk' hq', ri_let h1 hV hk hq, ri_let h1 hV hk hq, ri_let h1 hV hk hq]
    rw [if_neg (show ¬ q = q + 1 by omega), if_pos rfl, if_pos rfl]
    by_cases e1 : j = q + 1
    · rw [if_pos e1, e1]
      by_cases hp : 0 < k
      · rw [ly_neg (by omega), ly_pos hp, lx_pos hp]; exact conj1 (hV.2 _)
      · rw [ly_pos (by omega), lx_neg hp]
    · rw [if_neg e1, if_neg e1]
      by_cases e2 : j = q
      · rw [if_pos e2, e2]
        by_cases hp : 0 < k
        · rw [lx_neg (by omega), ly_pos hp]
        · rw [lx_pos (by omega), ly_neg hp, lx_neg hp]; exact conj2 (hV.2 _)
      · rw [if_neg e2, if_neg e2]
  · have hVa := hV.step h1 ha
    have hVb := hV.step h1 hb
    refine ext_rows (hVa.step h1 hb).1 (hVb.step h1 ha).1 fun j hj => ?_
    simp only [ri_let h1 hVa hb hq, ri_let h1 hVb ha hp, ri_let h1 hV ha hp, ri_let h1 hV hb hq]
    rw [if_neg (show ¬ q = p + 1 by omega), if_neg (show ¬ q = p by omega), if_neg (show ¬ q + 1 = p + 1 by omega), if_neg (show ¬ q + 1 = p by omega), if_neg (show ¬ p = q + 1 by omega), if_neg (show ¬ p = q by omega), if_neg (show ¬ p + 1 = q + 1 by omega), if_neg (show ¬ p + 1 = q by omega)]
    by_cases e1 : j = q + 1
    · rw [if_pos e1, if_neg (by omega), if_neg (by omega), if_pos e1]
    · rw [if_neg e1, if_neg e1]
      by_cases e2 : j = q
      · rw [if_pos e2, if_neg (by omega), if_neg (by omega), if_pos e2]
      · rw [if_neg e2, if_neg e2]
  · have qa : ((q : Int) + 1).natAbs = q + 1 := by omega
    have qb : ((q : Int) + 2).natAbs = q + 1 + 1 := by omega
    have ha : wbad n ((q : Int) + 1) = false := wb_of qa (by omega)
    have hb : wbad n ((q : Int) + 2) = false := wb_of qb (by omega)
    have pa : 0 < (q : Int) + 1 := by omega
    have pb : 0 < (q : Int) + 2 := by omega
    have V1 := hV.step h1 ha
    have V2 := V1.step h1 hb
    have U1 := hV.step h1 hb
    have U2 := U1.step h1 ha
    refine ext_rows (V2.step h1 ha).1 (U2.step h1 hb).1 fun j hj => ?_
    simp only [ri_let h1 V2 ha qa, ri_let h1 V1 hb qb, ri_let h1 hV ha qa, ri_let h1 U2 hb qb, ri_let h1 U1 ha qa, ri_let h1 hV hb qb, lx_pos pa, ly_pos pa, lx_pos pb, ly_pos pb, Nat.add_right_cancel_iff, Nat.succ_ne_self, show ¬ q = q + 1 by omega, show ¬ q = q + 1 + 1 by omega, show ¬ q + 1 = q by omega, show ¬ q + 1 + 1 = q by omega, show ¬ q + 1 + 1 = q + 1 by omega, show ¬ q + 1 = q + 1 + 1 by omega, if_true, if_false]
    by_cases e1 : j = q
    · subst e1
      simp only [show ¬ j = j + 1 by omega, show ¬ j = j + 1 + 1 by omega, if_true, if_false]
      exact braid3 _ _ _
    · by_cases e2 : j = q + 1
      · subst e2
        simp only [show ¬ q + 1 = q + 1 + 1 by omega, show ¬ q + 1 = q by omega, if_true, if_false]
      · by_cases e3 : j = q + 1 + 1
        · subst e3
          simp only [show ¬ q + 1 + 1 = q + 1 by omega, show ¬ q + 1 + 1 = q by omega, if_true, if_false]
        · simp only [e1, e2, e3, if_false]
  · have qa : (-((q : Int) + 1)).natAbs = q + 1 := by omega
    have qb : (-((q : Int) + 2)).natAbs = q + 1 + 1 := by omega
    have ha : wbad n (-((q : Int) + 1)) = false := wb_of qa (by omega)
    have hb : wbad n (-((q : Int) + 2)) = false := wb_of qb (by omega)
    have pa : ¬ 0 < -((q : Int) + 1) := by omega
    have pb : ¬ 0 < -((q : Int) + 2) := by omega
    have V1 := hV.step h1 ha
    have V2 := V1.step h1 hb
    have U1 := hV.step h1 hb
    have U2 := U1.step h1 ha
    refine ext_rows (V2.step h1 ha).1 (U2.step h1 hb).1 fun j hj => ?_
    simp only [ri_let h1 V2 ha qa, ri_let h1 V1 hb qb, ri_let h1 hV ha qa, ri_let h1 U2 hb qb, ri_let h1 U1 ha qa, ri_let h1 hV hb qb, lx_neg pa, ly_neg pa, lx_neg pb, ly_neg pb, Nat.add_right_cancel_iff, Nat.succ_ne_self, show ¬ q = q + 1 by omega, show ¬ q = q + 1 + 1 by omega, show ¬ q + 1 = q by omega, show ¬ q + 1 + 1 = q by omega, show ¬ q + 1 + 1 = q + 1 by omega, show ¬ q + 1 = q + 1 + 1 by omega, if_true, if_false]
    by_cases e1 : j = q
    · subst e1
      simp only [show ¬ j = j + 1 by omega, show ¬ j = j + 1 + 1 by omega, if_true, if_false]
    · by_cases e2 : j = q + 1
      · subst e2
        simp only [show ¬ q + 1 = q + 1 + 1 by omega, show ¬ q + 1 = q by omega, if_true, if_false]
      · by_cases e3 : j = q + 1 + 1
        · subst e3
          simp only [show ¬ q + 1 + 1 = q + 1 by omega, show ¬ q + 1 + 1 = q by omega, if_true, if_false]
          exact (braid3n _ _ _).symm
        · simp only [e1, e2, e3, if_false]

/-! ### strands, links, sums -/
abbrev St := List Int × (Nat → Nat → Int) × Int
def stp (s : St) (k : Int) : St := (swp s.1 (lft k), lnkStep s.2.1 (gi s.1 (lft k)).toNat (gi s.1 (lft k + 1)).toNat (sgn k), s.2.2 + sgn k)
theorem lft_of {k : Int} {q : Nat} (h : k.natAbs = q + 1) : lft k = q := by
  unfold lft
  by_cases hk : k < 0
  · rw [sgn_neg hk]; omega
  · rw [sgn_pos hk]; omega
theorem sgn_opp {k : Int} (h : k ≠ 0) : sgn (-k) = - sgn k := by
  by_cases hk : k < 0
  · rw [sgn_neg hk, sgn_pos (by omega)]; rfl
  · rw [sgn_pos hk, sgn_neg (by omega)]
theorem stp_at {k : Int} {q : Nat} (h : k.natAbs = q + 1) (a : List Int) (L : Nat → Nat → Int) (x : Int) : stp (a, L, x) k = (swp a q, lnkStep L (gi a q).toNat (gi a (q + 1)).toNat (sgn k), x + sgn k) := by
  unfold stp; rw [lft_of h]
theorem lnk_back (L : Nat → Nat → Int) (a b : Nat) (s : Int) : lnkStep (lnkStep L a b s) b a (-s) = L := by
  funext i j
  unfold lnkStep
  by_cases h1 : i = a ∧ j = b <;> by_cases h2 : i = b ∧ j = a <;> simp only [h1, h2, if_true, if_false, and_self] <;> omega
theorem lnk_swap (L : Nat → Nat → Int) (a b c d : Nat) (s t : Int) : lnkStep (lnkStep L a b s) c d t = lnkStep (lnkStep L c d t) a b s := by
  funext i j
  unfold lnkStep
  generalize (if i = a ∧ j = b then s else 0) = x
  generalize (if i = b ∧ j = a then s else 0) = y
  generalize (if i = c ∧ j = d then t else 0) = z
  generalize (if i = d ∧ j = c then t else 0) = u
  omega
theorem ext_gi {n : Nat} {r s : List Int} (hr : r.length = n) (hs : s.length = n) (h : ∀ j, j < n → gi r j = gi s j) : r = s :=
  gi_ext (by omega) (fun j hj => h j (by omega))
theorem swp_back {a : List Int} {q : Nat} (h : q + 1 < a.length) : swp (swp a q) q = a := by
  refine ext_gi (n := a.length) (by rw [swp_len, swp_len]) rfl fun j hj => ?_
  rw [gi_swp _ _ _ (by rw [swp_len]; exact h), gi_swp _ _ _ h, gi_swp _ _ _ h, gi_swp _ _ _ h]
  rw [if_neg (show ¬ q = q + 1 by omega), if_pos rfl, if_pos rfl]
  by_cases e1 : j = q + 1
  · rw [if_pos e1, e1]
  · rw [if_neg e1, if_neg e1]
    by_cases e2 : j = q
    · rw [if_pos e2, e2]
    · rw [if_neg e2, if_neg e2]
theorem swp_far {a : List Int} {p q : Nat} (h : q + 1 < a.length) (hpq : p + 2 ≤ q) : swp (swp a p) q = swp (swp a q) p := by
  refine ext_gi (n := a.length) (by rw [swp_len, swp_len]) (by rw [swp_len, swp_len]) fun j hj => ?_
  have hp : p + 1 < a.length := by omega
  simp only [gi_swp _ q _ (show q + 1 < (swp a p).length by rw [swp_len]; exact h), gi_swp _ p _ (show p + 1 < (swp a q).length by rw [swp_len]; exact hp), gi_swp a p _ hp, gi_swp a q _ h]
  rw [if_neg (show ¬ q = p + 1 by omega), if_neg (show ¬ q = p by omega), if_neg (show ¬ q + 1 = p + 1 by omega), if_neg (show ¬ q + 1 = p by omega), if_neg (show ¬ p = q + 1 by omega), if_neg (show ¬ p = q by omega), if_neg (show ¬ p + 1 = q + 1 by omega), if_neg (show ¬ p + 1 = q by omega)]
  by_cases e1 : j = q + 1
  · rw [if_pos e1, if_neg (by omega), if_neg (by omega), if_pos e1]
  · rw [if_neg e1, if_neg e1]
    by_cases e2 : j = q
    · rw [if_pos e2, if_neg (by omega), if_neg (by omega), if_pos e2]
    · rw [if_neg e2, if_neg e2]
theorem swp_three {a : List Int} {q : Nat} (h : q + 2 < a.length) : swp (swp (swp a q) (q + 1)) q = swp (swp (swp a (q + 1)) q) (q + 1) := by
  refine ext_gi (n := a.length) (by simp only [swp_len]) (by simp only [swp_len]) fun j hj => ?_
  have l1 : ∀ l, (swp a l).length = a.length := swp_len a
  have l2 : ∀ l m, (swp (swp a l) m).length = a.length := fun l m => by rw [swp_len, swp_len]
  rw [gi_swp (swp (swp a q) (q + 1)) q j (by rw [l2]; omega), gi_swp (swp (swp a (q + 1)) q) (q + 1) j (by rw [l2]; omega)]
  simp only [gi_swp (swp a q) (q + 1) _ (by rw [l1]; omega), gi_swp (swp a (q + 1)) q _ (by rw [l1]; omega), gi_swp a q _ (show q + 1 < a.length by omega), gi_swp a (q + 1) _ (show q + 1 + 1 < a.length by omega)]
  by_cases e1 : j = q
  · subst e1; simp [show ¬ j + 1 + 1 = j by omega, show ¬ j = j + 1 + 1 by omega]
  · by_cases e2 : j = q + 1
    · subst e2; simp [show ¬ q + 1 + 1 = q by omega, show ¬ q = q + 1 + 1 by omega]
    · by_cases e3 : j = q + 1 + 1
      · subst e3; simp [show ¬ q + 1 + 1 = q by omega, show ¬ q = q + 1 + 1 by omega]
      · simp [e1, e2, e3]

theorem gi_three {a : List Int} {q : Nat} (h : q + 2 < a.length) :
    gi (swp a q) (q + 1) = gi a q ∧ gi (swp a q) (q + 1 + 1) = gi a (q + 1 + 1) ∧ gi (swp (swp a q) (q + 1)) q = gi a (q + 1) ∧ gi (swp (swp a q) (q + 1)) (q + 1) = gi a (q + 1 + 1)
    ∧ gi (swp a (q + 1)) q = gi a q ∧ gi (swp a (q + 1)) (q + 1) = gi a (q + 1 + 1) ∧ gi (swp (swp a (q + 1)) q) (q + 1) = gi a q ∧ gi (swp (swp a (q + 1)) q) (q + 1 + 1) = gi a (q + 1) := by
  have h0 : q + 1 < a.length := by omega
  have h1 : q + 1 + 1 < a.length := by omega
  have h2 : q + 1 + 1 < (swp a q).length := by rw [swp_len]; exact h1
  have h3 : q + 1 < (swp a (q + 1)).length := by rw [swp_len]; exact h0
  simp only [gi_swp (swp a q) (q + 1) _ h2, gi_swp (swp a (q + 1)) q _ h3, gi_swp a q _ h0, gi_swp a (q + 1) _ h1]
  simp [show ¬ q + 1 + 1 = q by omega, show ¬ q = q + 1 + 1 by omega]
theorem lnk_three (L : Nat → Nat → Int) (x y z : Nat) (s : Int) : lnkStep (lnkStep (lnkStep L x y s) x z s) y z s = lnkStep (lnkStep (lnkStep L y z s) x z s) x y s := by
  rw [lnk_swap (lnkStep L x y s), lnk_swap L x y y z, lnk_swap (lnkStep L y z s) x y x z]
theorem laws_st (n : Nat) : Laws n stp (fun s => s.1.length = n) := by
  refine ⟨fun s k hV hk => ?_, fun s k hV hk => ?_, fun s p q a b hV ha hb hp hq hpq => ?_, fun s q hV hq => ?_, fun s q hV hq => ?_⟩
  · show (swp _ _).length = n; rw [swp_len]; exact hV
  · obtain ⟨q, hq, hqn⟩ := place_of hk
    obtain ⟨a, L, x⟩ := s
    have hl : a.length = n := hV
    rw [stp_at hq, stp_at (q := q) (by omega), swp_back (by omega), sgn_opp (by omega), gi_swp _ _ _ (by omega), gi_swp _ _ _ (by omega), if_neg (show ¬ q = q + 1 by omega), if_pos rfl, if_pos rfl, lnk_back]
    rw [show x + sgn k + -sgn k = x by omega]
  · obtain ⟨c, L, x⟩ := s
    have hl : c.length = n := hV
    obtain ⟨q', hq', hqn⟩ := place_of hb
    have hqq : q + 1 < c.length := by omega
    have hpp : p + 1 < c.length := by omega
    rw [stp_at hp, stp_at hq, stp_at hq, stp_at hp, swp_far hqq hpq, gi_swp _ _ _ hpp, gi_swp _ _ _ hpp, gi_swp _ _ _ hqq, gi_swp _ _ _ hqq]
    rw [if_neg (show ¬ q = p + 1 by omega), if_neg (show ¬ q = p by omega), if_neg (show ¬ q + 1 = p + 1 by omega), if_neg (show ¬ q + 1 = p by omega), if_neg (show ¬ p = q + 1 by omega), if_neg (show ¬ p = q by omega), if_neg (show ¬ p + 1 = q + 1 by omega), if_neg (show ¬ p + 1 = q by omega), lnk_swap, show x + sgn a + sgn b = x + sgn b + sgn a by omega]
  · obtain ⟨a, L, x⟩ := s
    have hl : a.length = n := hV
    have qa : ((q : Int) + 1).natAbs = q + 1 := by omega
    have qb : ((q : Int) + 2).natAbs = q + 1 + 1 := by omega
    have s1 : sgn ((q : Int) + 1) = 1 := sgn_pos (by omega)
    have s2 : sgn ((q : Int) + 2) = 1 := sgn_pos (by omega)
    have hq2 : q + 2 < a.length := by omega
    obtain ⟨g1, g2, g3, g4, g5, g6, g7, g8⟩ := gi_three hq2
    rw [stp_at qa, stp_at qb, stp_at qa, stp_at qb, stp_at qa, stp_at qb, swp_three hq2, g1, g2, g3, g4, g5, g6, g7, g8, s1, s2, lnk_three]
  · obtain ⟨a, L, x⟩ := s
    have hl : a.length = n := hV
    have qa : (-((q : Int) + 1)).natAbs = q + 1 := by omega
    have qb : (-((q : Int) + 2)).natAbs = q + 1 + 1 := by omega
    have s1 : sgn (-((q : Int) + 1)) = -1 := sgn_neg (by omega)
    have s2 : sgn (-((q : Int) + 2)) = -1 := sgn_neg (by omega)
    have hq2 : q + 2 < a.length := by omega
    obtain ⟨g1, g2, g3, g4, g5, g6, g7, g8⟩ := gi_three hq2
    rw [stp_at qa, stp_at qb, stp_at qa, stp_at qb, stp_at qa, stp_at qb, swp_three hq2, g1, g2, g3, g4, g5, g6, g7, g8, s1, s2, lnk_three]

def st0 (n : Nat) : St := ((List.range n).map Int.ofNat, fun _ _ => 0, 0)
theorem fold_st {n : Nat} {xs : List Int} : ∀ k, k ≤ xs.length → (xs.take k).foldl stp (st0 n) = (fol n (xs.take k), lnk n xs k, ssum (xs.take k)) := by
  intro k
  induction k with
  | zero => intro _; simp [st0, fol, lnk, ssum]
  | succ k ih =>
    intro hk
    rw [take_succ_gi (by omega), List.foldl_append, ih (by omega), fol_snoc, ssum_snoc]
    rfl
theorem br_act {n : Nat} {x y : List Int} (h1 : 1 ≤ n) (h : Br n x y) : actRows n x = actRows n y := h _ letterRows (IV n) (laws_rows n h1) (start n) ⟨by unfold start; simp, RL_start n⟩
theorem br_st {n : Nat} {x y : List Int} (h : Br n x y) : fol n x = fol n y ∧ lnk n x x.length = lnk n y y.length ∧ ssum x = ssum y := by
  have := h _ stp _ (laws_st n) (st0 n) (by simp [st0])
  have h1 := fold_st (n := n) (xs := x) x.length (Nat.le_refl _)
  have h2 := fold_st (n := n) (xs := y) y.length (Nat.le_refl _)
  rw [List.take_length] at h1 h2
  rw [h1, h2] at this
  simpa using this
theorem br_perm {n : Nat} {x y : List Int} (h : Br n x y) : permOf n x = permOf n y := by unfold permOf; rw [(br_st h).1]
theorem br_links {n : Nat} {x y : List Int} (h : Br n x y) : linksOf n x = linksOf n y := by unfold linksOf; rw [(br_st h).2.1]
end Go.Proofs.Ytbappfeojdehgaa
