/- Texts of this claim in one file: libraries and walks. -/
import Derived.Outline
import Derived.Test.YtigffblelngpjaaDoorL0
import Derived.Test.YtigffblelngpjaaDoorL2
import Derived.Test.YtigffblelngpjaaDoorL4
/- The laws of braids hold for images, followed strands, links and sums; how long images get. No program in sight. -/
namespace Go.Proofs.YtigffblelngpjaaDoor
set_option linter.unusedVariables false
set_option linter.unusedSimpArgs false
open Go Go.RowKit

/-! ### images -/
def lx (k : Int) (a b : List Int) : List Int := if 0 < k then red (a ++ b ++ winvL a) else b
def ly (k : Int) (a b : List Int) : List Int := if 0 < k then a else red (winvL b ++ a ++ b)
theorem lx_pos {k : Int} (h : 0 < k) (a b : List Int) : lx k a b = red (a ++ b ++ winvL a) := if_pos h
theorem ly_pos {k : Int} (h : 0 < k) (a b : List Int) : ly k a b = a := if_pos h
theorem lx_neg {k : Int} (h : ¬ 0 < k) (a b : List Int) : lx k a b = b := if_neg h
theorem ly_neg {k : Int} (h : ¬ 0 < k) (a b : List Int) : ly k a b = red (winvL b ++ a ++ b) := if_neg h
def IV (n : Nat) (rows : List (List Int)) : Prop := rows.length = n ∧ RL rows
theorem ri_let {n : Nat} {rows : List (List Int)} {k : Int} (h1 : 1 ≤ n) (hV : IV n rows) (hk : wbad n k = false) {q : Nat} (hq : k.natAbs = q + 1) (j : Nat) :
    ri (letterRows rows k) j = if j = q + 1 then ly k (ri rows q) (ri rows (q + 1)) else if j = q then lx k (ri rows q) (ri rows (q + 1)) else ri rows j := by
  have hl := hV.1
  rw [← (img_letter hV.1 hk h1 hV.2).1]
  rcases letter_place hk (by omega) with ⟨hp, p, rfl, hpn⟩ | ⟨hp, p, rfl, hpn⟩
  · obtain rfl : p = q := by omega
    rw [imgRows_pos, ri_set _ _ _ _ (by rw [List.length_set]; omega)]
    rw [lx_pos hp, ly_pos hp]
    split
    · rfl
    · rw [ri_set _ _ _ _ (by omega)]
  · obtain rfl : p = q := by omega
    rw [imgRows_neg, ri_set _ _ _ _ (by rw [List.length_set]; omega)]
    rw [lx_neg (by omega), ly_neg (by omega)]
    split
    · rfl
    · rw [ri_set _ _ _ _ (by omega)]
theorem IV.step {n : Nat} {rows : List (List Int)} {k : Int} (h1 : 1 ≤ n) (hV : IV n rows) (hk : wbad n k = false) : IV n (letterRows rows k) :=
  ⟨by rw [letterRows_len]; exact hV.1, (img_letter hV.1 hk h1 hV.2).2⟩
theorem wb_of {n : Nat} {k : Int} {q : Nat} (h : k.natAbs = q + 1) (hn : q + 1 < n) : wbad n k = false := wbad_not (by omega) (by omega) (by omega)
theorem place_of {n : Nat} {k : Int} (h : wbad n k = false) : ∃ q : Nat, k.natAbs = q + 1 ∧ q + 1 < n := by
  unfold wbad at h
  simp only [Bool.or_eq_false_iff, beq_eq_false_iff_ne, decide_eq_false_iff_not] at h
  exact ⟨k.natAbs - 1, by omega, by omega⟩
theorem conj1 {a b : List Int} (hb : RedL b) : red (winvL a ++ red (a ++ b ++ winvL a) ++ a) = b := by
  have e1 := red_mid (winvL a) (a ++ b ++ winvL a) a
  have e2 := red_cut' [] a (b ++ (winvL a ++ a))
  have e3 := red_cut' b a []
  simp only [List.append_assoc, List.nil_append, List.append_nil] at e1 e2 e3 ⊢
  rw [e1, e2, e3, red_of hb]
theorem conj2 {a b : List Int} (ha : RedL a) : red (b ++ red (winvL b ++ a ++ b) ++ winvL b) = a := by
  have := conj1 (a := winvL b) ha
  rw [invL_invL] at this
  exact this
theorem invL_app (a b : List Int) : winvL (a ++ b) = winvL b ++ winvL a := by unfold winvL; simp
theorem red_invL (x : List Int) : red (winvL x) = winvL (red x) := by
  have e1 := red_cut (winvL x) (red x) []
  have e2 := red_mid (winvL x) x (winvL (red x))
  have e3 := red_cut' [] x (winvL (red x))
  simp only [List.append_assoc, List.nil_append, List.append_nil] at e1 e2 e3
  rw [← e1, e2, e3, red_of (redL_inv (redL_red x))]
theorem red_inv_mid (p x s : List Int) : red (p ++ winvL (red x) ++ s) = red (p ++ winvL x ++ s) := by rw [← red_invL, red_mid]

theorem ext_rows {n : Nat} {r s : List (List Int)} (hr : r.length = n) (hs : s.length = n) (h : ∀ j, j < n → ri r j = ri s j) : r = s :=
  ri_ext (by omega) (fun j hj => h j (by omega))

theorem braid3 (a b c : List Int) : red (red (a ++ b ++ winvL a) ++ red (a ++ c ++ winvL a) ++ winvL (red (a ++ b ++ winvL a))) = red (a ++ red (b ++ c ++ winvL b) ++ winvL a) := by
  have e1 := red_mid [] (a ++ b ++ winvL a) (red (a ++ c ++ winvL a) ++ winvL (red (a ++ b ++ winvL a)))
  have e2 := red_mid (a ++ b ++ winvL a) (a ++ c ++ winvL a) (winvL (red (a ++ b ++ winvL a)))
  have e3 := red_inv_mid (a ++ b ++ winvL a ++ (a ++ c ++ winvL a)) (a ++ b ++ winvL a) []
  have e4 := red_cut' (a ++ b) a (c ++ (winvL a ++ (a ++ (winvL b ++ winvL a))))
  have e5 := red_cut' (a ++ b ++ c) a (winvL b ++ winvL a)
  have e6 := red_mid a (b ++ c ++ winvL b) (winvL a)
  simp only [invL_app, invL_invL, List.append_assoc, List.nil_append, List.append_nil] at e1 e2 e3 e4 e5 e6 ⊢
  rw [e1, e2, e3, e4, e5, e6]
theorem braid3n (a b c : List Int) : red (winvL (red (winvL c ++ b ++ c)) ++ red (winvL c ++ a ++ c) ++ red (winvL c ++ b ++ c)) = red (winvL c ++ red (winvL b ++ a ++ b) ++ c) := by
  have e1 := red_inv_mid [] (winvL c ++ b ++ c) (red (winvL c ++ a ++ c) ++ red (winvL c ++ b ++ c))
  have e2 := red_mid (winvL (winvL c ++ b ++ c)) (winvL c ++ a ++ c) (red (winvL c ++ b ++ c))
  have e3 := red_mid (winvL (winvL c ++ b ++ c) ++ (winvL c ++ a ++ c)) (winvL c ++ b ++ c) []
  have e4 := red_cut (winvL c ++ winvL b) c (a ++ (c ++ (winvL c ++ (b ++ c))))
  have e5 := red_cut (winvL c ++ winvL b ++ a) c (b ++ c)
  have e6 := red_mid (winvL c) (winvL b ++ a ++ b) c
  simp only [invL_app, invL_invL, List.append_assoc, List.nil_append, List.append_nil] at e1 e2 e3 e4 e5 e6 ⊢
  rw [e1, e2, e3, e4, e5, e6]

theorem laws_rows (n : Nat) (h1 : 1 ≤ n) : Laws n letterRows (IV n) := by
  refine ⟨fun s k hV hk => hV.step h1 hk, fun s k hV hk => ?_, fun s p q a b hV ha hb hp hq hpq => ?_, fun s q hV hq => ?_, fun s q hV hq => ?_⟩
  · obtain ⟨q, hq, hqn⟩ := place_of hk
    have hV1 := hV.step h1 hk
    have hk' := wbad_neg hk
    have hq' : (-k).natAbs = q + 1 := by omega
    refine ext_rows (hV1.step h1 hk').1 hV.1 fun j hj => ?_
    rw [ri_let h1 hV1 hk' hq', ri_let h1 hV hk hq, ri_let h1 hV hk hq, ri_let h1 hV hk hq]
    rw [if_neg (show ¬ q = q + 1 by omega), if_pos rfl, if_pos rfl]
    by_cases e1 : j = q + 1
    · rw [if_pos e1, e1]
      by_cases hp : 0 < k
      · rw [ly_neg (by omega), ly_pos hp, lx_pos hp]; exact conj1 (hV.2 _)
      · rw [ly_pos (by omega), lx_neg hp]
    · rw [if_neg e1, if_neg e1]
      by_cases e2 : j = q
      · rw [if_pos e2, e2]
        by_cases hp : 0 < k
        · rw [lx_neg (by omega), ly_pos hp]
        · rw [lx_pos (by omega), ly_neg hp, lx_neg hp]; exact conj2 (hV.2 _)
      · rw [if_neg e2, if_neg e2]
  · have hVa := hV.step h1 ha
    have hVb := hV.step h1 hb
    refine ext_rows (hVa.step h1 hb).1 (hVb.step h1 ha).1 fun j hj => ?_
    simp only [ri_let h1 hVa hb hq, ri_let h1 hVb ha hp, ri_let h1 hV ha hp, ri_let h1 hV hb hq]
    rw [if_neg (show ¬ q = p + 1 by omega), if_neg (show ¬ q = p by omega), if_neg (show ¬ q + 1 = p + 1 by omega), if_neg (show ¬ q + 1 = p by omega), if_neg (show ¬ p = q + 1 by omega), if_neg (show ¬ p = q by omega), if_neg (show ¬ p + 1 = q + 1 by omega), if_neg (show ¬ p + 1 = q by omega)]
    by_cases e1 : j = q + 1
    · rw [if_pos e1, if_neg (by omega), if_neg (by omega), if_pos e1]
    · rw [if_neg e1, if_neg e1]
      by_cases e2 : j = q
      · rw [if_pos e2, if_neg (by omega), if_neg (by omega), if_pos e2]
      · rw [if_neg e2, if_neg e2]
  · have qa : ((q : Int) + 1).natAbs = q + 1 := by omega
    have qb : ((q : Int) + 2).natAbs = q + 1 + 1 := by omega
    have ha : wbad n ((q : Int) + 1) = false := wb_of qa (by omega)
    have hb : wbad n ((q : Int) + 2) = false := wb_of qb (by omega)
    have pa : 0 < (q : Int) + 1 := by omega
    have pb : 0 < (q : Int) + 2 := by omega
    have V1 := hV.step h1 ha
    have V2 := V1.step h1 hb
    have U1 := hV.step h1 hb
    have U2 := U1.step h1 ha
    refine ext_rows (V2.step h1 ha).1 (U2.step h1 hb).1 fun j hj => ?_
    simp only [ri_let h1 V2 ha qa, ri_let h1 V1 hb qb, ri_let h1 hV ha qa, ri_let h1 U2 hb qb, ri_let h1 U1 ha qa, ri_let h1 hV hb qb, lx_pos pa, ly_pos pa, lx_pos pb, ly_pos pb, Nat.add_right_cancel_iff, Nat.succ_ne_self, show ¬ q = q + 1 by omega, show ¬ q = q + 1 + 1 by omega, show ¬ q + 1 = q by omega, show ¬ q + 1 + 1 = q by omega, show ¬ q + 1 + 1 = q + 1 by omega, show ¬ q + 1 = q + 1 + 1 by omega, if_true, if_false]
    by_cases e1 : j = q
    · subst e1
      simp only [show ¬ j = j + 1 by omega, show ¬ j = j + 1 + 1 by omega, if_true, if_false]
      exact braid3 _ _ _
    · by_cases e2 : j = q + 1
      · subst e2
        simp only [show ¬ q + 1 = q + 1 + 1 by omega, show ¬ q + 1 = q by omega, if_true, if_false]
      · by_cases e3 : j = q + 1 + 1
        · subst e3
          simp only [show ¬ q + 1 + 1 = q + 1 by omega, show ¬ q + 1 + 1 = q by omega, if_true, if_false]
        · simp only [e1, e2, e3, if_false]
  · have qa : (-((q : Int) + 1)).natAbs = q + 1 := by omega
    have qb : (-((q : Int) + 2)).natAbs = q + 1 + 1 := by omega
    have ha : wbad n (-((q : Int) + 1)) = false := wb_of qa (by omega)
    have hb : wbad n (-((q : Int) + 2)) = false := wb_of qb (by omega)
    have pa : ¬ 0 < -((q : Int) + 1) := by omega
    have pb : ¬ 0 < -((q : Int) + 2) := by omega
    have V1 := hV.step h1 ha
    have V2 := V1.step h1 hb
    have U1 := hV.step h1 hb
    have U2 := U1.step h1 ha
    refine ext_rows (V2.step h1 ha).1 (U2.step h1 hb).1 fun j hj => ?_
    simp only [ri_let h1 V2 ha qa, ri_let h1 V1 hb qb, ri_let h1 hV ha qa, ri_let h1 U2 hb qb, ri_let h1 U1 ha qa, ri_let h1 hV hb qb, lx_neg pa, ly_neg pa, lx_neg pb, ly_neg pb, Nat.add_right_cancel_iff, Nat.succ_ne_self, show ¬ q = q + 1 by omega, show ¬ q = q + 1 + 1 by omega, show ¬ q + 1 = q by omega, show ¬ q + 1 + 1 = q by omega, show ¬ q + 1 + 1 = q + 1 by omega, show ¬ q + 1 = q + 1 + 1 by omega, if_true, if_false]
    by_cases e1 : j = q
    · subst e1
      simp only [show ¬ j = j + 1 by omega, show ¬ j = j + 1 + 1 by omega, if_true, if_false]
    · by_cases e2 : j = q + 1
      · subst e2
        simp only [show ¬ q + 1 = q + 1 + 1 by omega, show ¬ q + 1 = q by omega, if_true, if_false]
      · by_cases e3 : j = q + 1 + 1
        · subst e3
          simp only [show ¬ q + 1 + 1 = q + 1 by omega, show ¬ q + 1 + 1 = q by omega, if_true, if_false]
          exact (braid3n _ _ _).symm
        · simp only [e1, e2, e3, if_false]

/-! ### strands, links, sums -/
abbrev St := List Int × (Nat → Nat → Int) × Int
def stp (s : St) (k : Int) : St := (swp s.1 (lft k), lnkStep s.2.1 (gi s.1 (lft k)).toNat (gi s.1 (lft k + 1)).toNat (sgn k), s.2.2 + sgn k)
theorem lft_of {k : Int} {q : Nat} (h : k.natAbs = q + 1) : lft k = q := by
  unfold lft
  by_cases hk : k < 0
  · rw [sgn_neg hk]; omega
  · rw [sgn_pos hk]; omega
theorem sgn_opp {k : Int} (h : k ≠ 0) : sgn (-k) = - sgn k := by
  by_cases hk : k < 0
  · rw [sgn_neg hk, sgn_pos (by omega)]; rfl
  · rw [sgn_pos hk, sgn_neg (by omega)]
theorem stp_at {k : Int} {q : Nat} (h : k.natAbs = q + 1) (a : List Int) (L : Nat → Nat → Int) (x : Int) : stp (a, L, x) k = (swp a q, lnkStep L (gi a q).toNat (gi a (q + 1)).toNat (sgn k), x + sgn k) := by
  unfold stp; rw [lft_of h]
theorem lnk_back (L : Nat → Nat → Int) (a b : Nat) (s : Int) : lnkStep (lnkStep L a b s) b a (-s) = L := by
  funext i j
  unfold lnkStep
  by_cases h1 : i = a ∧ j = b <;> by_cases h2 : i = b ∧ j = a <;> simp only [h1, h2, if_true, if_false, and_self] <;> omega
theorem lnk_swap (L : Nat → Nat → Int) (a b c d : Nat) (s t : Int) : lnkStep (lnkStep L a b s) c d t = lnkStep (lnkStep L c d t) a b s := by
  funext i j
  unfold lnkStep
  generalize (if i = a ∧ j = b then s else 0) = x
  generalize (if i = b ∧ j = a then s else 0) = y
  generalize (if i = c ∧ j = d then t else 0) = z
  generalize (if i = d ∧ j = c then t else 0) = u
  omega
theorem ext_gi {n : Nat} {r s : List Int} (hr : r.length = n) (hs : s.length = n) (h : ∀ j, j < n → gi r j = gi s j) : r = s :=
  gi_ext (by omega) (fun j hj => h j (by omega))
theorem swp_back {a : List Int} {q : Nat} (h : q + 1 < a.length) : swp (swp a q) q = a := by
  refine ext_gi (n := a.length) (by rw [swp_len, swp_len]) rfl fun j hj => ?_
  rw [gi_swp _ _ _ (by rw [swp_len]; exact h), gi_swp _ _ _ h, gi_swp _ _ _ h, gi_swp _ _ _ h]
  rw [if_neg (show ¬ q = q + 1 by omega), if_pos rfl, if_pos rfl]
  by_cases e1 : j = q + 1
  · rw [if_pos e1, e1]
  · rw [if_neg e1, if_neg e1]
    by_cases e2 : j = q
    · rw [if_pos e2, e2]
    · rw [if_neg e2, if_neg e2]
theorem swp_far {a : List Int} {p q : Nat} (h : q + 1 < a.length) (hpq : p + 2 ≤ q) : swp (swp a p) q = swp (swp a q) p := by
  refine ext_gi (n := a.length) (by rw [swp_len, swp_len]) (by rw [swp_len, swp_len]) fun j hj => ?_
  have hp : p + 1 < a.length := by omega
  simp only [gi_swp _ q _ (show q + 1 < (swp a p).length by rw [swp_len]; exact h), gi_swp _ p _ (show p + 1 < (swp a q).length by rw [swp_len]; exact hp), gi_swp a p _ hp, gi_swp a q _ h]
  rw [if_neg (show ¬ q = p + 1 by omega), if_neg (show ¬ q = p by omega), if_neg (show ¬ q + 1 = p + 1 by omega), if_neg (show ¬ q + 1 = p by omega), if_neg (show ¬ p = q + 1 by omega), if_neg (show ¬ p = q by omega), if_neg (show ¬ p + 1 = q + 1 by omega), if_neg (show ¬ p + 1 = q by omega)]
  by_cases e1 : j = q + 1
  · rw [if_pos e1, if_neg (by omega), if_neg (by omega), if_pos e1]
  · rw [if_neg e1, if_neg e1]
    by_cases e2 : j = q
    · rw [if_pos e2, if_neg (by omega), if_neg (by omega), if_pos e2]
    · rw [if_neg e2, if_neg e2]
theorem swp_three {a : List Int} {q : Nat} (h : q + 2 < a.length) : swp (swp (swp a q) (q + 1)) q = swp (swp (swp a (q + 1)) q) (q + 1) := by
  refine ext_gi (n := a.length) (by simp only [swp_len]) (by simp only [swp_len]) fun j hj => ?_
  have l1 : ∀ l, (swp a l).length = a.length := swp_len a
  have l2 : ∀ l m, (swp (swp a l) m).length = a.length := fun l m => by rw [swp_len, swp_len]
  rw [gi_swp (swp (swp a q) (q + 1)) q j (by rw [l2]; omega), gi_swp (swp (swp a (q + 1)) q) (q + 1) j (by rw [l2]; omega)]
  simp only [gi_swp (swp a q) (q + 1) _ (by rw [l1]; omega), gi_swp (swp a (q + 1)) q _ (by rw [l1]; omega), gi_swp a q _ (show q + 1 < a.length by omega), gi_swp a (q + 1) _ (show q + 1 + 1 < a.length by omega)]
  by_cases e1 : j = q
  · subst e1; simp [show ¬ j + 1 + 1 = j by omega, show ¬ j = j + 1 + 1 by omega]
  · by_cases e2 : j = q + 1
    · subst e2; simp [show ¬ q + 1 + 1 = q by omega, show ¬ q = q + 1 + 1 by omega]
    · by_cases e3 : j = q + 1 + 1
      · subst e3; simp [show ¬ q + 1 + 1 = q by omega, show ¬ q = q + 1 + 1 by omega]
      · simp [e1, e2, e3]

theorem gi_three {a : List Int} {q : Nat} (h : q + 2 < a.length) :
    gi (swp a q) (q + 1) = gi a q ∧ gi (swp a q) (q + 1 + 1) = gi a (q + 1 + 1) ∧ gi (swp (swp a q) (q + 1)) q = gi a (q + 1) ∧ gi (swp (swp a q) (q + 1)) (q + 1) = gi a (q + 1 + 1)
    ∧ gi (swp a (q + 1)) q = gi a q ∧ gi (swp a (q + 1)) (q + 1) = gi a (q + 1 + 1) ∧ gi (swp (swp a (q + 1)) q) (q + 1) = gi a q ∧ gi (swp (swp a (q + 1)) q) (q + 1 + 1) = gi a (q + 1) := by
  have h0 : q + 1 < a.length := by omega
  have h1 : q + 1 + 1 < a.length := by omega
  have h2 : q + 1 + 1 < (swp a q).length := by rw [swp_len]; exact h1
  have h3 : q + 1 < (swp a (q + 1)).length := by rw [swp_len]; exact h0
  simp only [gi_swp (swp a q) (q + 1) _ h2, gi_swp (swp a (q + 1)) q _ h3, gi_swp a q _ h0, gi_swp a (q + 1) _ h1]
  simp [show ¬ q + 1 + 1 = q by omega, show ¬ q = q + 1 + 1 by omega]
theorem lnk_three (L : Nat → Nat → Int) (x y z : Nat) (s : Int) : lnkStep (lnkStep (lnkStep L x y s) x z s) y z s = lnkStep (lnkStep (lnkStep L y z s) x z s) x y s := by
  rw [lnk_swap (lnkStep L x y s), lnk_swap L x y y z, lnk_swap (lnkStep L y z s) x y x z]
theorem laws_st (n : Nat) : Laws n stp (fun s => s.1.length = n) := by
  refine ⟨fun s k hV hk => ?_, fun s k hV hk => ?_, fun s p q a b hV ha hb hp hq hpq => ?_, fun s q hV hq => ?_, fun s q hV hq => ?_⟩
  · show (swp _ _).length = n; rw [swp_len]; exact hV
  · obtain ⟨q, hq, hqn⟩ := place_of hk
    obtain ⟨a, L, x⟩ := s
    have hl : a.length = n := hV
    rw [stp_at hq, stp_at (q := q) (by omega), swp_back (by omega), sgn_opp (by omega), gi_swp _ _ _ (by omega), gi_swp _ _ _ (by omega), if_neg (show ¬ q = q + 1 by omega), if_pos rfl, if_pos rfl, lnk_back]
    rw [show x + sgn k + -sgn k = x by omega]
  · obtain ⟨c, L, x⟩ := s
    have hl : c.length = n := hV
    obtain ⟨q', hq', hqn⟩ := place_of hb
    have hqq : q + 1 < c.length := by omega
    have hpp : p + 1 < c.length := by omega
    rw [stp_at hp, stp_at hq, stp_at hq, stp_at hp, swp_far hqq hpq, gi_swp _ _ _ hpp, gi_swp _ _ _ hpp, gi_swp _ _ _ hqq, gi_swp _ _ _ hqq]
    rw [if_neg (show ¬ q = p + 1 by omega), if_neg (show ¬ q = p by omega), if_neg (show ¬ q + 1 = p + 1 by omega), if_neg (show ¬ q + 1 = p by omega), if_neg (show ¬ p = q + 1 by omega), if_neg (show ¬ p = q by omega), if_neg (show ¬ p + 1 = q + 1 by omega), if_neg (show ¬ p + 1 = q by omega), lnk_swap, show x + sgn a + sgn b = x + sgn b + sgn a by omega]
  · obtain ⟨a, L, x⟩ := s
    have hl : a.length = n := hV
    have qa : ((q : Int) + 1).natAbs = q + 1 := by omega
    have qb : ((q : Int) + 2).natAbs = q + 1 + 1 := by omega
    have s1 : sgn ((q : Int) + 1) = 1 := sgn_pos (by omega)
    have s2 : sgn ((q : Int) + 2) = 1 := sgn_pos (by omega)
    have hq2 : q + 2 < a.length := by omega
    obtain ⟨g1, g2, g3, g4, g5, g6, g7, g8⟩ := gi_three hq2
    rw [stp_at qa, stp_at qb, stp_at qa, stp_at qb, stp_at qa, stp_at qb, swp_three hq2, g1, g2, g3, g4, g5, g6, g7, g8, s1, s2, lnk_three]
  · obtain ⟨a, L, x⟩ := s
    have hl : a.length = n := hV
    have qa : (-((q : Int) + 1)).natAbs = q + 1 := by omega
    have qb : (-((q : Int) + 2)).natAbs = q + 1 + 1 := by omega
    have s1 : sgn (-((q : Int) + 1)) = -1 := sgn_neg (by omega)
    have s2 : sgn (-((q : Int) + 2)) = -1 := sgn_neg (by omega)
    have hq2 : q + 2 < a.length := by omega
    obtain ⟨g1, g2, g3, g4, g5, g6, g7, g8⟩ := gi_three hq2
    rw [stp_at qa, stp_at qb, stp_at qa, stp_at qb, stp_at qa, stp_at qb, swp_three hq2, g1, g2, g3, g4, g5, g6, g7, g8, s1, s2, lnk_three]

def st0 (n : Nat) : St := ((List.range n).map Int.ofNat, fun _ _ => 0, 0)
theorem fold_st {n : Nat} {xs : List Int} : ∀ k, k ≤ xs.length → (xs.take k).foldl stp (st0 n) = (fol n (xs.take k), lnk n xs k, ssum (xs.take k)) := by
  intro k
  induction k with
  | zero => intro _; simp [st0, fol, lnk, ssum]
  | succ k ih =>
    intro hk
    rw [take_succ_gi (by omega), List.foldl_append, ih (by omega), fol_snoc, ssum_snoc]
    rfl
theorem br_act {n : Nat} {x y : List Int} (h1 : 1 ≤ n) (h : Br n x y) : actRows n x = actRows n y := h _ letterRows (IV n) (laws_rows n h1) (start n) ⟨by unfold start; simp, RL_start n⟩
theorem br_st {n : Nat} {x y : List Int} (h : Br n x y) : fol n x = fol n y ∧ lnk n x x.length = lnk n y y.length ∧ ssum x = ssum y := by
  have := h _ stp _ (laws_st n) (st0 n) (by simp [st0])
  have h1 := fold_st (n := n) (xs := x) x.length (Nat.le_refl _)
  have h2 := fold_st (n := n) (xs := y) y.length (Nat.le_refl _)
  rw [List.take_length] at h1 h2
  rw [h1, h2] at this
  simpa using this
theorem br_perm {n : Nat} {x y : List Int} (h : Br n x y) : permOf n x = permOf n y := by unfold permOf; rw [(br_st h).1]
theorem br_links {n : Nat} {x y : List Int} (h : Br n x y) : linksOf n x = linksOf n y := by unfold linksOf; rw [(br_st h).2.1]
end Go.Proofs.YtigffblelngpjaaDoor
/- How long images get: the products of the first images grow as a sum of three. No program in sight. -/
namespace Go.Proofs.YtigffblelngpjaaDoor
set_option linter.unusedVariables false
set_option linter.unusedSimpArgs false
open Go Go.RowKit

theorem rl_app (x y : List Int) : (red (x ++ y)).length ≤ (red x).length + (red y).length := by
  have e1 := red_mid [] x y
  have e2 := red_mid (red x) y []
  simp only [List.nil_append, List.append_nil] at e1 e2
  rw [← e1, ← e2, red_app (redL_red x) (redL_red y)]
  exact prodL_len _ _
theorem rl_inv (x : List Int) : (red (winvL x)).length = (red x).length := by rw [red_invL, winvL_len]
theorem rl_three (x y z : List Int) : (red (x ++ winvL y ++ z)).length ≤ (red x).length + (red y).length + (red z).length := by
  have h1 := rl_app (x ++ winvL y) z
  have h2 := rl_app x (winvL y)
  rw [rl_inv] at h2
  omega

/-- The product of the first i images, reduced: how long. -/
def pl (rows : List (List Int)) (i : Nat) : Nat := (red (rows.take i).flatten).length

theorem red_flat_pos (p a b t : List Int) : red (p ++ (red (a ++ b ++ winvL a) ++ (a ++ t))) = red (p ++ (a ++ (b ++ t))) := by
  have e1 := red_mid p (a ++ b ++ winvL a) (a ++ t)
  have e2 := red_cut' (p ++ a ++ b) a t
  simp only [List.append_assoc] at e1 e2 ⊢
  rw [e1, e2]
theorem red_flat_neg (p a b t : List Int) : red (p ++ (b ++ (red (winvL b ++ a ++ b) ++ t))) = red (p ++ (a ++ (b ++ t))) := by
  have e1 := red_mid (p ++ b) (winvL b ++ a ++ b) t
  have e2 := red_cut p b (a ++ b ++ t)
  simp only [List.append_assoc] at e1 e2 ⊢
  rw [e1, e2]
theorem new_pos (p a b : List Int) : (red (p ++ red (a ++ b ++ winvL a))).length ≤ (red (p ++ (a ++ b))).length + (red (p ++ a)).length + (red p).length := by
  have e1 := red_mid p (a ++ b ++ winvL a) []
  have e2 := red_cut' (p ++ a ++ b ++ winvL a) p []
  have h := rl_three (p ++ (a ++ b)) (p ++ a) p
  simp only [invL_app, List.append_assoc, List.append_nil] at e1 e2 h ⊢
  rw [e1, ← e2]; exact h
theorem new_neg (p a b : List Int) : (red (p ++ b)).length ≤ (red (p ++ (a ++ b))).length + (red (p ++ a)).length + (red p).length := by
  have e1 := red_cut' (p ++ winvL a) p (a ++ b)
  have e2 := red_cut' p a b
  have h := rl_three p (p ++ a) (p ++ (a ++ b))
  simp only [invL_app, List.append_assoc, List.append_nil] at e1 e2 h ⊢
  rw [e1, e2] at h
  omega

theorem take_mid (p s : List (List Int)) (x y : List Int) (i : Nat) : ((p ++ x :: y :: s).take (p.length + 2 + i)).flatten = p.flatten ++ (x ++ (y ++ (s.take i).flatten)) := by
  rw [List.take_append, List.take_of_length_le (by omega), show p.length + 2 + i - p.length = i + 1 + 1 from by omega, List.take_succ_cons, List.take_succ_cons]
  simp
theorem take_one (p s : List (List Int)) (x : List Int) : ((p ++ x :: s).take (p.length + 1)).flatten = p.flatten ++ x := by
  rw [List.take_append, List.take_of_length_le (by omega), show p.length + 1 - p.length = 0 + 1 from by omega, List.take_succ_cons]
  simp
theorem take_low (p s : List (List Int)) {i : Nat} (h : i ≤ p.length) : (p ++ s).take i = p.take i := by
  rw [List.take_append, show i - p.length = 0 from by omega]; simp

theorem pl_letter {n : Nat} {rows : List (List Int)} {k : Int} (h1 : 1 ≤ n) (hV : IV n rows) (hk : wbad n k = false) :
    ∃ q : Nat, q + 1 < n ∧ (∀ i, i ≠ q + 1 → pl (letterRows rows k) i = pl rows i) ∧ pl (letterRows rows k) (q + 1) ≤ pl rows (q + 2) + pl rows (q + 1) + pl rows q := by
  rw [← (img_letter hV.1 hk h1 hV.2).1]
  have hl := hV.1
  rcases letter_place hk (by omega) with ⟨_, q, rfl, hqn⟩ | ⟨_, q, rfl, hqn⟩
  · refine ⟨q, by omega, ?_⟩
    rw [imgRows_pos]
    obtain ⟨p, s, hd, hp⟩ := two_rows (rows := rows) (q := q) (by omega)
    generalize ri rows q = a at hd ⊢
    generalize ri rows (q + 1) = b at hd ⊢
    subst hp
    rw [hd, set_two]
    refine ⟨fun i hi => ?_, ?_⟩
    · unfold pl
      by_cases hlo : i ≤ p.length
      · rw [take_low _ _ hlo, take_low _ _ hlo]
      · obtain ⟨j, rfl⟩ : ∃ j, i = p.length + 2 + j := ⟨i - p.length - 2, by omega⟩
        rw [take_mid, take_mid, red_flat_pos]
    · unfold pl
      rw [take_one, take_one, take_low _ _ (Nat.le_refl _), List.take_length, show p.length + 2 = p.length + 2 + 0 from rfl, take_mid]
      simp only [List.take_zero, List.flatten_nil, List.append_nil]
      exact new_pos _ _ _
  · refine ⟨q, by omega, ?_⟩
    rw [imgRows_neg]
    obtain ⟨p, s, hd, hp⟩ := two_rows (rows := rows) (q := q) (by omega)
    generalize ri rows q = a at hd ⊢
    generalize ri rows (q + 1) = b at hd ⊢
    subst hp
    rw [hd, set_two]
    refine ⟨fun i hi => ?_, ?_⟩
    · unfold pl
      by_cases hlo : i ≤ p.length
      · rw [take_low _ _ hlo, take_low _ _ hlo]
      · obtain ⟨j, rfl⟩ : ∃ j, i = p.length + 2 + j := ⟨i - p.length - 2, by omega⟩
        rw [take_mid, take_mid, red_flat_neg]
    · unfold pl
      rw [take_one, take_one, take_low _ _ (Nat.le_refl _), List.take_length, show p.length + 2 = p.length + 2 + 0 from rfl, take_mid]
      simp only [List.take_zero, List.flatten_nil, List.append_nil]
      exact new_neg _ _ _

/-- One of the lengths is at most A, one more at most B, the others at most C. -/
def Tri (rows : List (List Int)) (n A B C : Nat) : Prop := C ≤ B ∧ B ≤ A ∧ ∃ p q : Nat, ∀ i, i ≤ n → pl rows i ≤ if i = p then A else if i = q then B else C
theorem Tri.at {rows : List (List Int)} {n A B C p q i : Nat} (h : pl rows i ≤ if i = p then A else if i = q then B else C) : (i = p ∧ pl rows i ≤ A) ∨ (i ≠ p ∧ i = q ∧ pl rows i ≤ B) ∨ pl rows i ≤ C := by
  by_cases h1 : i = p
  · rw [if_pos h1] at h; exact .inl ⟨h1, h⟩
  · rw [if_neg h1] at h
    by_cases h2 : i = q
    · rw [if_pos h2] at h; exact .inr (.inl ⟨h1, h2, h⟩)
    · rw [if_neg h2] at h; exact .inr (.inr h)
theorem Tri.three {rows : List (List Int)} {n A B C : Nat} (h : Tri rows n A B C) {i j k : Nat} (hi : i ≤ n) (hj : j ≤ n) (hk : k ≤ n) (h1 : i ≠ j) (h2 : i ≠ k) (h3 : j ≠ k) : pl rows i + pl rows j + pl rows k ≤ A + B + C := by
  obtain ⟨a, b, p, q, h⟩ := h
  have x := Tri.at (n := n) (h i hi)
  have y := Tri.at (n := n) (h j hj)
  have z := Tri.at (n := n) (h k hk)
  rcases x with x | x | x <;> rcases y with y | y | y <;> rcases z with z | z | z <;> omega
theorem Tri.two {rows : List (List Int)} {n A B C : Nat} (h : Tri rows n A B C) {i j : Nat} (hi : i ≤ n) (hj : j ≤ n) (h1 : i ≠ j) : pl rows i + pl rows j ≤ A + B := by
  obtain ⟨a, b, p, q, h⟩ := h
  have x := Tri.at (n := n) (h i hi)
  have y := Tri.at (n := n) (h j hj)
  rcases x with x | x | x <;> rcases y with y | y | y <;> omega
theorem Tri.step {rows : List (List Int)} {n A B C : Nat} {k : Int} (h1 : 1 ≤ n) (hV : IV n rows) (hk : wbad n k = false) (h : Tri rows n A B C) : Tri (letterRows rows k) n (A + B + C) A B := by
  obtain ⟨m, hm, h2, h3⟩ := pl_letter h1 hV hk
  have h4 := h.three (i := m + 2) (j := m + 1) (k := m) (by omega) (by omega) (by omega) (by omega) (by omega) (by omega)
  obtain ⟨a, b, p, q, h⟩ := h
  refine ⟨b, by omega, m + 1, p, fun i hi => ?_⟩
  by_cases e : i = m + 1
  · rw [if_pos e, e]; omega
  · rw [if_neg e, h2 i e]
    have := h i hi
    split at this
    · rename_i e1; rw [if_pos e1]; exact this
    · rename_i e1
      rw [if_neg e1]
      split at this <;> omega

def wtr : Nat → Nat × Nat × Nat
  | 0 => (6, 5, 4)
  | k + 1 => ((wtr k).1 + (wtr k).2.1 + (wtr k).2.2, (wtr k).1, (wtr k).2.1)
theorem tr_le : ∀ k, k < 17 → (wtr k).1 + (wtr k).2.1 ≤ 202603 := by decide
theorem start_take (n i : Nat) (h : i ≤ n) : (start n).take i = start i := by
  apply List.ext_getElem
  · simp [start]; omega
  · intro j h1 h2; simp [start]
theorem tri_start {n : Nat} (h6 : n ≤ 6) : Tri (start n) n 6 5 4 := by
  refine ⟨by omega, by omega, 6, 5, fun i hi => ?_⟩
  have e : pl (start n) i = i := by
    unfold pl
    rw [start_take n i hi, flat_start, red_of (redL_ones i)]; simp [onesL]
  rw [e]
  by_cases h1 : i = 6
  · rw [if_pos h1]; omega
  · rw [if_neg h1]
    by_cases h2 : i = 5
    · rw [if_pos h2]; omega
    · rw [if_neg h2]; omega
theorem act_IV {n : Nat} {xs : List Int} (h1 : 1 ≤ n) (hv : Val n xs) : IV n (actRows n xs) := by
  refine ⟨actRows_len n xs, ?_⟩
  have := act_RL hv.at h1 xs.length (Nat.le_refl _)
  rwa [List.take_length] at this
theorem tri_act {n : Nat} {xs : List Int} (h1 : 1 ≤ n) (h6 : n ≤ 6) (hv : Val n xs) : ∀ k, k ≤ xs.length → Tri (actRows n (xs.take k)) n (wtr k).1 (wtr k).2.1 (wtr k).2.2 := by
  intro k
  induction k with
  | zero => intro _; exact tri_start h6
  | succ k ih =>
    intro hk
    rw [take_succ_gi (by omega), actRows_snoc]
    exact Tri.step h1 (act_IV h1 (hv.take k)) (hv.at k (by omega)) (ih (by omega))
theorem row_pl {n : Nat} {rows : List (List Int)} (hV : IV n rows) {i : Nat} (hi : i < n) : (ri rows i).length ≤ pl rows i + pl rows (i + 1) := by
  have hl := hV.1
  have e : (rows.take (i + 1)).flatten = (rows.take i).flatten ++ ri rows i := by
    rw [List.take_succ_eq_append_getElem (by omega), ri_lt (by omega), List.flatten_append, List.flatten_singleton]
  have h := rl_app (winvL (rows.take i).flatten) (rows.take (i + 1)).flatten
  have e1 := red_cut' [] (rows.take i).flatten (ri rows i)
  rw [rl_inv, e] at h
  simp only [List.nil_append, List.append_assoc] at e1 h
  rw [e1, red_of (hV.2 i), ← e] at h
  exact h
theorem row_le {n : Nat} {u : List Int} (h1 : 1 ≤ n) (h6 : n ≤ 6) (hv : Val n u) (hl : u.length ≤ 16) {i : Nat} (hi : i < n) : (ri (actRows n u) i).length ≤ 202603 := by
  have ht := tri_act h1 h6 hv u.length (Nat.le_refl _)
  rw [List.take_length] at ht
  have := row_pl (act_IV h1 hv) hi
  have h2 := ht.two (i := i) (j := i + 1) (by omega) (by omega) (by omega)
  have h3 := tr_le u.length (by omega)
  omega
theorem letterLen_row {n : Nat} {rows : List (List Int)} {k : Int} (hl : rows.length = n) (hk : wbad n k = false) (h1 : 1 ≤ n) : ∃ i, i < n ∧ letterLen rows k = (ri (letterRows rows k) i).length := by
  rcases letter_place hk (by omega) with ⟨_, q, rfl, hqn⟩ | ⟨_, q, rfl, hqn⟩
  · refine ⟨q, by omega, ?_⟩
    rw [letterLen_pos _ _ (by omega), letterRows_pos, ri_set _ _ _ _ (by rw [List.length_set]; omega), if_neg (by omega), ri_set _ _ _ _ (by omega), if_pos rfl]
  · refine ⟨q + 1, by omega, ?_⟩
    rw [letterLen_neg _ _ (by omega), letterRows_neg, ri_set _ _ _ _ (by rw [List.length_set]; omega), if_pos rfl]
/-- The images of words that are short in their braids fit. -/
theorem fits_br {n : Nat} {v : List Int} (h1 : 1 ≤ n) (h6 : n ≤ 6) (hv : Val n v) (h : ∀ j, j ≤ v.length → ∃ u, Val n u ∧ u.length ≤ 16 ∧ Br n (v.take j) u) : fits n v := by
  intro k hk
  obtain ⟨i, hi, e⟩ := letterLen_row (actRows_len n (v.take k)) (hv.at k hk) h1
  rw [e, ← actRows_snoc, ← take_succ_gi hk]
  obtain ⟨u, hu, hl, hb⟩ := h (k + 1) (by omega)
  rw [br_act h1 hb]
  have := row_le h1 h6 hu hl hi
  omega
/-- A word of a braid that has a word of at most 12 letters, and that word and the way back. -/
theorem fits_two {n : Nat} {w v : List Int} (h1 : 1 ≤ n) (h6 : n ≤ 6) (hw : Val n w) (hv : Val n v) (hb : Br n w v) (hlw : w.length ≤ 12) (hlv : v.length ≤ 21) : fits n v ∧ fits n (w ++ winvL v) ∧ actRows n (w ++ winvL v) = start n := by
  have key : ∀ j, j ≤ v.length → ∃ u, Val n u ∧ u.length ≤ 16 ∧ Br n (v.take j) u ∧ Br n (w ++ winvL (v.drop j)) u := by
    intro j hj
    have hB : Br n (w ++ winvL (v.drop j)) (v.take j) := by
      have h2 := hb.right (winvL (v.drop j))
      have h3 := (Br.inv (hv.drop j)).left (hv.take j)
      rw [List.append_nil, ← List.append_assoc, List.take_append_drop] at h3
      exact h2.trans h3
    by_cases hs : j ≤ 16
    · exact ⟨v.take j, hv.take j, by rw [List.length_take]; omega, Br.refl _ _, hB⟩
    · exact ⟨w ++ winvL (v.drop j), hw.app (hv.drop j).inv, by rw [List.length_append, winvL_len, List.length_drop]; omega, hB.symm, Br.refl _ _⟩
  refine ⟨fits_br h1 h6 hv fun j hj => ?_, fits_br h1 h6 (hw.app hv.inv) fun j hj => ?_, ?_⟩
  · obtain ⟨u, a, b, c, _⟩ := key j hj; exact ⟨u, a, b, c⟩
  · by_cases hjw : j ≤ w.length
    · refine ⟨w.take j, hw.take j, by rw [List.length_take]; omega, ?_⟩
      rw [List.take_append_of_le_length hjw]; exact Br.refl _ _
    · rw [List.length_append, winvL_len] at hj
      obtain ⟨u, a, b, _, c⟩ := key (v.length - (j - w.length)) (by omega)
      refine ⟨u, a, b, ?_⟩
      have e : (w ++ winvL v).take j = w ++ winvL (v.drop (v.length - (j - w.length))) := by
        rw [List.take_append, List.take_of_length_le (by omega)]
        congr 1
        unfold winvL
        rw [← List.map_take, List.take_reverse]
      rw [e]; exact c
  · have h2 := (hb.right (winvL v)).trans (Br.inv hv)
    rw [br_act h1 h2]; rfl
end Go.Proofs.YtigffblelngpjaaDoor
/- Contract of the law's exchanged. -/
namespace Go.Proofs.YtigffblelngpjaaDoor
set_option linter.unusedVariables false
set_option linter.unusedSimpArgs false
set_option maxRecDepth 8000
open Go Go.RowKit

theorem exch_short {xs : List Int} {i : Nat} (h : xs.length ≤ i + 1) : exch xs i = xs := by unfold exch; rw [if_pos h]
theorem exch_two {xs : List Int} {i : Nat} (h : i + 1 < xs.length) (hd : 1 < ((gi xs i).natAbs : Int) - (gi xs (i + 1)).natAbs ∨ ((gi xs i).natAbs : Int) - (gi xs (i + 1)).natAbs < -1) : exch xs i = (xs.set i (gi xs (i + 1))).set (i + 1) (gi xs i) := by
  unfold exch; rw [if_neg (by omega), if_pos hd]
theorem exch_three {xs : List Int} {i : Nat} (h : i + 2 < xs.length) (hc : gi xs (i + 2) = gi xs i) (hd : ((gi xs i).natAbs : Int) - (gi xs (i + 1)).natAbs = 1 ∨ ((gi xs i).natAbs : Int) - (gi xs (i + 1)).natAbs = -1) (hs : (0 < gi xs i) ↔ (0 < gi xs (i + 1))) : exch xs i = ((xs.set i (gi xs (i + 1))).set (i + 1) (gi xs i)).set (i + 2) (gi xs (i + 1)) := by
  unfold exch; rw [if_neg (by omega), if_neg (by omega), if_pos ⟨h, hc, hd, decide_eq_decide.2 hs⟩]
theorem exch_none {xs : List Int} {i : Nat} (h : ¬ (1 < ((gi xs i).natAbs : Int) - (gi xs (i + 1)).natAbs ∨ ((gi xs i).natAbs : Int) - (gi xs (i + 1)).natAbs < -1)) (hn : ¬ (i + 2 < xs.length ∧ gi xs (i + 2) = gi xs i ∧ (((gi xs i).natAbs : Int) - (gi xs (i + 1)).natAbs = 1 ∨ ((gi xs i).natAbs : Int) - (gi xs (i + 1)).natAbs = -1) ∧ ((0 < gi xs i) ↔ (0 < gi xs (i + 1))))) : exch xs i = xs := by
  unfold exch
  by_cases h0 : xs.length ≤ i + 1
  · rw [if_pos h0]
  · rw [if_neg h0, if_neg h, if_neg (fun hh => hn ⟨hh.1, hh.2.1, hh.2.2.1, decide_eq_decide.1 hh.2.2.2⟩)]

set_option maxHeartbeats 2000000 in
theorem exchanged_calls (i : Nat) (v : Value) (c : Nat) (xs : List Int) (w : World) (h : IS .i64 w v c xs) (hi : i ≤ 1000) (hl : xs.length ≤ 1000) (hb : ∀ j, j < xs.length → -100 ≤ gi xs j ∧ gi xs j ≤ 100) :
    Calls Tryd.prog 38 #[v, .int .i64 i] w (RetX .i64 w (exch xs i)) := by
  obtain ⟨a1, n, c', rfl, hn, rfl, h1⟩ := h.out
  have hlen := h1.len.2.2
  rw [← hn] at hl hb hlen
  have hcm : c' ≤ maxLen := by obtain ⟨_, h2, _⟩ := h1.open; exact h2
  unfold maxLen at hcm
  have H1 := Lib.hid h1; have HN := Lib.hid hn; have HB := Lib.hid hb
  clear h h1 hn hb
  go_enter Tryd.func38, Tryd.ntmps38
  go_wp2_with (at_builtin; refine app_own weiInt rfl _ _ rfl w.heap.size _ 0 [] rfl (World.ownsRow_made w #[] 0 (Nat.le_refl _) (by unfold maxLen; omega) rfl) _ _ _ rfl (H1.out.ext ((Ext.refl w).alloc _)) (onesI _) ?c4 ?c5 ?c6 ?_)
  case c4 => have := HN.out; simp; omega
  case c5 => have := HN.out; simp; omega
  case c6 => simp
  intro v1 w1 hown1 hb1
  have x1 : Ext w w1 := Below.trans ((Ext.refl w).alloc _) hb1
  have hown2 : w1.ownsRow w.heap.size 3 1 v1 n (xs.map (Value.int .i64)) := by
    have := hown1
    simp only [List.length_map, Nat.zero_add, List.nil_append, ← HN.out] at this
    exact this
  have X1 := Lib.hid x1
  clear hown1 hb1 x1
  by_cases h0 : n = 0
  · subst h0
    obtain ⟨c2, hI⟩ := IS.of_own hown2
    obtain ⟨a2, n2, c2', rfl, hn2, rfl, hI⟩ := hI.out
    obtain rfl : n2 = 0 := by rw [hn2, ← HN.out]
    have HI := Lib.hid hI
    clear hown2 hI hn2
    have e1 : (0 : Int) ≤ (i : Int) + 1 := by omega
    go_wp2
    go_ret
    exact ⟨_, c2', rfl, by rw [exch_short (by rw [← HN.out]; omega)]; exact HI.out, X1.out⟩
  · obtain ⟨g, cap, f, rfl, hBg, hg, hnc, hcmx, hrow, hf⟩ := own_open hown2 (by omega)
    have hfx : ∀ j, j < n → f j = .int .i64 (gi xs j) := fun j hj => hf j _ (by rw [List.getElem?_map, gi_some (by rw [← HN.out]; exact hj)]; rfl)
    have hend : ∀ (w' : World) (f' : Nat → Value) ys, w'.rowIs g 3 cap f' → ys.length = n → (∀ j, j < n → f' j = .int .i64 (gi ys j)) → IS .i64 w' (.slice (some ⟨g, 0, none⟩) n cap) cap ys := fun w' f' ys hr hy hj => IS.mk hy.symm hnc hcmx (fun j hj' => by rw [Nat.zero_add, hr.cell (by omega), hj j hj'])
    have Hrow := Lib.hid hrow; have Hfx := Lib.hid hfx; have Hend := Lib.hid hend
    unfold maxLen at hcmx
    clear hown2 hrow hf hfx hend
    by_cases h2 : n ≤ i + 1
    · have e1 : (n : Int) ≤ (i : Int) + 1 := by omega
      go_wp2
      go_ret
      exact ⟨_, cap, rfl, by rw [exch_short (by rw [← HN.out]; omega)]; exact Hend.out _ _ _ Hrow.out HN.out.symm Hfx.out, X1.out⟩
    · have e1 : ¬ (n : Int) ≤ (i : Int) + 1 := by omega
      have e2 : i < n := by omega
      have e3 : i + 1 < n := by omega
      obtain ⟨a, ha⟩ : ∃ a, a = gi xs i := ⟨_, rfl⟩
      obtain ⟨b, hb⟩ : ∃ b, b = gi xs (i + 1) := ⟨_, rfl⟩
      have ca : w1.cell? ⟨g, i, none⟩ = some (.int .i64 a) := by rw [Hrow.out.cell (by omega), Hfx.out i e2, ha]
      have cb : w1.cell? ⟨g, i + 1, none⟩ = some (.int .i64 b) := by rw [Hrow.out.cell (by omega), Hfx.out (i + 1) e3, hb]
      have fa : w1.frozen? ⟨g, i, none⟩ = false := Hrow.out.frozen _
      have fb : w1.frozen? ⟨g, i + 1, none⟩ = false := Hrow.out.frozen _
      have ba := HB.out i e2
      have bb := HB.out (i + 1) e3
      rw [← ha] at ba
      rw [← hb] at bb
      have HA := Lib.hid ha; have HBb := Lib.hid hb
      obtain ⟨A, hA⟩ : ∃ A : Int, A = a.natAbs := ⟨_, rfl⟩
      obtain ⟨B, hB⟩ : ∃ B : Int, B = b.natAbs := ⟨_, rfl⟩
      have ma : (if a < -a then -a else a) = A := by split <;> omega
      have mb : (if b < -b then -b else b) = B := by split <;> omega
      have bA : 0 ≤ A ∧ A ≤ 100 := by omega
      have bB : 0 ≤ B ∧ B ≤ 100 := by omega
      have HAA := Lib.hid hA; have HBB := Lib.hid hB
      clear ha hb hA hB
      have t1 : IntKind.i64.wrap ((i : Int) + 1) = (i : Int) + 1 := IntWalk.i64_in _ ⟨by omega, by omega⟩
      have t2 : ((i : Int) + 1).toNat = i + 1 := by omega
      have t3 : (0 : Int) ≤ (i : Int) + 1 := by omega
      have t4 : (i : Int) + 1 < n := by omega
      have t5 : (i : Int) < n := by omega
      go_wp2
      go_quiet (fail)
      clear t1 t2 t3 t4 t5
      obtain ⟨wq, hwq⟩ : ∃ wq, wq = w1.drewN nq := ⟨_, rfl⟩
      have xq : Ext w1 wq := by rw [hwq]; exact (Ext.refl w1).drewN nq
      rw [← hwq]
      have Xq := Lib.hid (X1.out.trans xq)
      have Rq := Lib.hid (xq.row Hrow.out)
      replace ca := xq.cell ca; replace cb := xq.cell cb
      replace fa : wq.frozen? ⟨g, i, none⟩ = false := Rq.out.frozen _
      replace fb : wq.frozen? ⟨g, i + 1, none⟩ = false := Rq.out.frozen _
      clear hwq xq X1 Hrow
      by_cases d1 : 1 < A - B ∨ A - B < -1
      · have ht := exch_two (xs := xs) (i := i) (by rw [← HN.out]; omega) (by rw [← HA.out, ← HBb.out]; have := HAA.out; have := HBB.out; omega)
        rw [← HA.out, ← HBb.out] at ht
        have HT := Lib.hid ht
        clear ht
        have fin : Hid (RetX .i64 w (exch xs i) (.returned (.slice (some ⟨g, 0, none⟩) n cap)) ((wq.setCell ⟨g, i, none⟩ (.int .i64 b)).setCell ⟨g, i + 1, none⟩ (.int .i64 a))) := by
          refine ⟨_, cap, rfl, ?_, (Xq.out.setCell hBg _).setCell hBg _⟩
          rw [HT.out]
          refine Hend.out _ _ _ ((Rq.out.set i _).set (i + 1) _) (by simp [HN.out]) (fun j hj => ?_)
          rw [wgi_set _ _ _ _ (by rw [List.length_set, ← HN.out]; omega), wgi_set _ _ _ _ (by rw [← HN.out]; omega)]
          by_cases q1 : j = i + 1
          · simp [q1]
          · by_cases q2 : j = i
            · simp [q2]
            · simp only [if_neg q1, if_neg q2]; exact Hfx.out j hj
        rcases d1 with d1 | d1
        · go_wp2
          go_ret
          exact fin.out
        · have d2 : ¬ 1 < A - B := by omega
          go_wp2
          go_ret
          exact fin.out
      · have d2 : ¬ 1 < A - B := by omega
        have d3 : ¬ A - B < -1 := by omega
        clear d1
        have same : ¬ (i + 2 < n ∧ gi xs (i + 2) = a ∧ (A - B = 1 ∨ A - B = -1) ∧ (0 < a ↔ 0 < b)) → RetX .i64 w (exch xs i) (.returned (.slice (some ⟨g, 0, none⟩) n cap)) wq := fun hno => by
          have ht := exch_none (xs := xs) (i := i) (by rw [← HA.out, ← HBb.out]; have := HAA.out; have := HBB.out; omega) (by rw [← HA.out, ← HBb.out, ← HN.out, ← HAA.out, ← HBB.out]; exact hno)
          exact ⟨_, cap, rfl, by rw [ht]; exact Hend.out _ _ _ Rq.out HN.out.symm Hfx.out, Xq.out⟩
        have Same := Lib.hid same
        clear same
        by_cases k1 : i + 2 < n
        · obtain ⟨c, hc⟩ : ∃ c, c = gi xs (i + 2) := ⟨_, rfl⟩
          have cc : wq.cell? ⟨g, i + 2, none⟩ = some (.int .i64 c) := by rw [Rq.out.cell (by omega), Hfx.out (i + 2) k1, hc]
          have fc : wq.frozen? ⟨g, i + 2, none⟩ = false := Rq.out.frozen _
          have HC := Lib.hid hc
          clear hc
          have k1' : (i : Int) + 2 < n := by omega
          by_cases k2 : c = a
          · by_cases k3 : A - B = 1 ∨ A - B = -1
            · by_cases k4 : (0 < a ↔ 0 < b)
              · have ht := exch_three (xs := xs) (i := i) (by rw [← HN.out]; omega) (by rw [← HA.out, ← HC.out]; exact k2) (by rw [← HA.out, ← HBb.out]; have := HAA.out; have := HBB.out; omega) (by rw [← HA.out, ← HBb.out]; exact k4)
                rw [← HA.out, ← HBb.out] at ht
                have HT := Lib.hid ht
                clear ht
                have fin : Hid (RetX .i64 w (exch xs i) (.returned (.slice (some ⟨g, 0, none⟩) n cap)) (((wq.setCell ⟨g, i, none⟩ (.int .i64 b)).setCell ⟨g, i + 1, none⟩ (.int .i64 a)).setCell ⟨g, i + 2, none⟩ (.int .i64 b))) := by
                  refine ⟨_, cap, rfl, ?_, ((Xq.out.setCell hBg _).setCell hBg _).setCell hBg _⟩
                  rw [HT.out]
                  refine Hend.out _ _ _ (((Rq.out.set i _).set (i + 1) _).set (i + 2) _) (by simp [HN.out]) (fun j hj => ?_)
                  rw [wgi_set _ _ _ _ (by rw [List.length_set, List.length_set, ← HN.out]; omega), wgi_set _ _ _ _ (by rw [List.length_set, ← HN.out]; omega), wgi_set _ _ _ _ (by rw [← HN.out]; omega)]
                  by_cases q0 : j = i + 2
                  · simp [q0]
                  · by_cases q1 : j = i + 1
                    · simp [q1]
                    · by_cases q2 : j = i
                      · simp [q2]
                      · simp only [if_neg q0, if_neg q1, if_neg q2]; exact Hfx.out j hj
                have k2' : (c == a) = true := beq_iff_eq.2 k2
                clear k2
                have s1 : (decide (0 < a) == decide (0 < b)) = true := by rw [beq_iff_eq]; exact decide_eq_decide.2 k4
                clear k4
                by_cases k5 : A - B = 1
                · have k6 : (A - B == 1) = true := beq_iff_eq.2 k5
                  clear k5 k3
                  go_wp2
                  go_ret
                  exact fin.out
                · have k6 : (A - B == 1) = false := beq_eq_false_iff_ne.2 k5
                  have k7 : (A - B == -1) = true := beq_iff_eq.2 (by omega)
                  clear k5 k3
                  go_wp2
                  go_ret
                  exact fin.out
              · have SS := Lib.hid (Same.out (fun h => k4 h.2.2.2))
                have k2' : (c == a) = true := beq_iff_eq.2 k2
                have s1 : (decide (0 < a) == decide (0 < b)) = false := by rw [beq_eq_false_iff_ne]; exact fun e => k4 (decide_eq_decide.1 e)
                clear k2 k4 Same
                by_cases k5 : A - B = 1
                · have k6 : (A - B == 1) = true := beq_iff_eq.2 k5
                  clear k5 k3
                  go_wp2
                  go_ret
                  exact SS.out
                · have k6 : (A - B == 1) = false := beq_eq_false_iff_ne.2 k5
                  have k7 : (A - B == -1) = true := beq_iff_eq.2 (by omega)
                  clear k5 k3
                  go_wp2
                  go_ret
                  exact SS.out
            · have SS := Lib.hid (Same.out (fun h => k3 h.2.2.1))
              have k2' : (c == a) = true := beq_iff_eq.2 k2
              have k6 : (A - B == 1) = false := beq_eq_false_iff_ne.2 (fun e => k3 (.inl e))
              have k7 : (A - B == -1) = false := beq_eq_false_iff_ne.2 (fun e => k3 (.inr e))
              clear k2 k3 Same
              go_wp2
              go_ret
              exact SS.out
          · have SS := Lib.hid (Same.out (fun h => k2 (by rw [HC.out]; exact h.2.1)))
            have k2' : (c == a) = false := beq_eq_false_iff_ne.2 k2
            clear k2 Same
            go_wp2
            go_ret
            exact SS.out
        · have SS := Lib.hid (Same.out (fun h => k1 h.1))
          have k1' : ¬ (i : Int) + 2 < n := by omega
          clear Same k1
          go_wp2
          go_ret
          exact SS.out
end Go.Proofs.YtigffblelngpjaaDoor
