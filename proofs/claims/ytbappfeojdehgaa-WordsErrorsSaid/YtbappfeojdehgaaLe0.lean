/- The law WordsErrors: its walk. -/
import Derived.Test.YtbappfeojdehgaaEm
import Derived.Test.YtbappfeojdehgaaEo
import Derived.Test.YtbappfeojdehgaaLf
import Derived.Test.YtbappfeojdehgaaPchk
import Derived.Test.YtbappfeojdehgaaWv
import Derived.Outline
namespace Go.Proofs.Ytbappfeojdehgaa
set_option linter.unusedVariables false
set_option linter.unusedSimpArgs false
open Go Go.RowKit

/-! ### the permutation of a word is one -/
theorem swp_perm {a : List Int} {l : Nat} (h : l + 1 < a.length) : List.Perm (swp a l) a := by
  have e1 : a = a.take l ++ gi a l :: gi a (l + 1) :: a.drop (l + 2) := by
    apply List.ext_getElem
    · simp; omega
    · intro i h1 h2
      rw [← gi_of_lt h1, ← gi_of_lt h2]
      by_cases c1 : i < l
      · rw [gi_append_left (by simp; omega), gi_take c1]
      · rw [gi_append_right (by simp; omega)]
        obtain ⟨d, rfl⟩ : ∃ d, i = l + d := ⟨i - l, by omega⟩
        rw [show l + d - (a.take l).length = d by simp; omega]
        rcases d with _ | _ | d
        · rfl
        · rfl
        · rw [gi_cons_succ, gi_cons_succ, gi_drop]; congr 1; omega
  have e2 : swp a l = a.take l ++ gi a (l + 1) :: gi a l :: a.drop (l + 2) := by
    apply List.ext_getElem
    · rw [swp_len]; simp; omega
    · intro i h1 h2
      rw [← gi_of_lt h1, ← gi_of_lt h2, gi_swp _ _ _ h]
      by_cases c1 : i < l
      · rw [gi_append_left (by simp; omega), gi_take c1, if_neg (by omega), if_neg (by omega)]
      · rw [gi_append_right (by simp; omega)]
        obtain ⟨d, rfl⟩ : ∃ d, i = l + d := ⟨i - l, by omega⟩
        rw [show l + d - (a.take l).length = d by simp; omega]
        rcases d with _ | _ | d
        · rw [if_neg (by omega), if_pos (by omega)]; rfl
        · rw [if_pos (by omega)]; rfl
        · rw [if_neg (by omega), if_neg (by omega), gi_cons_succ, gi_cons_succ, gi_drop]; congr 1; omega
  rw [e2]
  conv => rhs; rw [e1]
  exact List.Perm.append_left _ (List.Perm.swap _ _ _)
theorem fol_perm {n : Nat} {xs : List Int} (h : ∀ i, i < xs.length → wbad n (gi xs i) = false) (h1 : 1 ≤ n) (h8 : n ≤ 8) : ∀ k, k ≤ xs.length → List.Perm (fol n (xs.take k)) ((List.range n).map Int.ofNat) := by
  intro k
  induction k with
  | zero => intro _; exact List.Perm.refl _
  | succ k ih =>
    intro hk
    rw [take_succ_gi (by omega), fol_snoc]
    have hb := lft_bd (n := n) (by omega) (by omega) (h k (by omega))
    refine (swp_perm ?_).trans (ih (by omega))
    rw [fol_len]; omega
theorem pok_permOf {n : Nat} {xs : List Int} (h : ∀ i, i < xs.length → wbad n (gi xs i) = false) (h1 : 1 ≤ n) (h8 : n ≤ 8) : pok (permOf n xs) ∧ (permOf n xs).length = n := by
  have hp := fol_perm h h1 h8 xs.length (Nat.le_refl _)
  have hi := inj_fol h h1 h8 xs.length (Nat.le_refl _)
  have hb := fol_bd h h1 h8 xs.length (Nat.le_refl _)
  rw [List.take_length] at hp hi hb
  have hl := fol_len n xs
  obtain ⟨a, ha⟩ : ∃ a, a = fol n xs := ⟨_, rfl⟩
  have hlen : (permOf n xs).length = n := inv_len n _
  have hg : ∀ i, i < n → gi (permOf n xs) (gi a i).toNat = (i : Int) + 1 := fun i hin => by
    unfold permOf
    rw [← ha]
    exact invTo_gi (by rw [ha]; exact hl) (by rw [ha]; exact hi) (by rw [ha]; exact hb) n (Nat.le_refl _) i hin
  rw [← ha] at hp hi hb hl
  have hsur : ∀ s, s < n → ∃ i, i < n ∧ (gi a i).toNat = s := fun s hs => by
    have hm : (s : Int) ∈ a := by rw [hp.mem_iff, List.mem_map]; exact ⟨s, List.mem_range.2 hs, rfl⟩
    obtain ⟨i, hi2, he⟩ := List.mem_iff_getElem.1 hm
    exact ⟨i, by omega, by rw [gi_of_lt hi2, he]; rfl⟩
  have hval : ∀ s, s < n → ∃ i, i < n ∧ (gi a i).toNat = s ∧ gi (permOf n xs) s = (i : Int) + 1 := fun s hs => by
    obtain ⟨i, h2, h3⟩ := hsur s hs
    exact ⟨i, h2, h3, by rw [← h3]; exact hg i h2⟩
  refine ⟨⟨gi_all (P := fun x => 1 ≤ x ∧ x ≤ ((permOf n xs).length : Int)) fun s hs => ?_, ?_⟩, hlen⟩
  · rw [hlen] at hs ⊢
    obtain ⟨i, h2, _, h3⟩ := hval s hs
    rw [h3]; omega
  · rw [List.Nodup, List.pairwise_iff_getElem]
    intro s t hs ht hst
    rw [← gi_of_lt hs, ← gi_of_lt ht]
    rw [hlen] at hs ht
    obtain ⟨i, i1, i2, i3⟩ := hval s hs
    obtain ⟨j, j1, j2, j3⟩ := hval t ht
    rw [i3, j3]
    intro e
    have : i = j := by omega
    subst this
    omega

theorem pows_good (t i : Nat) (h : i < 2 * t) : wbad 3 (gi (pows t) i) = false := by
  rw [pows_gi h]; split <;> decide
theorem pows_check {t : Nat} (h : t ≤ 20) : wcheck 3 (pows t) = 0 :=
  wcheck_ok (by omega) (by omega) (by rw [pows_len]; omega) (fun i hi => pows_good t i (by rw [pows_len] at hi; exact hi))
theorem pows_rows {t : Nat} (h : t ≤ 12) : ∀ i, i < 3 → 1 ≤ (ri (actRows 3 (pows t)) i).length ∧ (ri (actRows 3 (pows t)) i).length ≤ 262144 := by
  intro i hi
  have e : (lens 12).1 = 92737 ∧ (lens 12).2.1 = 57313 ∧ (lens 12).2.2 = 150049 := by decide
  have hl : ∀ {s t : Nat}, s ≤ t → (lens s).1 ≤ (lens t).1 ∧ (lens s).2.1 ≤ (lens t).2.1 ∧ (lens s).2.2 ≤ (lens t).2.2 := by
    intro s t
    induction t with
    | zero => intro h; obtain rfl : s = 0 := (by omega); exact ⟨Nat.le_refl _, Nat.le_refl _, Nat.le_refl _⟩
    | succ t ih =>
      intro h
      by_cases e : s ≤ t
      · have := lens_mono t; have := ih e; omega
      · obtain rfl : s = t + 1 := (by omega); exact ⟨Nat.le_refl _, Nat.le_refl _, Nat.le_refl _⟩
  cases t with
  | zero =>
    rcases (show i = 0 ∨ i = 1 ∨ i = 2 by omega) with rfl | rfl | rfl <;> decide
  | succ t =>
    have hp := PA_pows t
    have := hl (s := t + 1) (t := 12) h
    have := hp.pa; have := hp.pb; have := hp.pc
    rcases (show i = 0 ∨ i = 1 ∨ i = 2 by omega) with rfl | rfl | rfl
    · rw [hp.fa]; omega
    · rw [hp.fb]; omega
    · rw [hp.fc]; omega

set_option maxRecDepth 100000 in
theorem Errors_long (n t : Int) (v : Value) (c : Nat) (xs : List Int) (w : World) (h : IS .i64 w v c xs) (hl : 70 < xs.length) :
    Calls Try.prog 7 #[.int .i64 n, v, .int .u8 t] w fun e w' => e = .returned (.bool true) ∧ Ext w w' := by
  obtain ⟨h1, h2, ao, rfl, hao⟩ := h.open
  unfold maxLen at h2
  clear hao h
  go_enter Try.func7, Try.ntmps7
  go_wp2_with fail
  refine (lives_calls _).mono ?_
  rintro e w1 ⟨rfl, x1⟩
  go_wp2
  go_ret
  exact ⟨rfl, x1⟩

end Go.Proofs.Ytbappfeojdehgaa
