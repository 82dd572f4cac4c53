/- Plain facts: the permutation that plain data choose. No program in sight. -/
import Derived.Test.YtpcbadagffeehaaQd
namespace Go.Proofs.Ytpcbadagffeehaa
set_option linter.unusedVariables false
set_option linter.unusedSimpArgs false
open Go

def mk (xs : List Int) (i : Nat) (l : List Int) : Nat := if i < xs.length then (gi xs i % (l.length : Int)).toNat else 0
def mleft (xs : List Int) (n : Nat) : Nat → List Int
  | 0 => idL n
  | i + 1 => (mleft xs n i).take (mk xs i (mleft xs n i)) ++ (mleft xs n i).drop (mk xs i (mleft xs n i) + 1)
def mout (xs : List Int) (n : Nat) : Nat → List Int
  | 0 => []
  | i + 1 => mout xs n i ++ [gi (mleft xs n i) (mk xs i (mleft xs n i))]
def mN (xs : List Int) : Nat := if 8 < xs.length then 8 else if xs.length < 1 then 1 else xs.length
def mof (xs : List Int) : List Int := mout xs (mN xs) (mN xs)
theorem mN_bd (xs : List Int) : 1 ≤ mN xs ∧ mN xs ≤ 8 := by unfold mN; split <;> (try split) <;> omega
theorem mk_lt {xs : List Int} {i : Nat} {l : List Int} (h : 0 < l.length) (hb : ∀ j, j < xs.length → 0 ≤ gi xs j) : mk xs i l < l.length := by
  unfold mk
  split
  · rename_i hi
    have := Int.emod_lt_of_pos (gi xs i) (show (0 : Int) < (l.length : Int) by omega)
    have := Int.emod_nonneg (gi xs i) (show ((l.length : Nat) : Int) ≠ 0 by omega)
    omega
  · exact h
theorem mperm {xs : List Int} {n : Nat} (hb : ∀ j, j < xs.length → 0 ≤ gi xs j) : ∀ i, i ≤ n → (mleft xs n i).length = n - i ∧ (mout xs n i).length = i ∧ (mout xs n i ++ mleft xs n i).Perm (idL n)
  | 0, _ => ⟨by show (idL n).length = _; rw [idL_len]; omega, rfl, List.Perm.refl _⟩
  | i + 1, h => by
    obtain ⟨h1, h2, h3⟩ := mperm (n := n) hb i (by omega)
    have hk := mk_lt (xs := xs) (i := i) (l := mleft xs n i) (by omega) hb
    refine ⟨?_, ?_, ?_⟩
    · rw [mleft, List.length_append, List.length_take, List.length_drop]; omega
    · rw [mout, List.length_append, h2]; rfl
    · refine List.Perm.trans ?_ h3
      rw [mout, mleft, List.append_assoc]
      refine List.Perm.append_left _ ?_
      have e : mleft xs n i = (mleft xs n i).take (mk xs i (mleft xs n i)) ++ gi (mleft xs n i) (mk xs i (mleft xs n i)) :: (mleft xs n i).drop (mk xs i (mleft xs n i) + 1) := by
        rw [gi_of_lt hk, ← List.drop_eq_getElem_cons hk, List.take_append_drop]
      generalize mleft xs n i = l at *
      generalize mk xs i l = k at *
      conv => rhs; rw [e]
      show (gi l k :: (l.take k ++ l.drop (k + 1))).Perm _
      exact List.perm_middle.symm
theorem mof_perm {xs : List Int} (hb : ∀ j, j < xs.length → 0 ≤ gi xs j) : (mof xs).Perm (idL (mN xs)) := by
  obtain ⟨h1, h2, h3⟩ := mperm (n := mN xs) hb (mN xs) (Nat.le_refl _)
  have : mleft xs (mN xs) (mN xs) = [] := List.eq_nil_of_length_eq_zero (by omega)
  rw [this, List.append_nil] at h3
  exact h3
theorem mof_len {xs : List Int} (hb : ∀ j, j < xs.length → 0 ≤ gi xs j) : (mof xs).length = mN xs := by
  rw [(mof_perm hb).length_eq, idL_len]
theorem mof_pok {xs : List Int} (hb : ∀ j, j < xs.length → 0 ≤ gi xs j) : pok (mof xs) := by
  have hp := mof_perm hb
  have hi : pok (idL (mN xs)) := idL_pok
  refine ⟨fun x hx => ?_, hp.nodup_iff.2 hi.2⟩
  have := hi.1 x (hp.mem_iff.1 hx)
  rw [idL_len] at this
  rw [mof_len hb]; exact this
/-- .. with n strands. -/
def masL (xs : List Int) (n : Nat) : List Int := (xs ++ List.replicate (n - xs.length) 0).take n
theorem masL_len (xs : List Int) (n : Nat) : (masL xs n).length = n := by unfold masL; simp; omega
theorem masL_bd {xs : List Int} {n : Nat} (hb : ∀ j, j < xs.length → 0 ≤ gi xs j ∧ gi xs j ≤ 255) : ∀ j, j < (masL xs n).length → 0 ≤ gi (masL xs n) j ∧ gi (masL xs n) j ≤ 255 := fun j hj => by
  rw [masL_len] at hj
  unfold masL
  rw [gi_take hj]
  by_cases h : j < xs.length
  · rw [gi_append_left h]; exact hb j h
  · rw [gi_append_right (by omega)]
    have : gi (List.replicate (n - xs.length) 0) (j - xs.length) = 0 := by
      rw [gi_of_lt (by simp; omega)]; simp
    omega
theorem mN_of {xs : List Int} (h1 : 1 ≤ xs.length) (h8 : xs.length ≤ 8) : mN xs = xs.length := by unfold mN; rw [if_neg (by omega), if_neg (by omega)]
end Go.Proofs.Ytpcbadagffeehaa
