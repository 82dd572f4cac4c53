/- Contracts of permutations: both, size, Inverse, Times, Starts, Ends, Below, Rest. -/
import Derived.Test.YtpcbadagffeehaaPe
import Derived.Test.YtpcbadagffeehaaPf
namespace Go.Proofs.Ytpcbadagffeehaa
set_option linter.unusedVariables false
set_option linter.unusedSimpArgs false
open Go Go.RowKit

def sizeE (n : Int) : Int := if n < 1 then 1 else if 8 < n then 3 else 0
def bothE (xs ys : List Int) : Int := if pcheck xs ≠ 0 then pcheck xs else if pcheck ys ≠ 0 then pcheck ys else if xs.length ≠ ys.length then 5 else 0

theorem size_calls (n : Int) (w : World) : Calls Try.prog 44 #[.int .i64 n] w fun e w' => e = .returned (.int .i64 (sizeE n)) ∧ w' = w := by
  unfold sizeE
  by_cases h1 : n < 1
  · rw [if_pos h1]
    go_enter Try.func44, Try.ntmps44
    go_wp2
    go_ret
    exact ⟨rfl, rfl⟩
  · rw [if_neg h1]
    by_cases h2 : 8 < n
    · rw [if_pos h2]
      go_enter Try.func44, Try.ntmps44
      go_wp2
      go_ret
      exact ⟨rfl, rfl⟩
    · rw [if_neg h2]
      go_enter Try.func44, Try.ntmps44
      go_wp2
      go_ret
      exact ⟨rfl, rfl⟩

/-- All numbers are bytes. -/
def U8L (xs : List Int) : Prop := ∀ i, i < xs.length → 0 ≤ gi xs i ∧ gi xs i ≤ 255

theorem both_calls (v1 v2 : Value) (c1 c2 : Nat) (xs ys : List Int) (w : World) (h : IS .u8 w v1 c1 xs) (h' : IS .u8 w v2 c2 ys) (hb : U8L xs) (hb' : U8L ys) :
    Calls Try.prog 39 #[v1, v2] w fun e w' => e = .returned (.int .i64 (bothE xs ys)) ∧ Ext w w' := by
  have hP := Pcheck_calls _ _ _ _ h hb
  have hQ : ∀ w1, Ext w w1 → _ := fun w1 hx => Pcheck_calls _ _ _ w1 (h'.ext hx) hb'
  obtain ⟨_, _, ao, rfl, _⟩ := h.open
  obtain ⟨_, _, bo, rfl, _⟩ := h'.open
  clear h h' hb hb'
  unfold bothE
  obtain ⟨e1, he1⟩ : ∃ e, e = pcheck xs := ⟨_, rfl⟩
  obtain ⟨e2, he2⟩ : ∃ e, e = pcheck ys := ⟨_, rfl⟩
  obtain ⟨n1, hn1⟩ : ∃ e, e = xs.length := ⟨_, rfl⟩
  obtain ⟨n2, hn2⟩ : ∃ e, e = ys.length := ⟨_, rfl⟩
  rw [← he1, ← hn1] at hP
  rw [← he2, ← hn2] at hQ
  rw [← he1, ← he2, ← hn1, ← hn2]
  have HP := Lib.hid hP; have HQ := Lib.hid hQ
  clear hP hQ he1 he2 hn1 hn2
  by_cases h1 : e1 = 0
  · subst h1
    by_cases h2 : e2 = 0
    · subst h2
      by_cases h3 : n1 = n2
      · subst h3
        simp only [ne_eq, not_true_eq_false, if_false]
        go_enter Try.func39, Try.ntmps39
        go_wp2_with fail
        refine HP.out.mono ?_
        rintro e w1 ⟨rfl, hx⟩
        have HR := Lib.hid (HQ.out w1 hx)
        go_wp2_with fail
        refine HR.out.mono ?_
        rintro e w2 ⟨rfl, hx2⟩
        go_wp2
        go_ret
        exact ⟨rfl, hx.trans hx2⟩
      · have hne : ((n1 : Int) != (n2 : Int)) = true := by simp; omega
        rw [if_neg (by simp), if_neg (by simp), if_pos h3]
        clear h3
        go_enter Try.func39, Try.ntmps39
        go_wp2_with fail
        refine HP.out.mono ?_
        rintro e w1 ⟨rfl, hx⟩
        have HR := Lib.hid (HQ.out w1 hx)
        go_wp2_with fail
        refine HR.out.mono ?_
        rintro e w2 ⟨rfl, hx2⟩
        go_wp2
        go_ret
        exact ⟨rfl, hx.trans hx2⟩
    · have hne : (e2 != 0) = true := by simpa using h2
      rw [if_neg (by simp), if_pos h2]
      clear h2
      go_enter Try.func39, Try.ntmps39
      go_wp2_with fail
      refine HP.out.mono ?_
      rintro e w1 ⟨rfl, hx⟩
      have HR := Lib.hid (HQ.out w1 hx)
      go_wp2_with fail
      refine HR.out.mono ?_
      rintro e w2 ⟨rfl, hx2⟩
      go_wp2
      go_ret
      exact ⟨rfl, hx.trans hx2⟩
  · have hne : (e1 != 0) = true := by simpa using h1
    rw [if_pos h1]
    clear h1
    go_enter Try.func39, Try.ntmps39
    go_wp2_with fail
    refine HP.out.mono ?_
    rintro e w1 ⟨rfl, hx⟩
    go_wp2
    go_ret
    exact ⟨rfl, hx⟩
end Go.Proofs.Ytpcbadagffeehaa
