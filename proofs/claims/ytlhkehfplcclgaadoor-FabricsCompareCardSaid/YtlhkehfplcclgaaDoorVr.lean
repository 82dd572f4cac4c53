/- Acyclic tables: some loop can always be made. No program in sight but for the lists. -/
import Derived.Test.YtlhkehfplcclgaaDoorVq
namespace Go.Proofs.YtlhkehfplcclgaaDoor
set_option linter.unusedVariables false
set_option linter.unusedSimpArgs false
open Go Go.RowKit

/-- A rank that shows that the loops can be made one by one. -/
structure Acyc (t : Tab) (rk : Nm → Nat) : Prop where
  need : ∀ y, y < t.length → ∀ n, n < (yi t y).length → ∀ a ∈ needL (li (yi t y) n), hasB t a = true ∧ rk a < rk ⟨(y : Int) + 1, n⟩
  prev : ∀ y, y < t.length → ∀ n, n + 1 < (yi t y).length → rk ⟨(y : Int) + 1, n⟩ < rk ⟨(y : Int) + 1, (n + 1 : Nat)⟩
/-- Of name a the loop is made, where of each yarn mk are. -/
def madeB (mk : Nat → Nat) (a : Nm) : Bool := decide (a.n < (mk (a.y - 1).toNat : Int))
/-- Yarn y has no loop left, or needs one that is not made. -/
def Stuck (t : Tab) (mk : Nat → Nat) (y : Nat) : Prop := mk y = (yi t y).length ∨ ∃ a ∈ needL (li (yi t y) (mk y)), madeB mk a = false
theorem rk_mono {t : Tab} {rk : Nm → Nat} (h : Acyc t rk) {y n : Nat} (hy : y < t.length) : ∀ d, n + d < (yi t y).length → rk ⟨(y : Int) + 1, (n : Nat)⟩ ≤ rk ⟨(y : Int) + 1, (n + d : Nat)⟩
  | 0, _ => Nat.le_refl _
  | d + 1, hd => Nat.le_trans (rk_mono h hy d (by omega)) (Nat.le_of_lt (h.prev y hy (n + d) (by omega)))
theorem hasB_iff {t : Tab} {a : Nm} (h : hasB t a = true) : ∃ z m : Nat, a = ⟨(z : Int) + 1, m⟩ ∧ z < t.length ∧ m < (yi t z).length := by
  unfold hasB at h
  simp only [Bool.and_eq_true, decide_eq_true_eq] at h
  obtain ⟨h1, h2, h3, h4⟩ := h
  refine ⟨(a.y - 1).toNat, a.n.toNat, ?_, by omega, by omega⟩
  obtain ⟨y, n⟩ := a
  dsimp only at h1 h2 h3 h4 ⊢
  congr 1 <;> omega
theorem not_all_stuck {t : Tab} {rk : Nm → Nat} (h : Acyc t rk) {mk : Nat → Nat} (hm : ∀ y, y < t.length → mk y ≤ (yi t y).length) (hs : ∀ y, y < t.length → Stuck t mk y) : ∀ y, y < t.length → mk y = (yi t y).length := by
  have key : ∀ r y, y < t.length → mk y < (yi t y).length → rk ⟨(y : Int) + 1, (mk y : Nat)⟩ ≤ r → False := by
    intro r
    induction r with
    | zero =>
      intro y hy hlt hr
      rcases hs y hy with h1 | ⟨a, ha, _⟩
      · omega
      · have := (h.need y hy _ hlt a ha).2; omega
    | succ r ih =>
      intro y hy hlt hr
      rcases hs y hy with h1 | ⟨a, ha, hb⟩
      · omega
      · obtain ⟨h2, h3⟩ := h.need y hy _ hlt a ha
        obtain ⟨z, m, rfl, hz, hmz⟩ := hasB_iff h2
        have hle : mk z ≤ m := by
          unfold madeB at hb
          have := of_decide_eq_false hb
          dsimp only at this
          rw [show ((z : Int) + 1 - 1).toNat = z by omega] at this
          omega
        have := rk_mono h hz (n := mk z) (m - mk z) (by omega)
        rw [show mk z + (m - mk z) = m by omega] at this
        exact ih z hz (by omega) (by omega)
  intro y hy
  rcases Nat.lt_or_ge (mk y) (yi t y).length with h1 | h1
  · exact (key _ y hy h1 (Nat.le_refl _)).elim
  · have := hm y hy; omega
end Go.Proofs.YtlhkehfplcclgaaDoor
