/- What a row of numbers that came in reads as. -/
import Derived.Test.YtbappfeojdehgaaLib
namespace Go.Proofs.Ytbappfeojdehgaa
set_option linter.unusedVariables false
set_option linter.unusedSimpArgs false
open Go Go.RowKit

/-- A slice of integers that came in: nothing, or a row of cells. -/
def IsRow (k : IntKind) (w : World) (a : Option Addr) (len cap : Nat) (zs : List Int) : Prop :=
  (a = none ∧ len = 0 ∧ cap = 0 ∧ zs = []) ∨
  ∃ x, a = some x ∧ len ≤ cap ∧ cap ≤ maxLen ∧ zs.length = cap ∧ (∀ i, i < zs.length → w.cell? (x.add i) = some (.int k (zs.getD i 0))) ∧ ∀ n ∈ zs, (Lit.int k n).wf = true

theorem cell_spot {w : World} {x : Addr} {v : Value} (h : w.cell? x = some v) : x.spot = none := by
  unfold World.cell? at h
  split at h
  · split at h
    · cases h
    · cases hs : x.spot with
      | none => rfl
      | some s => rename_i hn; rw [hs] at hn; exact absurd rfl hn
  · cases h

theorem IsRow.is {k : IntKind} {w : World} {a : Option Addr} {len cap : Nat} {zs : List Int} (h : IsRow k w a len cap zs) : IS k w (.slice a len cap) cap (zs.take len) := by
  rcases h with ⟨rfl, rfl, rfl, rfl⟩ | ⟨x, rfl, h1, h2, h3, hc, _⟩
  · exact IS.nil k w
  · have hl : (zs.take len).length = len := by rw [List.length_take]; omega
    by_cases h0 : cap = 0
    · obtain rfl : len = 0 := by omega
      refine ⟨some x, by simp, by simp, h2, fun h => (by cases h), fun a ha => ⟨fun h => (by omega), fun j u hj => by simp at hj⟩⟩
    · have hs : x.spot = none := by
        have := hc 0 (by omega)
        rw [show x.add 0 = x from rfl] at this
        exact cell_spot this
      obtain ⟨b, o, s⟩ := x
      have hs' : s = none := hs
      subst hs'
      refine IS.mk hl.symm h1 h2 fun i hi => ?_
      have := hc i (by omega)
      rw [Addr.add_lit] at this
      rw [this, gi_take hi]; rfl

theorem IsRow.all {k : IntKind} {w : World} {a : Option Addr} {len cap : Nat} {zs : List Int} (h : IsRow k w a len cap zs) {n : Int} (hn : n ∈ zs.take len) : (Lit.int k n).wf = true := by
  rcases h with ⟨rfl, rfl, rfl, rfl⟩ | ⟨x, rfl, h1, h2, h3, hc, hw⟩
  · simp at hn
  · exact hw n (List.mem_of_mem_take hn)
theorem wf8 {n : Int} (h : (Lit.int .u8 n).wf = true) : 0 ≤ n ∧ n ≤ 255 := by
  unfold Lit.wf at h
  simp only [Bool.and_eq_true, decide_eq_true_eq] at h
  exact h
theorem wf64 {n : Int} (h : (Lit.int .i64 n).wf = true) : -9223372036854775808 ≤ n ∧ n ≤ 9223372036854775807 := by
  unfold Lit.wf at h
  simp only [Bool.and_eq_true, decide_eq_true_eq] at h
  exact h
theorem IsRow.bd {w : World} {a : Option Addr} {len cap : Nat} {zs : List Int} (h : IsRow .u8 w a len cap zs) : ∀ i, i < (zs.take len).length → 0 ≤ gi (zs.take len) i ∧ gi (zs.take len) i ≤ 255 :=
  fun _ hi => wf8 (h.all (gi_mem hi))
theorem IsRow.bd64 {w : World} {a : Option Addr} {len cap : Nat} {zs : List Int} (h : IsRow .i64 w a len cap zs) : ∀ i, i < (zs.take len).length → -9223372036854775808 ≤ gi (zs.take len) i ∧ gi (zs.take len) i ≤ 9223372036854775807 :=
  fun _ hi => wf64 (h.all (gi_mem hi))
end Go.Proofs.Ytbappfeojdehgaa
