/- Contracts of package permutations: the pairs that cross, and the iterator over the pairs. -/
import Derived.RangeFuncNested
import Derived.RangeFuncBound
import Derived.RangeFuncCalls
import Derived.RangeFuncLeaves
import Derived.Shelf.Abstract
import Derived.Shelf.RegionOpen
import Derived.WalkKit
import Derived.OwnWalkIn
import Derived.TacticsInMore
import Derived.LoopNIn
import Derived.LoopIn
import Derived.Test.YtpcbadagffeehaaPa
import Derived.BigQuiet
namespace Go.Proofs.Ytpcbadagffeehaa
set_option linter.unusedVariables false
set_option linter.unusedSimpArgs false
open Go Go.RowKit Go.Shelf
attribute [local go_sem] Oper.semAt_some

/-- Do the strands a and b cross? (a < b: places from 1 on.) -/
def crossB (xs : List Int) (a b : Nat) : Bool := decide (gi xs (b - 1) < gi xs (a - 1))

/-- A pair of places, in range. -/
abbrev Pr (n : Nat) := { x : Nat × Nat // 1 ≤ x.1 ∧ x.1 < x.2 ∧ x.2 ≤ n }
def Pr.val {n : Nat} (x : Pr n) : Value := .agg #[.int .u8 (x.1.1 : Int), .int .u8 (x.1.2 : Int)]

set_option maxHeartbeats 1000000 in
theorem crossing_calls (a : Option Addr) (n c : Nat) (w : World) :
    Calls Try.prog 36 #[.slice a n c] w fun e w' => e = .returned (.func (.func 48) #[] #[.pointer (some ⟨w.heap.size, 0, none⟩)]) ∧ w' = w.alloc (.cells #[.slice a n c] 22) := by
  go_enter Try.func36, Try.ntmps36
  go_wp2
  go_ret
  exact ⟨rfl, rfl⟩

set_option maxHeartbeats 1000000 in
theorem crossing1_calls (B : Nat) (v : Value) (c : Nat) (xs : List Int) (x : Pr xs.length) (w : World) (hB : w.cell? ⟨B, 0, none⟩ = some v) (h : IS .u8 w v c xs) (h8 : xs.length ≤ 8) :
    Calls Try.prog 48 #[x.val, .pointer (some ⟨B, 0, none⟩)] w fun e w' => e = .returned (.bool (crossB xs x.1.1 x.1.2)) ∧ Ext w w' := by
  obtain ⟨h1, h2, ao, rfl, hao⟩ := h.open
  obtain ⟨⟨a, b⟩, p1, p2, p3⟩ := x
  obtain ⟨a, rfl⟩ : ∃ a', a = a' + 1 := ⟨a - 1, by simp at p1; omega⟩
  obtain ⟨b, rfl⟩ : ∃ b', b = b' + 1 := ⟨b - 1, by simp at p2; omega⟩
  simp only at p1 p2 p3
  unfold crossB Pr.val
  simp only [Nat.add_sub_cancel, Int.natCast_add, Int.natCast_one, Int.cast_ofNat_Int]
  obtain ⟨N, hN⟩ : ∃ N, N = xs.length := ⟨_, rfl⟩
  rw [← hN] at hB hao h1 p3 h8
  obtain ⟨b', o, rfl, hc⟩ : ∃ b o, ao = some ⟨b, o, none⟩ ∧ ∀ i, i < N → w.cell? ⟨b, o + i, none⟩ = some (.int .u8 (gi xs i)) := by
    rcases hao with ⟨_, h0, _⟩ | h
    · omega
    · exact h
  have x1 : Ext w (w.alloc (.cells #[.int .u8 ((a : Int) + 1), .int .u8 ((b : Int) + 1)] 36)) := (Ext.refl w).alloc _
  have ca := x1.cell (hc a (by omega))
  have cb := x1.cell (hc b (by omega))
  have cB := x1.cell hB
  have bX := B2.new w (.int .u8 ((a : Int) + 1)) (.int .u8 ((b : Int) + 1)) 36
  have k0 := bX.c0
  have k1 := bX.c1
  have HE := Lib.hid x1
  clear hc hao h hN bX x1 hB
  go_enter Try.func48, Try.ntmps48
  go_wp2
  go_quiet (fail)
  go_wp2
  go_ret
  exact ⟨rfl, HE.out.drewN _⟩
end Go.Proofs.Ytpcbadagffeehaa
