/- shapes.kinds, count. -/
import Derived.Test.YtinijapkipeamaaDoorSl
import Derived.Test.YtinijapkipeamaaDoorTf
namespace Go.Proofs.YtinijapkipeamaaDoor
set_option linter.unusedVariables false
set_option linter.unusedSimpArgs false
set_option maxRecDepth 8000
open Go Go.RowKit

/-- A row of the call's own is returned. -/
def RetRO (w0 : World) (l : List St) (e : Ending) (w' : World) : Prop := ∃ g c n, e = .returned (.slice (some ⟨g, 0, none⟩) n c) ∧ n = l.length ∧ w0.heap.size ≤ g ∧ RO w' g c l ∧ Ext w0 w'
def kst (k : Int) : St := ⟨k, 0, 0, 0, false⟩
/-- The first j of n are of a kind. -/
def ksl (k : Int) (n j : Nat) : List St := (List.range n).map fun i => if i < j then kst k else St.none
theorem ksl_len (k : Int) (n j : Nat) : (ksl k n j).length = n := by simp [ksl]
theorem ksl_si {k : Int} {n j i : Nat} (hi : i < n) : si (ksl k n j) i = if i < j then kst k else St.none := by
  rw [si_of_lt (by rw [ksl_len]; exact hi)]; simp [ksl]
theorem ksl_zero (k : Int) (n : Nat) : ksl k n 0 = List.replicate n St.none := si_ext (by simp [ksl]) (fun i hi => by
  rw [ksl_len] at hi; rw [ksl_si hi, si_rep hi, if_neg (by omega)])
theorem ksl_all (k : Int) (n : Nat) : ksl k n n = List.replicate n (kst k) := si_ext (by simp [ksl]) (fun i hi => by
  rw [ksl_len] at hi; rw [ksl_si hi, si_rep hi, if_pos hi])
theorem ksl_succ {k : Int} {n j : Nat} (hj : j < n) : (ksl k n j).set j { si (ksl k n j) j with k := k } = ksl k n (j + 1) := si_ext (by simp [ksl]) (fun i hi => by
  rw [List.length_set, ksl_len] at hi
  by_cases e : i = j
  · subst e
    rw [si_set (by rw [ksl_len]; exact hj), if_pos rfl, ksl_si hj, if_neg (Nat.lt_irrefl _), ksl_si hj, if_pos (by omega)]; rfl
  · rw [si_set (by rw [ksl_len]; exact hj), if_neg e, ksl_si hi, ksl_si hi]
    by_cases h : i < j
    · rw [if_pos h, if_pos (by omega)]
    · rw [if_neg h, if_neg (by omega)])

theorem count_calls (b : Bool) (w : World) : Calls Tryd.prog 64 #[.bool b] w fun e w' => e = .returned (.int .i64 (if b then 1 else 0)) ∧ w = w' := by
  cases b <;> (go_enter Tryd.func64, Tryd.ntmps64; go_wp2; go_ret; exact ⟨rfl, rfl⟩)

set_option maxHeartbeats 2000000 in
theorem kinds_calls (k : Int) (n : Nat) (w : World) (hn : n ≤ 1000) : Calls Tryd.prog 62 #[.int .u8 k, .int .i64 n] w (RetRO w (List.replicate n (kst k))) := by
  have hmk := run_make_st .i64 .i64 n (by omega)
  have HK := Lib.hid (fun j (hj : j < n) => ksl_succ (k := k) hj)
  go_enter Tryd.func62, Tryd.ntmps62
  go_wp2
  clear hmk
  go_loopw [6, 11] (fun _ i wr => ∃ j : Nat, j ≤ n ∧ i = .int .i64 j ∧ Hid (RO wr w.heap.size n (ksl k n j)) ∧ Hid (Ext w wr)) (fun _ i _ => n - (intOf i).toNat)
  case atStart => exact ⟨0, Nat.zero_le _, rfl, Lib.hid (by rw [ksl_zero]; exact RO.made w n (by unfold maxLen; omega)), Lib.hid ((Ext.refl w).alloc _)⟩
  case round =>
    obtain ⟨j, hj, rfl, HR, HX⟩ := hrel
    by_cases hlt : j < n
    · obtain ⟨v, hst⟩ := HR.out.shapeCell (o := j * 5) (by omega)
      have hfz := HR.out.frozen (j * 5)
      have hR2 := HR.out.setk (i := j) (by rw [ksl_len]; exact hlt) k
      rw [HK.out j hlt] at hR2
      have HR2 := Lib.hid hR2
      have HX2 := Lib.hid (HX.out.setCell (p := ⟨w.heap.size, j * 5, none⟩) (Nat.le_refl _) (.int .u8 k))
      clear hR2
      go_wp2
      go_roundw
      case rel => exact ⟨j + 1, by omega, by go_num, HR2, HX2⟩
      case measure => simp [intOf]; omega
    · obtain rfl : n = j := by omega
      clear hlt hj
      go_wp2
      go_ret
      exact ⟨_, _, _, rfl, by simp, Nat.le_refl _, by rw [← ksl_all]; exact HR.out, HX.out⟩
end Go.Proofs.YtinijapkipeamaaDoor
