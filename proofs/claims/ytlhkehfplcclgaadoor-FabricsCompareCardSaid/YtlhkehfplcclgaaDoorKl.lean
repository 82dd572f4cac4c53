/- less; what the law FabricsCompare says of the example. -/
import Derived.Test.YtlhkehfplcclgaaDoorKk
namespace Go.Proofs.YtlhkehfplcclgaaDoor
set_option linter.unusedVariables false
set_option linter.unusedSimpArgs false
set_option maxRecDepth 8000
open Go Go.RowKit Go.Sort

def lessI (a b : Nm) : Int := if cmpN a b < 0 then 1 else 0
set_option maxHeartbeats 4000000 in
theorem Less_calls (a b : Nm) (w : World) : Calls Tryd.prog 21 #[a.val, b.val] w fun e w' => e = .returned (.int .i64 (lessI a b)) ∧ Ext w w' := by
  obtain ⟨ay, an⟩ := a
  obtain ⟨by', bn⟩ := b
  obtain ⟨R, hR⟩ : ∃ R, R = lessI ⟨ay, an⟩ ⟨by', bn⟩ := ⟨_, rfl⟩
  rw [← hR]
  have HR := Lib.hid (show R = if cmpN ⟨ay, an⟩ ⟨by', bn⟩ < 0 then 1 else 0 from hR)
  unfold Nm.val
  dsimp only
  have X := Lib.hid (show Ext w ((w.alloc (.cells #[.int .u8 ay, .int .i64 an] 41)).alloc (.cells #[.int .u8 by', .int .i64 bn] 41)) from ((Ext.refl _).alloc _).alloc _)
  clear hR
  go_enter Tryd.func21, Tryd.ntmps21
  by_cases h1 : ay < by'
  · have hr := HR.out
    rw [if_pos (cmpN_lt.2 (.inl h1))] at hr
    have Hr := Lib.hid hr
    have d1 : decide (ay < by') = true := decide_eq_true h1
    clear hr
    go_wp2
    go_ret
    exact ⟨ret_int (by rw [Hr.out]), X.out⟩
  · have d1 : decide (ay < by') = false := decide_eq_false h1
    by_cases h2 : ay = by'
    · subst h2
      by_cases h3 : an < bn
      · have hr := HR.out
        rw [if_pos (show cmpN ⟨ay, an⟩ ⟨ay, bn⟩ < 0 from cmpN_lt.2 (.inr ⟨rfl, h3⟩))] at hr
        have Hr := Lib.hid hr
        clear hr
        go_wp2
        go_ret
        exact ⟨ret_int (by rw [Hr.out]), X.out⟩
      · have hr := HR.out
        rw [if_neg (fun h => by rcases cmpN_lt.1 h with h | h; exact h1 h; exact h3 h.2)] at hr
        have Hr := Lib.hid hr
        clear hr
        go_wp2
        go_ret
        exact ⟨ret_int (by rw [Hr.out]), X.out⟩
    · have hr := HR.out
      rw [if_neg (fun h => by rcases cmpN_lt.1 h with h | h; exact h1 h; exact h2 h.1)] at hr
      have Hr := Lib.hid hr
      have q2 : (ay == by') = false := beq_eq_false_iff_ne.2 h2
      clear hr h2
      go_wp2
      go_ret
      exact ⟨ret_int (by rw [Hr.out]), X.out⟩
theorem cmpI_neg (a b : Int) : cmpI b a = -cmpI a b := by unfold cmpI; (repeat' split) <;> omega
theorem cmpN_neg (a b : Nm) : cmpN b a = -cmpN a b := by
  unfold cmpN orI
  rw [cmpI_neg a.y b.y, cmpI_neg a.n b.n]
  by_cases h : cmpI a.y b.y = 0
  · rw [if_pos h, if_pos (by omega)]
  · rw [if_neg h, if_neg (by omega)]
/-- The names of the example's loops. -/
def thereB (a : Nm) : Bool := decide (a.y = 1 ∧ 0 ≤ a.n ∧ a.n < 3)
theorem ex_has (a : Nm) : hasB exT a = thereB a := by
  obtain ⟨y, n⟩ := a
  unfold hasB thereB
  dsimp only
  by_cases h1 : y = 1
  · subst h1
    rw [show (yi exT ((1 : Int) - 1).toNat).length = 3 from rfl, show exT.length = 6 from rfl]
    rw [Bool.eq_iff_iff]
    simp only [Bool.and_eq_true, decide_eq_true_eq]
    exact ⟨fun h => ⟨trivial, h.2.2.1, by omega⟩, fun h => ⟨by omega, by omega, h.2.1, by omega⟩⟩
  · rw [show exT.length = 6 from rfl, decide_eq_false (show ¬ (y = 1 ∧ 0 ≤ n ∧ n < 3) from fun h => h1 h.1)]
    by_cases h2 : 1 ≤ y ∧ y ≤ 6
    · have h3 : (yi exT (y - 1).toNat).length = 0 := by
        rcases (show (y - 1).toNat = 1 ∨ (y - 1).toNat = 2 ∨ (y - 1).toNat = 3 ∨ (y - 1).toNat = 4 ∨ (y - 1).toNat = 5 by omega) with h | h | h | h | h <;> rw [h] <;> rfl
      rw [h3, Bool.eq_false_iff]
      simp only [ne_eq, Bool.and_eq_true, decide_eq_true_eq]
      omega
    · rw [Bool.eq_false_iff]
      simp only [ne_eq, Bool.and_eq_true, decide_eq_true_eq]
      omega
theorem lnk_ex (n : Int) (x y : Nm) : lnk [⟨⟨1, 1⟩, ⟨1, 2⟩, n⟩] x y = n ∨ lnk [⟨⟨1, 1⟩, ⟨1, 2⟩, n⟩] x y = 0 := by
  unfold lnk
  by_cases h : cmpX ⟨⟨1, 1⟩, ⟨1, 2⟩, n⟩ ⟨x, y, 0⟩ = 0
  · rw [if_pos h]; exact .inl rfl
  · rw [if_neg h]; exact .inr rfl
/-- What Cross says of two names of the example. -/
theorem ex_cross1 (s : Int) : crossE (exF (-1) [⟨1, 1⟩, ⟨1, 2⟩] []) ⟨1, 0⟩ ⟨1, 1⟩ s = if s = 1 ∨ s = -1 then 0 else 1 := by
  by_cases h1 : s = 1
  · subst h1; decide
  · by_cases h2 : s = -1
    · subst h2; decide
    · unfold crossE
      rw [if_pos ex_chk, if_neg (by omega), if_neg (by omega)]
theorem ex_cross2 (a b : Nm) : crossE (exF (-1) [⟨1, 1⟩, ⟨1, 2⟩] []) a b 1 = if a = b then 1 else if thereB a && thereB b then 0 else 7 := by
  unfold crossE
  rw [if_pos ex_chk]
  by_cases h : a = b
  · rw [if_neg (fun k => k.2 h), if_pos h]
  · rw [if_pos ⟨.inl rfl, h⟩, if_neg h]
    rw [show (exF (-1) [⟨1, 1⟩, ⟨1, 2⟩] []).ys = exT from rfl, show (exF (-1) [⟨1, 1⟩, ⟨1, 2⟩] []).cr = [⟨⟨1, 1⟩, ⟨1, 2⟩, -1⟩] from rfl, ex_has, ex_has]
    by_cases h2 : thereB a && thereB b
    · rw [if_pos h2, if_pos (by simpa using h2)]
      have := lnk_ex (-1) (pairX a b).a (pairX a b).b
      rw [if_pos (by omega)]
    · rw [if_neg h2, if_neg (by simpa using h2)]
theorem ex_cross3 : crossE (exF 1048576 [⟨1, 1⟩, ⟨1, 2⟩] []) ⟨1, 2⟩ ⟨1, 1⟩ 1 = 3 := by decide
theorem ex_cross4 : crossE (exF 1048576 [⟨1, 1⟩, ⟨1, 2⟩] []) ⟨1, 1⟩ ⟨1, 2⟩ (-1) = 0 := by decide
theorem ex_cross5 : (crossF (exF 1048576 [⟨1, 1⟩, ⟨1, 2⟩] []) ⟨1, 1⟩ ⟨1, 2⟩ (-1)).cr = [⟨⟨1, 1⟩, ⟨1, 2⟩, 1048575⟩] := by decide
theorem ex_lnk0 : lnk (exF 1048576 [⟨1, 1⟩, ⟨1, 2⟩] []).cr (pairX ⟨1, 0⟩ ⟨1, 0⟩).a (pairX ⟨1, 0⟩ ⟨1, 0⟩).b = 0 := by decide
end Go.Proofs.YtlhkehfplcclgaaDoor
