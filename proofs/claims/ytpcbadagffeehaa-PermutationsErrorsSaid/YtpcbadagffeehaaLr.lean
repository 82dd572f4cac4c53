/- The law PermutationsErrors, walked. -/
import Derived.Test.YtpcbadagffeehaaLr1
import Derived.Test.YtpcbadagffeehaaLr2
import Derived.Test.YtpcbadagffeehaaLr3
import Derived.Test.YtpcbadagffeehaaLr4
import Derived.Test.YtpcbadagffeehaaLr5
namespace Go.Proofs.Ytpcbadagffeehaa
set_option linter.unusedVariables false
set_option linter.unusedSimpArgs false
open Go Go.RowKit

set_option maxRecDepth 100000 in
set_option maxHeartbeats 1000000 in
theorem Errors_long (v1 : Value) (c1 : Nat) (xs : List Int) (v2 : Value) (c2 : Nat) (ys : List Int) (n : Int) (w : World) (h : IS .u8 w v1 c1 xs) (h' : IS .u8 w v2 c2 ys) (hl : 12 < xs.length ∨ 12 < ys.length) :
    Calls Try.prog 9 #[v1, v2, .int .i64 n] w fun e w' => e = .returned (.bool true) ∧ Below w.heap.size w w' := by
  obtain ⟨_, _, ao, rfl, _⟩ := h.open
  obtain ⟨_, _, bo, rfl, _⟩ := h'.open
  have HC := Lib.hid (lives_calls w)
  by_cases hx : 12 < xs.length
  · have hl12 : (12 : Int) < (xs.length : Int) := by omega
    clear h h' hl hx
    go_enter Try.func9, Try.ntmps9
    go_wp2_with fail
    refine HC.out.mono ?_
    rintro e w1 ⟨rfl, x⟩
    have HX := Lib.hid x; clear x
    go_wp2
    go_ret
    exact ⟨rfl, HX.out⟩
  · have hl12 : ¬ (12 : Int) < (xs.length : Int) := by omega
    have hl12' : (12 : Int) < (ys.length : Int) := by omega
    clear h h' hl hx
    go_enter Try.func9, Try.ntmps9
    go_wp2_with fail
    refine HC.out.mono ?_
    rintro e w1 ⟨rfl, x⟩
    have HX := Lib.hid x; clear x
    go_wp2
    go_ret
    exact ⟨rfl, HX.out⟩

theorem PermutationsErrors_walk (v1 : Value) (c1 : Nat) (xs : List Int) (v2 : Value) (c2 : Nat) (ys : List Int) (n : Int) (w : World) (h : IS .u8 w v1 c1 xs) (hb : U8L xs) (h' : IS .u8 w v2 c2 ys) (hb' : U8L ys) (hn : -9223372036854775808 ≤ n ∧ n ≤ 9223372036854775807) :
    Calls Try.prog 9 #[v1, v2, .int .i64 n] w fun e w' => e = .returned (.bool true) ∧ Below w.heap.size w w' := by
  by_cases hl : 12 < xs.length ∨ 12 < ys.length
  · exact Errors_long v1 c1 xs v2 c2 ys n w h h' hl
  · by_cases h0 : pcheck xs = 0
    · by_cases k0 : pcheck ys = 0
      · by_cases hd : xs.length = ys.length
        · cases hle : leB xs.length xs ys with
          | true => exact Errors_yes v1 c1 xs v2 c2 ys n w h hb h' hb' hn (by omega) (by omega) h0 k0 hd hle
          | false => exact Errors_no v1 c1 xs v2 c2 ys n w h hb h' hb' hn (by omega) (by omega) h0 k0 hd hle
        · exact Errors_diff v1 c1 xs v2 c2 ys n w h hb h' hb' hn (by omega) (by omega) h0 k0 hd
      · exact Errors_qbad v1 c1 xs v2 c2 ys n w h hb h' hb' hn (by omega) (by omega) h0 k0
    · exact Errors_bad v1 c1 xs v2 c2 ys n w h hb h' hb' hn (by omega) (by omega) h0
end Go.Proofs.Ytpcbadagffeehaa
