/- The law WordsErrors: its walk. -/
import Derived.Test.YtbappfeojdehgaaLeA1
import Derived.Test.YtbappfeojdehgaaLeA2
import Derived.Test.YtbappfeojdehgaaLeB1
import Derived.Test.YtbappfeojdehgaaLeB2
import Derived.Test.YtbappfeojdehgaaLeB3
namespace Go.Proofs.Ytbappfeojdehgaa
set_option linter.unusedVariables false
set_option linter.unusedSimpArgs false
open Go Go.RowKit

theorem WordsErrors_walk (n : Int) (v : Value) (c : Nat) (xs : List Int) (t : Int) (w : World) (hn : -9223372036854775808 ≤ n ∧ n ≤ 9223372036854775807) (h : IS .i64 w v c xs) (hb : ∀ i, i < xs.length → -9223372036854775808 ≤ gi xs i ∧ gi xs i ≤ 9223372036854775807) (ht : 0 ≤ t ∧ t ≤ 255) :
    Calls Try.prog 7 #[.int .i64 n, v, .int .u8 t] w fun e w' => e = .returned (.bool true) ∧ Ext w w' := by
  by_cases hl : 70 < xs.length
  · exact Errors_long n t v c xs w h hl
  by_cases hn1 : n < 1
  · exact Errors_A1 n t v c xs w h (by omega) ht.1 ht.2 hb hn1
  by_cases hn8 : 8 < n
  · exact Errors_A2 n t v c xs w h (by omega) ht.1 ht.2 hb hn8
  by_cases h64 : 64 < xs.length
  · exact Errors_B1 n t v c xs w h (by omega) ht.1 ht.2 hb (by omega) (by omega) h64
  by_cases hbad : ∃ i, i < xs.length ∧ wbad n (gi xs i) = true
  · exact Errors_B2 n t v c xs w h (by omega) ht.1 ht.2 hb (by omega) (by omega) (by omega) hbad
  · exact Errors_B3 n t v c xs w h (by omega) ht.1 ht.2 hb (by omega) (by omega) (by omega) (fun i hi => by
      cases e : wbad n (gi xs i) with
      | false => rfl
      | true => exact absurd ⟨i, hi, e⟩ hbad)
end Go.Proofs.Ytbappfeojdehgaa
