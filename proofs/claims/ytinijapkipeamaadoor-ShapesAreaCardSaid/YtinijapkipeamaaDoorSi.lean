/- Contract of charts.Check. -/
import Derived.Test.YtinijapkipeamaaDoorSh
namespace Go.Proofs.YtinijapkipeamaaDoor
set_option linter.unusedVariables false
set_option linter.unusedSimpArgs false
set_option maxRecDepth 8000
open Go Go.RowKit

theorem CCheck_calls (v : Value) (c : Nat) (rows : List (List St)) (w : World) (h : RR w v c rows) :
    Calls Tryd.prog 26 #[.agg #[v]] w fun e w' => e = .returned (.int .i64 (cloads rows).1) ∧ Ext w w' := by
  have hL := fun w' (x : Ext w w') => CLoads_calls v c rows w' (h.ext x)
  have HL := Lib.hid hL
  obtain ⟨ao, n, rfl, h0⟩ := h.open
  clear hL h h0
  go_enter Tryd.func26, Tryd.ntmps26
  go_wp2_with fail
  refine (HL.out _ ((Ext.refl w).alloc _)).mono ?_
  rintro e w1 ⟨v1, rfl, h1, x1⟩
  have X1 := Lib.hid (((Ext.refl w).alloc _).trans x1)
  clear h1 x1
  go_wp2
  go_ret
  exact ⟨rfl, X1.out⟩
end Go.Proofs.YtinijapkipeamaaDoor
