/- Contracts of stitches.Check, Needs, Makes. -/
import Derived.Test.YtinijapkipeamaaDoorSt
import Derived.Test.YtinijapkipeamaaDoorProg
namespace Go.Proofs.YtinijapkipeamaaDoor
set_option linter.unusedVariables false
set_option linter.unusedSimpArgs false
set_option maxRecDepth 8000
open Go Go.RowKit

set_option maxHeartbeats 1000000 in
theorem SCheck_calls (s : St) (w : World) : Calls Tryd.prog 36 #[s.val] w fun e w' => e = .returned (.int .i64 s.chk) ∧ Ext w w' := by
  obtain ⟨k, y, a, b, f⟩ := s
  have hx := fun o => (Ext.refl w).alloc o
  have HX := Lib.hid hx
  clear hx
  have fin : ∀ r : Int, r = St.chk ⟨k, y, a, b, f⟩ → ∀ w', Ext w w' → (Ending.returned (.int .i64 r) = .returned (.int .i64 (St.chk ⟨k, y, a, b, f⟩)) ∧ Ext w w') := fun r h w' hx => ⟨by rw [h], hx⟩
  have Fin := Lib.hid fin
  clear fin
  unfold St.val
  cases f
  all_goals
    go_enter Tryd.func36, Tryd.ntmps36
    go_wp2
    all_goals (go_ret; refine Fin.out _ ?_ _ (HX.out _); unfold St.chk; dsimp only; (repeat' split) <;> first | rfl | (exfalso; omega) | (exfalso; simp_all; done) | (exfalso; simp_all; omega))
end Go.Proofs.YtinijapkipeamaaDoor
