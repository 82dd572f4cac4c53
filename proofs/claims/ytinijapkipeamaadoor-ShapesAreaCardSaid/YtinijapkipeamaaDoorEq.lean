/- Stitches compared. -/
import Derived.Test.YtinijapkipeamaaDoorSt
import Derived.Test.YtinijapkipeamaaDoorSa
import Derived.Laws.StructEq
namespace Go.Proofs.YtinijapkipeamaaDoor
set_option linter.unusedVariables false
set_option linter.unusedSimpArgs false
set_option maxRecDepth 8000
open Go Go.RowKit

def St.eqb (s t : St) : Bool := decide (s = t)
theorem St.eqb_fields (s t : St) : St.eqb s t = (s.k == t.k && (s.y == t.y && (s.a == t.a && (s.b == t.b && s.f == t.f)))) := by
  unfold St.eqb
  rw [Bool.eq_iff_iff]
  cases s; cases t
  simp
theorem run_st_equal (s t : St) (w : World) : (Op.equalIn 10000 52 s.val t.val).run Tryd.prog w = .ok (St.eqb s t) w := by
  rw [St.eqb_fields]
  unfold St.val
  rw [run_equalIn_struct w 9999 _ _ _ (by kernel_rfl) (by kernel_rfl)]
  simp [go_sem, part]
  (repeat' split) <;> simp_all
theorem run_st_eql (s t : St) (w : World) : (binOp .eql 52 (.agg #[.int .u8 s.k, .int .u8 s.y, .int .i64 s.a, .int .i64 s.b, .bool s.f]) (.agg #[.int .u8 t.k, .int .u8 t.y, .int .i64 t.a, .int .i64 t.b, .bool t.f])).run Tryd.prog w = .ok (.bool (St.eqb s t)) w := by
  have h := run_st_equal s t w
  unfold St.val at h
  rw [run_eql_struct, h]
  rfl
theorem run_st_neq (s t : St) (w : World) : (binOp .neq 52 (.agg #[.int .u8 s.k, .int .u8 s.y, .int .i64 s.a, .int .i64 s.b, .bool s.f]) (.agg #[.int .u8 t.k, .int .u8 t.y, .int .i64 t.a, .int .i64 t.b, .bool t.f])).run Tryd.prog w = .ok (.bool (!St.eqb s t)) w := by
  have h := run_st_equal s t w
  unfold St.val at h
  rw [run_neq_struct, h]
  rfl

theorem Same1_calls (s t : St) (w : World) : Calls Tryd.prog 60 #[s.val, t.val] w fun e w' => e = .returned (.bool (St.eqb s t)) ∧ Ext w w' := by
  obtain ⟨k1, y1, a1, b1, f1⟩ := s
  obtain ⟨k2, y2, a2, b2, f2⟩ := t
  have hq := fun w => run_st_eql ⟨k1, y1, a1, b1, f1⟩ ⟨k2, y2, a2, b2, f2⟩ w
  generalize St.eqb ⟨k1, y1, a1, b1, f1⟩ ⟨k2, y2, a2, b2, f2⟩ = q at hq ⊢
  dsimp only at hq
  unfold St.val
  have HA := Lib.hid (fun w => B5.new w ⟨k1, y1, a1, b1, f1⟩ 52)
  have HB := Lib.hid (fun w => B5.new w ⟨k2, y2, a2, b2, f2⟩ 52)
  go_enter Tryd.func60, Tryd.ntmps60
  go_wp2
  go_ret
  exact ⟨rfl, ((Ext.refl w).alloc _).alloc _⟩
end Go.Proofs.YtinijapkipeamaaDoor
