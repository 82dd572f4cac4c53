/- What the listed variables give: the table of powers of ten. -/
import Derived.Test.YtlhkehfplcclgaaDoorRows
import Derived.Test.YtlhkehfplcclgaaDoorKd
import Derived.Lib.LaidU8
namespace Go.Proofs.YtlhkehfplcclgaaDoor
set_option linter.unusedVariables false
set_option linter.unusedSimpArgs false
open Go Go.RowKit

theorem ptab_of {w : World} {l : List (String × DataW Unit)} (h : laidMet Tryd.prog l w) (hm : ("internal/strconv.uint64pow10", Rows.laid_internal_strconv_uint64pow10) ∈ l) : PTab w := by
  obtain ⟨g, t, cs, fuel, p, hg, ht, hv, hd⟩ := Lib.laidMet.reads h hm
  obtain ⟨n, e, h1, h2, h3, h4⟩ : ∃ n e, Tryd.prog.underlying t = some (.array n e) ∧ Tryd.prog.underlying e = some (.int .u64) ∧ Tryd.prog.cellsOf e = 1 ∧ Tryd.prog.cellsOf t = n := by
    have hh : ((Tryd.prog.globalNamed "internal/strconv.uint64pow10").bind fun g => (Tryd.prog.globals[g]?).map (·.type)) = some t := by rw [hg]; exact ht
    have hk : ((Tryd.prog.globalNamed "internal/strconv.uint64pow10").bind fun g => (Tryd.prog.globals[g]?).map (·.type)) = some (138) := by kernel_rfl
    obtain rfl := Option.some.inj (hk.symm.trans hh)
    exact ⟨20, 24, by kernel_rfl, by kernel_rfl, by kernel_rfl, by kernel_rfl⟩
  have hd' : DataW.trod (fun _ => ()) Tryd.prog w 0 (fun _ => true) false fuel t cs.toList = some (Lib.tabData .u64 Lib.pow10Tab, p) := by
    rw [hd]; exact congrArg (fun x => some (x, p)) (by kernel_rfl)
  have := Lib.cells_of_tab h1 h2 h3 h4 hd'
  unfold PTab Lib.TabIs
  rw [hv, ← this]
end Go.Proofs.YtlhkehfplcclgaaDoor
