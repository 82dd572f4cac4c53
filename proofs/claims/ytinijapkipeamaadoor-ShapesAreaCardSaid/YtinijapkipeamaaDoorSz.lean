/- What the listed variable gives: the table of the symbols. -/
import Derived.Test.YtinijapkipeamaaDoorRows
import Derived.Test.YtinijapkipeamaaDoorSj
import Derived.Lib.LaidU8
namespace Go.Proofs.YtinijapkipeamaaDoor
set_option linter.unusedVariables false
set_option linter.unusedSimpArgs false
set_option maxRecDepth 8000
open Go Go.RowKit

theorem sy_of {w : World} {l : List (String × DataW Unit)} (h : laidMet Tryd.prog l w) (hm : ("gansey/stitches.symbols", Rows.laid_gansey_stitches_symbols) ∈ l) : Sy w := by
  obtain ⟨g, t, cs, fuel, p, hg, ht, hv, hd⟩ := Lib.laidMet.reads h hm
  have hgn : g = 0 := by
    have hk : Tryd.prog.globalNamed "gansey/stitches.symbols" = some (0) := by kernel_rfl
    exact Option.some.inj (hg.symm.trans hk)
  obtain ⟨n, e, h1, h2, h3, h4⟩ : ∃ n e, Tryd.prog.underlying t = some (.array n e) ∧ Tryd.prog.underlying e = some (.int .u8) ∧ Tryd.prog.cellsOf e = 1 ∧ Tryd.prog.cellsOf t = n := by
    have hh : ((Tryd.prog.globalNamed "gansey/stitches.symbols").bind fun g => (Tryd.prog.globals[g]?).map (·.type)) = some t := by rw [hg]; exact ht
    have hk : ((Tryd.prog.globalNamed "gansey/stitches.symbols").bind fun g => (Tryd.prog.globals[g]?).map (·.type)) = some (100) := by kernel_rfl
    obtain rfl := Option.some.inj (hk.symm.trans hh)
    exact ⟨8, 5, by kernel_rfl, by kernel_rfl, by kernel_rfl, by kernel_rfl⟩
  have hd' : DataW.trod (fun _ => ()) Tryd.prog w 0 (fun _ => true) false fuel t cs.toList = some (Lib.tabData .u8 symT, p) := by
    rw [hd]; exact congrArg (fun x => some (x, p)) (by kernel_rfl)
  have hcs := Lib.cells_of_tab h1 h2 h3 h4 hd'
  unfold World.var? at hv
  rw [hg, hgn] at hv
  simp only [Option.bind_some] at hv
  intro i hi
  split at hv
  · rename_i cs' _ _ hb
    obtain rfl := Option.some.inj hv
    have hc : ∀ j, cs'[j]? = cs'.toList[j]? := fun j => by rw [Array.getElem?_toList]
    simp only [World.cell?, hb]
    rw [hc, hcs]
    rw [List.getElem?_map, gi_some (show i < symT.length from hi)]
    rfl
  · cases hv
end Go.Proofs.YtinijapkipeamaaDoor
