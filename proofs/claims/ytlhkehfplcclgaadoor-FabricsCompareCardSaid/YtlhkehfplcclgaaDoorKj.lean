/- The example: what holds of it. -/
import Derived.Test.YtlhkehfplcclgaaDoorKi
import Derived.Lib.ItoaMem
namespace Go.Proofs.YtlhkehfplcclgaaDoor
set_option linter.unusedVariables false
set_option linter.unusedSimpArgs false
set_option maxRecDepth 8000
open Go Go.RowKit Go.Sort

theorem ex_chk : fchk (exF (-1) [⟨1, 1⟩, ⟨1, 2⟩] []) = 0 := by decide
theorem ex_chk2 : fchk (exF (-1) [⟨1, 0⟩, ⟨1, 1⟩, ⟨1, 2⟩] []) = 6 := by decide
theorem ex_chk3 : fchk (exF (-1) [⟨1, 2⟩] []) = 6 := by decide
theorem ex_chk4 : fchk (exF 1048576 [⟨1, 1⟩, ⟨1, 2⟩] []) = 0 := by decide
theorem ex_und1 : und exT [⟨1, 2⟩] = [] := by decide
theorem ex_und2 : und exT [⟨1, 1⟩] = [⟨1, 1⟩] := by decide
theorem ex_lnk : lnk (exF (-1) [⟨1, 1⟩, ⟨1, 2⟩] []).cr (pairX ⟨1, 2⟩ ⟨1, 1⟩).a (pairX ⟨1, 2⟩ ⟨1, 1⟩).b = -1 := by decide
theorem ex_crE : crossE (exF (-1) [⟨1, 1⟩, ⟨1, 2⟩] []) ⟨1, 2⟩ ⟨1, 1⟩ 1 = 0 := by decide
theorem ex_crF : (crossF (exF (-1) [⟨1, 1⟩, ⟨1, 2⟩] []) ⟨1, 2⟩ ⟨1, 1⟩ 1).cr = [] := by decide
theorem it0 : Lib.itoa 0 = [48] := by have := Lib.itoa_nonneg 0; rw [Lib.decDigits_one (by decide)] at this; exact this
theorem it1 : Lib.itoa 1 = [49] := by have := Lib.itoa_nonneg 1; rw [Lib.decDigits_one (by decide)] at this; exact this
theorem it2 : Lib.itoa 2 = [50] := by have := Lib.itoa_nonneg 2; rw [Lib.decDigits_one (by decide)] at this; exact this
theorem itm1 : Lib.itoa (-1) = [45, 49] := by have := Lib.itoa_neg 1 (by decide); rw [Lib.decDigits_one (by decide)] at this; exact this
theorem nm10 : nameT ⟨1, 0⟩ = [49, 46, 48] := by unfold nameT; dsimp only; rw [it1, it0]; rfl
theorem nm11 : nameT ⟨1, 1⟩ = [49, 46, 49] := by unfold nameT; dsimp only; rw [it1]; rfl
theorem nm12 : nameT ⟨1, 2⟩ = [49, 46, 50] := by unfold nameT; dsimp only; rw [it1, it2]; rfl
def exTxt : List UInt8 := ([49, 46, 48, 32, 102, 114, 111, 110, 116, 32, 110, 101, 119, 10, 49, 46, 49, 32, 102, 114, 111, 110, 116, 10, 49, 46, 50, 32, 98, 97, 99, 107, 32, 116, 104, 114, 111, 117, 103, 104, 32, 49, 46].append [48, 32, 112, 97, 115, 116, 32, 49, 46, 49, 60, 43, 10, 99, 114, 111, 115, 115, 32, 49, 46, 49, 32, 49, 46, 50, 32, 45, 49, 10, 104, 101, 108, 100, 32, 49, 46, 49, 32, 49, 46, 50, 10])
theorem ex_text : textT (exF (-1) [⟨1, 1⟩, ⟨1, 2⟩] []) = exTxt := by
  unfold textT
  rw [if_pos ex_chk]
  have h0 : descT ⟨((0 : Nat) : Int) + 1, ((0 : Nat) : Int)⟩ (li exL 0) = [nameT ⟨1, 0⟩, frontT, newT] := rfl
  have h1 : descT ⟨((0 : Nat) : Int) + 1, ((1 : Nat) : Int)⟩ (li exL 1) = [nameT ⟨1, 1⟩, frontT] := rfl
  have h2 : descT ⟨((0 : Nat) : Int) + 1, ((2 : Nat) : Int)⟩ (li exL 2) = [nameT ⟨1, 2⟩, backT, throughT, nameT ⟨1, 0⟩, pastT, nameT ⟨1, 1⟩ ++ [60] ++ [43]] := rfl
  have hr : rowT 0 exL = lineT [nameT ⟨1, 0⟩, frontT, newT] ++ (lineT [nameT ⟨1, 1⟩, frontT] ++ (lineT [nameT ⟨1, 2⟩, backT, throughT, nameT ⟨1, 0⟩, pastT, nameT ⟨1, 1⟩ ++ [60] ++ [43]] ++ [])) := by
    rw [← h0, ← h1, ← h2]; rfl
  have ht : tabP exT 6 = rowT 0 exL := by
    have : tabP exT 6 = rowT 0 exL ++ ([] ++ ([] ++ ([] ++ ([] ++ ([] ++ []))))) := rfl
    rw [this]; simp
  have hx : textB (exF (-1) [⟨1, 1⟩, ⟨1, 2⟩] []) = tabP exT 6 ++ (lineT [crossW, nameT ⟨1, 1⟩, nameT ⟨1, 2⟩, Lib.itoa (-1)] ++ []) ++ lineT [heldW, nameT ⟨1, 1⟩, nameT ⟨1, 2⟩] ++ [] := rfl
  rw [hx, ht, hr, nm10, nm11, nm12, itm1]
  rfl
end Go.Proofs.YtlhkehfplcclgaaDoor
