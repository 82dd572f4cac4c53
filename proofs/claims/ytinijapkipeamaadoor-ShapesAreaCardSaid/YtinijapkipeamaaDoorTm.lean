/- shapes.Chart. -/
import Derived.Test.YtinijapkipeamaaDoorTl
import Derived.Test.YtinijapkipeamaaDoorCs
import Derived.Test.YtinijapkipeamaaDoorSh
namespace Go.Proofs.YtinijapkipeamaaDoor
set_option linter.unusedVariables false
set_option linter.unusedSimpArgs false
set_option maxRecDepth 8000
open Go Go.RowKit

/-- The first j stitches have the yarn. -/
def yl (r : List St) (y : Int) (j : Nat) : List St := (r.take j).map (sty y) ++ r.drop j
theorem yl_len (r : List St) (y : Int) (j : Nat) : (yl r y j).length = r.length := by simp [yl]; omega
theorem yl_zero (r : List St) (y : Int) : yl r y 0 = r := by simp [yl]
theorem yl_all (r : List St) (y : Int) : yl r y r.length = r.map (sty y) := by simp [yl]
theorem si_map {f : St → St} {r : List St} {i : Nat} (h : i < r.length) : si (r.map f) i = f (si r i) := by rw [si_of_lt (by simpa using h), si_of_lt h]; simp
theorem yl_si {r : List St} {y : Int} {j i : Nat} (hi : i < r.length) : si (yl r y j) i = if i < j then sty y (si r i) else si r i := by
  rw [si_of_lt (by rw [yl_len]; exact hi), si_of_lt hi]
  unfold yl
  by_cases h : i < j
  · rw [if_pos h, List.getElem_append_left (by simp; omega)]; simp
  · rw [if_neg h, List.getElem_append_right (by simp; omega)]
    simp only [List.getElem_drop, List.length_map, List.length_take]
    congr 1; omega
theorem yl_succ {r : List St} {y : Int} {j : Nat} (hj : j < r.length) : (yl r y j).set j { si (yl r y j) j with y := y } = yl r y (j + 1) := si_ext (by simp [yl_len]) (fun i hi => by
  rw [List.length_set, yl_len] at hi
  by_cases e : i = j
  · subst e
    rw [si_set (by rw [yl_len]; exact hj), if_pos rfl, yl_si hj, if_neg (Nat.lt_irrefl _), yl_si hj, if_pos (by omega)]; rfl
  · rw [si_set (by rw [yl_len]; exact hj), if_neg e, yl_si hi, yl_si hi]
    by_cases h : i < j
    · rw [if_pos h, if_pos (by omega)]
    · rw [if_neg h, if_neg (by omega)])

/-- The error of Chart, and the chart. -/
def cherr (l : List Int) (y : Int) : Int := if oerr l ≠ 0 then oerr l else if y < 1 ∨ 6 < y then 1 else 0
def chres (l : List Int) (y : Int) : List (List St) := if cherr l y = 0 then chartOf l y else []

theorem end_bd (i : Nat) (m : Int) : ((cnt (endL i m) + cnt (endR i m) : Nat) : Int) ≤ 2 := by
  have := cnt_le (endL i m); have := cnt_le (endR i m); omega
/-- The function for a step builds its row. -/
theorem build_calls (n i : Nat) (m : Int) (w : World) (hn : 2 ≤ n ∧ n ≤ 16) (hm : -2 ≤ m ∧ m ≤ 2) (h2 : 2 ≤ (n : Int) + m) : Calls Tryd.prog (endF m) #[.int .i64 n, .bool (endL i m), .bool (endR i m)] w (RetRO w (shR n i m)) := by
  have hs := end_sum (i := i) hm
  rcases (show (m = 2 ∨ m = 1) ∨ (m = -2 ∨ m = -1) ∨ m = 0 by omega) with h | h | h
  · have e : endF m = 47 := by unfold endF; rw [if_pos h]
    rw [e]; unfold shR; rw [if_pos h]
    exact wider_calls n _ _ w (by omega)
  · have e : endF m = 48 := by unfold endF; rw [if_neg (by omega), if_pos h]
    rw [e]; unfold shR; rw [if_neg (by omega), if_pos h]
    rw [if_neg (by omega)] at hs
    exact narrower_calls n _ _ w (by omega)
  · have e : endF m = 46 := by unfold endF; rw [if_neg (by omega), if_neg (by omega)]
    rw [e]; unfold shR; rw [if_neg (by omega), if_neg (by omega)]
    exact plain_calls n _ _ w (by omega)

theorem Chart_bad (v : Value) (c : Nat) (l : List Int) (y : Int) (w : World) (h : IS .i64 w v c l) (hy : 0 ≤ y ∧ y ≤ 255) (he : cherr l y ≠ 0) : Calls Tryd.prog 12 #[v, .int .u8 y] w (RetCE w [] (cherr l y)) := by
  have hck := fun w' (x : Ext w w') => HCheck_calls v c l w' (h.ext x)
  obtain ⟨ao, n, c', rfl, hn, rfl, hIS⟩ := h.out
  have hbx := fun (w' : World) (x : Ext (w.alloc (.cells #[.slice none 0 0] 26)) w') => x.block (show (w.alloc (.cells #[.slice none 0 0] 26)).heap[w.heap.size]? = some (.cells #[.slice none 0 0] 26 (0, 0)) from Deep.blk_alloc_new _ _)
  have hfin : ∀ w' e, Ext w w' → e = cherr l y → RetCE w [] (cherr l y) (.returned (.tuple #[.agg #[.slice none 0 0], .int .i64 e])) w' := fun w' e x he => ⟨_, by rw [he], RR.nil _, x⟩
  have HK := Lib.hid hck; have HBx := Lib.hid hbx; have HF := Lib.hid hfin
  have h1 : oerr l ≠ 0 → oerr l = cherr l y := fun h => by unfold cherr; rw [if_pos h]
  have h2 : oerr l = 0 → (y < 1 ∨ 6 < y) ∧ 1 = cherr l y := fun h => by
    by_cases hb : y < 1 ∨ 6 < y
    · exact ⟨hb, by unfold cherr; rw [if_neg (by omega), if_pos hb]⟩
    · exfalso; apply he; unfold cherr; rw [if_neg (by omega), if_neg hb]
  generalize oerr l = q at HK h1 h2
  have H1 := Lib.hid h1; have H2 := Lib.hid h2
  clear hck hbx hfin h hIS he h1 h2 hn
  go_enter Tryd.func12, Tryd.ntmps12
  go_wp2_with fail
  refine (HK.out _ ((Ext.refl w).alloc _)).mono ?_
  rintro e w1 ⟨rfl, x1⟩
  have hb := HBx.out _ x1
  have X1 := Lib.hid (((Ext.refl w).alloc _).trans x1)
  have b0 : w1.cell? ⟨w.heap.size, 0, none⟩ = some (.slice none 0 0) := by simp [World.cell?, hb]
  have b1 : w1.frozen? ⟨w.heap.size, 0, none⟩ = false := by simp [World.frozen?, hb]
  clear hb x1
  by_cases hq : q = 0
  · obtain ⟨hb, he⟩ := H2.out hq
    have tq : (q != 0) = false := by rw [hq]; rfl
    have HE := Lib.hid he
    by_cases hy1 : y < 1
    · clear he hb hq H1 H2
      go_wp2
      exact bodyPost_ret (v := .tuple #[.agg #[.slice none 0 0], .int .i64 1]) (by simp [results, Tryd.results12, go_sem, World.cell?_setCell_same, *]) rfl (HF.out _ _ (X1.out.setCell (Nat.le_refl _) _) HE.out)
    · have hy2 : 6 < y := by omega
      clear he hb hq H1 H2
      go_wp2
      exact bodyPost_ret (v := .tuple #[.agg #[.slice none 0 0], .int .i64 1]) (by simp [results, Tryd.results12, go_sem, World.cell?_setCell_same, *]) rfl (HF.out _ _ (X1.out.setCell (Nat.le_refl _) _) HE.out)
  · have HE := Lib.hid (H1.out hq)
    have tq : (q != 0) = true := by rw [bne, beq_eq_false_iff_ne.2 hq]; rfl
    clear hq H1 H2
    go_wp2
    exact bodyPost_ret (v := .tuple #[.agg #[.slice none 0 0], .int .i64 q]) (by simp [results, Tryd.results12, go_sem, World.cell?_setCell_same, *]) rfl (HF.out _ _ (X1.out.setCell (Nat.le_refl _) _) HE.out)
end Go.Proofs.YtinijapkipeamaaDoor
