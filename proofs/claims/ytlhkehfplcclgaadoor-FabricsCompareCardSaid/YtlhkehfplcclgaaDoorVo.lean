/- loops.checkThrough, where no loop was pulled through twice. -/
import Derived.Test.YtlhkehfplcclgaaDoorVn
namespace Go.Proofs.YtlhkehfplcclgaaDoor
set_option linter.unusedVariables false
set_option linter.unusedSimpArgs false
set_option maxRecDepth 8000
open Go Go.RowKit

theorem addN_fresh {l : List Nm} {a : Nm} (h : a ∉ l) : addN (fun _ => 0) l a = 0 := by
  show (0 : Int) + ((l.count a : Nat) : Int) = 0
  rw [List.count_eq_zero.2 h]; rfl
/-- A name behind a prefix of a list without repeats. -/
theorem fresh_of {l p : List Nm} {a : Nm} {r : List Nm} (h : l.Nodup) (e : l = p ++ a :: r) : a ∉ p := fun hp => by
  rw [e] at h
  exact (List.nodup_append.1 h).2.2 a hp a (by simp) rfl
theorem thrT_split {t : Tab} {y n j : Nat} (hy : y < t.length) (hn : n < (yi t y).length) (hj : j < (li (yi t y) n).thr.length) :
    ∃ r, thrT t = (thrT (t.take y) ++ thrR ((yi t y).take n) ++ (li (yi t y) n).thr.take j) ++ ni (li (yi t y) n).thr j :: r := by
  have h1 : t = t.take y ++ yi t y :: t.drop (y + 1) := by rw [yi_of hy]; simp
  have h2 : yi t y = (yi t y).take n ++ li (yi t y) n :: (yi t y).drop (n + 1) := by rw [li_of hn]; simp
  have h3 : (li (yi t y) n).thr = (li (yi t y) n).thr.take j ++ ni (li (yi t y) n).thr j :: (li (yi t y) n).thr.drop (j + 1) := by rw [ni_of hj]; simp
  have e1 : thrT t = thrT (t.take y) ++ (thrR (yi t y) ++ thrT (t.drop (y + 1))) := by
    conv => lhs; rw [h1]
    unfold thrT; simp
  have e2 : thrR (yi t y) = thrR ((yi t y).take n) ++ ((li (yi t y) n).thr ++ thrR ((yi t y).drop (n + 1))) := by
    conv => lhs; rw [h2]
    unfold thrR; simp
  have e3 : (li (yi t y) n).thr ++ thrR ((yi t y).drop (n + 1)) = (li (yi t y) n).thr.take j ++ (ni (li (yi t y) n).thr j :: ((li (yi t y) n).thr.drop (j + 1) ++ thrR ((yi t y).drop (n + 1)))) := by
    conv => lhs; rw [h3]
    simp only [List.append_assoc, List.cons_append]
  refine ⟨(li (yi t y) n).thr.drop (j + 1) ++ (thrR ((yi t y).drop (n + 1)) ++ thrT (t.drop (y + 1))), ?_⟩
  rw [e1, e2, e3]
  simp only [List.append_assoc, List.cons_append]
end Go.Proofs.YtlhkehfplcclgaaDoor
