/- Rows of stitches of the call's own: their cells; append. -/
import Derived.Test.YtinijapkipeamaaDoorSl
namespace Go.Proofs.YtinijapkipeamaaDoor
set_option linter.unusedVariables false
set_option linter.unusedSimpArgs false
set_option maxRecDepth 8000
open Go Go.RowKit

def cells (l : List St) : List Value := l.flatMap St.cs
theorem cells_len (l : List St) : (cells l).length = l.length * 5 := by
  induction l with
  | nil => rfl
  | cons s l ih => unfold cells at ih ⊢; rw [List.flatMap_cons, List.length_append, ih]; simp [St.cs]; omega
theorem cells_app (l m : List St) : cells (l ++ m) = cells l ++ cells m := by unfold cells; rw [List.flatMap_append]
theorem cells_at : ∀ (l : List St) (i : Nat), i < l.length → (cells l)[i * 5]? = some (.int .u8 (si l i).k) ∧ (cells l)[i * 5 + 1]? = some (.int .u8 (si l i).y) ∧ (cells l)[i * 5 + 2]? = some (.int .i64 (si l i).a) ∧ (cells l)[i * 5 + 3]? = some (.int .i64 (si l i).b) ∧ (cells l)[i * 5 + 4]? = some (.bool (si l i).f)
  | [], i, h => by simp at h
  | s :: l, 0, _ => ⟨rfl, rfl, rfl, rfl, rfl⟩
  | s :: l, i + 1, h => by
    have ih := cells_at l i (by simpa using h)
    have e : si (s :: l) (i + 1) = si l i := by unfold si; simp [List.getD]
    have c : ∀ d, (cells (s :: l))[(i + 1) * 5 + d]? = (cells l)[i * 5 + d]? := fun d => by
      rw [show (i + 1) * 5 + d = (i * 5 + d) + 1 + 1 + 1 + 1 + 1 by omega]; rfl
    rw [e]
    have c0 := c 0
    rw [Nat.add_zero, Nat.add_zero] at c0
    rw [c0, c 1, c 2, c 3, c 4]
    exact ih
/-- The cells in memory. -/
theorem RO.news {w : World} {g c : Nat} {l : List St} (h : RO w g c l) : ∀ j u, (cells l)[j]? = some u → w.cell? ((⟨g, 0, none⟩ : Addr).add j) = some u := by
  intro j u hu
  obtain ⟨h1, h2, f, h3, h4⟩ := h
  have hj : j < l.length * 5 := by rw [← cells_len]; exact (List.getElem?_eq_some_iff.1 hu).1
  have hadd : (⟨g, 0, none⟩ : Addr).add j = ⟨g, j, none⟩ := by simp [Addr.add]; try exact fun h => h.symm
  rw [hadd, h3.cell (by omega)]
  obtain ⟨a0, a1, a2, a3, a4⟩ := h4 (j / 5) (by omega)
  obtain ⟨b0, b1, b2, b3, b4⟩ := cells_at l (j / 5) (by omega)
  rcases (show j = j / 5 * 5 ∨ j = j / 5 * 5 + 1 ∨ j = j / 5 * 5 + 2 ∨ j = j / 5 * 5 + 3 ∨ j = j / 5 * 5 + 4 by omega) with e | e | e | e | e <;> rw [e] at hu ⊢
  · rw [a0, ← hu, b0]
  · rw [a1, ← hu, b1]
  · rw [a2, ← hu, b2]
  · rw [a3, ← hu, b3]
  · rw [a4, ← hu, b4]
theorem RO.of_own {w : World} {B n : Nat} {v : Value} {l : List St} (h : w.ownsRow B 52 5 v n (cells l)) (hn : 0 < n) : ∃ g c, v = .slice (some ⟨g, 0, none⟩) n c ∧ n = l.length ∧ B ≤ g ∧ RO w g c l := by
  obtain ⟨hl, h⟩ := h
  rw [cells_len] at hl
  rcases h with ⟨_, h⟩ | ⟨g, cap, cur, hv, hB, hb, hnc, hm, hsz, htk⟩
  · omega
  refine ⟨g, cap, hv, by omega, hB, by omega, hm, fun i => (cur[i]?).getD undef, ⟨cur, hb, hsz, fun i hi => by simp [Array.getElem?_eq_getElem (show i < cur.size by omega)]⟩, fun i hi => ?_⟩
  have hc : ∀ j, j < n * 5 → cur[j]? = (cells l)[j]? := fun j hj => by
    rw [← htk, List.getElem?_take, if_pos hj, Array.getElem?_toList]
  obtain ⟨b0, b1, b2, b3, b4⟩ := cells_at l i hi
  refine ⟨?_, ?_, ?_, ?_, ?_⟩ <;> simp only []
  · rw [hc _ (by omega), b0]; rfl
  · rw [hc _ (by omega), b1]; rfl
  · rw [hc _ (by omega), b2]; rfl
  · rw [hc _ (by omega), b3]; rfl
  · rw [hc _ (by omega), b4]; rfl
theorem cs_one (l : List St) : ∀ u ∈ cells l, u.oneCell' = true := by
  intro u hu
  obtain ⟨s, _, hs⟩ := List.mem_flatMap.1 hu
  simp [St.cs] at hs
  rcases hs with rfl | rfl | rfl | rfl | rfl <;> rfl
/-- 'append(s, x...)' of stitches of the call's own. -/
theorem app_st {w : World} {ops : Array Oper} {rest : List Oper} {o : Oper} {a : Act} {Q : Exit → Act → World → Prop}
    (hg : o.guard = none) (s x : Operand) (hop : o.op = Op.call { callee := Callee.builtin Builtin.append, args := #[s, x], argTypes := #[48, 48] })
    (B : Nat) (v : Value) (n : Nat) (xs : List Value) (hs : a.eval s = v) (hown : w.ownsRow B 52 5 v n xs)
    (g c m : Nat) (l : List St) (hx : a.eval x = .slice (some ⟨g, 0, none⟩) m c) (hm : m = l.length) (hR : RO w g c l)
    (hlen : n + m ≤ 1000000) (hB : B ≤ w.heap.size)
    (hK : ∀ v' w', w'.ownsRow B 52 5 v' (n + m) (xs ++ cells l) → Below B w w' → wpList Tryd.prog ops Q rest (a.put o.dst v') w') :
    wpList Tryd.prog ops Q (o :: rest) a w := by
  obtain ⟨i, hi, hzz⟩ := Option.map_eq_some_iff.1 (show (Tryd.prog.info? 52).map (fun i => (i.zero, i.size, i.bytes)) = some (some (.agg z5), 5, 32) by kernel_rfl)
  simp only [Prod.mk.injEq] at hzz
  obtain ⟨hz, hsz, hb⟩ := hzz
  refine wpList_append_own w hg s x 48 hop B 52 i (.agg z5) 5 32 Tryd.underlying48 hi hz hsz hb rfl (by decide) v n xs hs hown ⟨g, 0, none⟩ m c (cells l) hx (by rw [cells_len, hm]) hR.news (cs_one l) (by unfold maxLen; omega) (by omega) hB ?_
  intro v' w' h2 h3 _
  refine hK v' w' h2 ?_
  refine (Below.refl B w).grown h3 hB fun k hk => ?_
  obtain ⟨_, hv | ⟨g', cap, cur, hv, hBg, _⟩⟩ := hown
  · rw [hv.1] at hk; cases hk
  · rw [hv] at hk; injection hk with hk; rw [← hk]; exact hBg
end Go.Proofs.YtinijapkipeamaaDoor
