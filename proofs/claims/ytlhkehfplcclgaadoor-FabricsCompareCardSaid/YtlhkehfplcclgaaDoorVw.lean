/- Tables that a call has made itself: rows of loops in blocks of its own. -/
import Derived.Test.YtlhkehfplcclgaaDoorVv
namespace Go.Proofs.YtlhkehfplcclgaaDoor
set_option linter.unusedVariables false
set_option linter.unusedSimpArgs false
set_option maxRecDepth 8000
open Go Go.RowKit

theorem cell_set {w : World} {a b : Addr} {v : Value} (h : w.cell? a = some v) (hb : a.block ≠ b.block) (u : Value) : (w.setCell b u).cell? a = some v := by
  rw [World.cell?_of_block (Deep.blk_setCell_other _ _ _ _ hb)]; exact h
theorem B4.fr {w : World} {b : Nat} {x y z u : Value} {t : TypeId} (h : B4 w b x y z u t) (o : Nat) : w.frozen? ⟨b, o, none⟩ = false := by unfold B4 at h; simp [World.frozen?, h]
theorem B4.lt {w : World} {b : Nat} {x y z u : Value} {t : TypeId} (h : B4 w b x y z u t) : b < w.heap.size := by unfold B4 at h; exact (Array.getElem?_eq_some_iff.1 h).1
theorem B5.lt {w : World} {b : Nat} {c : Xg} {t : TypeId} (h : B5 w b c t) : b < w.heap.size := by unfold B5 at h; exact (Array.getElem?_eq_some_iff.1 h).1
theorem B4.put1 {w : World} {b : Nat} {x y z u : Value} {t : TypeId} (h : B4 w b x y z u t) (y' : Value) : B4 (w.setCell ⟨b, 1, none⟩ y') b x y' z u t := by
  unfold B4 at h ⊢
  simp [World.setCell, Array.getElem?_modify, h]
theorem B4.put4 {w : World} {b : Nat} {x y z u : Value} {t : TypeId} (h : B4 w b x y z u t) (x' y' z' u' : Value) : B4 ((((w.setCell ⟨b, 0, none⟩ x').setCell ⟨b, 1, none⟩ y').setCell ⟨b, 2, none⟩ z').setCell ⟨b, 3, none⟩ u') b x' y' z' u' t := by
  unfold B4 at h ⊢
  simp [World.setCell, Array.getElem?_modify, h]
theorem Ext.set4 {w w' : World} (h : Ext w w') {b : Nat} (hb : w.heap.size ≤ b) (x' y' z' u' : Value) : Ext w ((((w'.setCell ⟨b, 0, none⟩ x').setCell ⟨b, 1, none⟩ y').setCell ⟨b, 2, none⟩ z').setCell ⟨b, 3, none⟩ u') := (((h.setCell hb _).setCell hb _).setCell hb _).setCell hb _
/-- From block N on all is as it was. -/
def Agr (N : Nat) (w w' : World) : Prop := ∀ k, N ≤ k → k < w.heap.size → w'.heap[k]? = w.heap[k]?
theorem Agr.refl (N : Nat) (w : World) : Agr N w w := fun _ _ _ => rfl
theorem Agr.ext {N : Nat} {w w' : World} (x : Ext w w') : Agr N w w' := fun k _ h => Below.block x k h
theorem Agr.set {N : Nat} {w w' : World} (h : Agr N w w') {a : Addr} (ha : a.block < N ∨ w.heap.size ≤ a.block) (v : Value) : Agr N w (w'.setCell a v) := fun k h1 h2 => by rw [Below.heap_setCell _ _ _ _ (by omega)]; exact h k h1 h2
theorem Agr.blk {N g : Nat} {w w' : World} {o : Obj} (h : Agr N w w') (hg : N ≤ g) (hb : w.heap[g]? = some o) : w'.heap[g]? = some o := by rw [h g hg (Array.getElem?_eq_some_iff.1 hb).1]; exact hb
theorem own_agr {w w' : World} {N M k n : Nat} {v : Value} {xs : List Value} {e : TypeId} (h : w.ownsRow M e k v n xs) (hM : N ≤ M) (u : Agr N w w') : w'.ownsRow M e k v n xs := by
  obtain ⟨h1, h2 | ⟨g', cap, cur, h3, h4, h5, h6⟩⟩ := h
  · exact ⟨h1, .inl h2⟩
  · exact ⟨h1, .inr ⟨g', cap, cur, h3, h4, u.blk (by omega) h5, h6⟩⟩
/-- The front and the rest of a slice. -/
theorem CK.take {k : Nat} {w : World} {b o n c l : Nat} {xs : List (List Value)} (h : CK k w (.slice (some ⟨b, o, none⟩) n c) c xs) (hl : l ≤ xs.length) : CK k w (.slice (some ⟨b, o, none⟩) l c) c (xs.take l) := by
  obtain ⟨ao, h1, h2, h3, h4⟩ := h
  have e0 := Value.slice.inj h1
  have hlen : (xs.take l).length = l := by rw [List.length_take]; omega
  refine ⟨some ⟨b, o, none⟩, by rw [hlen], by omega, h3, ?_⟩
  rcases h4 with h4 | ⟨b', o', h5, h6⟩
  · exact .inl h4
  · rw [← e0.1] at h5
    refine .inr ⟨b, o, rfl, fun i hi => ?_⟩
    rw [hlen] at hi
    cases h5
    have := h6 i (by omega)
    have e2 : (xs.take l).getD i [] = xs.getD i [] := by simp [List.getD, List.getElem?_take_of_lt hi]
    rw [e2]; exact this
theorem CK.drop {k : Nat} {w : World} {b o n c l : Nat} {xs : List (List Value)} (h : CK k w (.slice (some ⟨b, o, none⟩) n c) c xs) (hl : l ≤ xs.length) : CK k w (.slice (some ⟨b, o + l * k, none⟩) (xs.length - l) (c - l)) (c - l) (xs.drop l) := by
  obtain ⟨ao, h1, h2, h3, h4⟩ := h
  have e0 := Value.slice.inj h1
  have hlen : (xs.drop l).length = xs.length - l := List.length_drop
  refine ⟨some ⟨b, o + l * k, none⟩, by rw [hlen], by omega, by omega, ?_⟩
  rcases h4 with h4 | ⟨b', o', h5, h6⟩
  · exact .inl (by omega)
  · rw [← e0.1] at h5
    refine .inr ⟨b, o + l * k, rfl, fun i hi => ?_⟩
    rw [hlen] at hi
    cases h5
    have := h6 (l + i) (by omega)
    have e2 : (xs.drop l).getD i [] = xs.getD (l + i) [] := by simp [List.getD, List.getElem?_drop]
    rw [e2, show o + l * k + i * k = o + (l + i) * k by rw [Nat.add_mul]; omega]; exact this
theorem CK.ptr {k : Nat} {w : World} {a : Option Addr} {n c : Nat} {xs : List (List Value)} (h : CK k w (.slice a n c) c xs) : n = xs.length ∧ (c = 0 ∨ (c ≠ 0 ∧ ∃ b o, a = some ⟨b, o, none⟩)) := by
  obtain ⟨ao, h1, h2, h3, h4⟩ := h
  have e0 := Value.slice.inj h1
  refine ⟨e0.2.1, ?_⟩
  by_cases hc : c = 0
  · exact .inl hc
  · rcases h4 with h4 | ⟨b', o', h5, _⟩
    · exact absurd h4 hc
    · exact .inr ⟨hc, b', o', by rw [e0.1, h5]⟩
theorem CK.nil' (k : Nat) (w : World) (a : Option Addr) : CK k w (.slice a 0 0) 0 [] := ⟨a, rfl, Nat.le_refl _, by omega, .inl rfl⟩
/-- What lies from N on stays, but for block g. -/
def UpB (N g : Nat) (w w' : World) : Prop := w.heap.size ≤ w'.heap.size ∧ ∀ k, N ≤ k → k < w.heap.size → k ≠ g → w'.heap[k]? = w.heap[k]?
theorem UpB.of_ext {N g : Nat} {w w' : World} (x : Ext w w') : UpB N g w w' := ⟨x.size, fun k _ h _ => Below.block x k h⟩
theorem UpB.trans {N g : Nat} {a b c : World} (h : UpB N g a b) (k : UpB N g b c) : UpB N g a c := ⟨Nat.le_trans h.1 k.1, fun i h1 h2 h3 => (k.2 i h1 (Nat.lt_of_lt_of_le h2 h.1) h3).trans (h.2 i h1 h2 h3)⟩
theorem UpB.set (N : Nat) (w : World) (a : Addr) (u : Value) : UpB N a.block w (w.setCell a u) := ⟨by simp [World.setCell], fun k _ _ h => Below.heap_setCell _ _ _ _ h⟩
theorem UpB.grown {N g : Nat} {w w' : World} (h : w.grownBy w' (some g)) : UpB N g w w' := ⟨h.size, fun k _ h1 h2 => h.block k h1 (fun e => h2 (by cases e; rfl))⟩
theorem own_upB {w w' : World} {N g k n : Nat} {v : Value} {xs : List Value} {e : TypeId} (h : w.ownsRow N e k v n xs) (hg : v.ownBlock ≠ some g) (u : UpB N g w w') : w'.ownsRow N e k v n xs := by
  obtain ⟨h1, h2 | ⟨g', cap, cur, h3, h4, h5, h6⟩⟩ := h
  · exact ⟨h1, .inl h2⟩
  · refine ⟨h1, .inr ⟨g', cap, cur, h3, h4, ?_, h6⟩⟩
    rw [u.2 g' h4 (Array.getElem?_eq_some_iff.1 h5).1 (fun e => hg (by rw [h3, e]; rfl))]; exact h5
theorem row_upB {w w' : World} {N g b n : Nat} {t : TypeId} {f : Nat → Value} (h : w.rowIs b t n f) (hb : N ≤ b) (hg : b ≠ g) (u : UpB N g w w') : w'.rowIs b t n f := h.of_block (u.2 b hb h.lt hg)
/-- A row's block is not one of another type. -/
theorem own_ne_ty {w : World} {B n k g : Nat} {v : Value} {xs : List Value} {e e' : TypeId} {c : Array Value} (h : w.ownsRow B e k v n xs) (hr : w.heap[g]? = some (.cells c e' (0, 0))) (he : e ≠ e') : v.ownBlock ≠ some g := by
  obtain ⟨_, ⟨rfl, _⟩ | ⟨g', cap, cur, rfl, _, h3, _⟩⟩ := h
  · simp [Value.ownBlock]
  · intro e1
    have : g' = g := by simpa [Value.ownBlock] using e1
    subst this
    rw [h3] at hr
    cases hr
    exact he rfl
/-- A fresh copy is a row of one's own. -/
theorem own_of_copy {w : World} {N k g n : Nat} {e : TypeId} {xs : List (List Value)} (hn : n = xs.length) (hk : Ks k xs) (hg : N ≤ g) (hb : w.heap[g]? = some (.cells xs.flatten.toArray e (0, 0))) (h9 : n ≤ 1000000) : w.ownsRow N e k (.slice (some ⟨g, 0, none⟩) n n) n xs.flatten :=
  ⟨by rw [hk.len, hn], .inr ⟨g, n, _, rfl, hg, hb, Nat.le_refl _, by unfold maxLen; omega, by simp [hk.len, hn], by rw [List.take_of_length_le (by simp [hk.len, hn])]⟩⟩
/-- The cells of a row of loops. -/
def cL (ls : List Lp) (us vs : Nat → Value) : List (List Value) := (List.range ls.length).map fun i => [.int .u8 (li ls i).bed, .bool (li ls i).new, us i, vs i]
theorem cL_len (ls : List Lp) (us vs : Nat → Value) : (cL ls us vs).length = ls.length := by unfold cL; simp
theorem cL_get {ls : List Lp} {us vs : Nat → Value} {i : Nat} (h : i < ls.length) : (cL ls us vs).getD i [] = [.int .u8 (li ls i).bed, .bool (li ls i).new, us i, vs i] := by unfold cL; simp [List.getD, h]
theorem cL_ks {ls : List Lp} {us vs : Nat → Value} (h : ∀ i, i < ls.length → (us i).oneCell' = true ∧ (vs i).oneCell' = true) : Ks 4 (cL ls us vs) := fun x hx => by
  obtain ⟨i, hi, rfl⟩ := List.mem_map.1 hx
  have h1 := h i (List.mem_range.1 hi)
  refine ⟨rfl, fun v hv => ?_⟩
  simp only [List.mem_cons, List.not_mem_nil, or_false] at hv
  rcases hv with rfl | rfl | rfl | rfl
  · rfl
  · rfl
  · exact h1.1
  · exact h1.2
theorem own_one {w : World} {B n k : Nat} {v : Value} {xs : List Value} {e : TypeId} (h : w.ownsRow B e k v n xs) : v.oneCell' = true := by
  obtain ⟨ao, c, rfl, _⟩ := own_slice h; rfl
/-- A row of loops of one's own. -/
structure LRo (N : Nat) (w : World) (v : Value) (ls : List Lp) (us vs : Nat → Value) : Prop where
  row : w.ownsRow N 46 4 v ls.length (cL ls us vs).flatten
  u : ∀ i, i < ls.length → w.ownsRow N 41 2 (us i) (li ls i).thr.length ((li ls i).thr.map Nm.cs).flatten
  v : ∀ i, i < ls.length → w.ownsRow N 50 4 (vs i) (li ls i).past.length ((li ls i).past.map Ps.cs).flatten
theorem LRo.to {N : Nat} {w : World} {v : Value} {ls : List Lp} {us vs : Nat → Value} (h : LRo N w v ls us vs) : ∃ c, LR w v c ls := by
  obtain ⟨c, hc⟩ := CK.of_own h.row (cL_ks fun i hi => ⟨own_one (h.u i hi), own_one (h.v i hi)⟩) (cL_len _ _ _).symm (by decide)
  exact ⟨c, us, vs, hc, fun i hi => ⟨CK.of_own (h.u i hi) (Ks.nm _) (by simp) (by decide), CK.of_own (h.v i hi) (Ks.ps _) (by simp) (by decide)⟩⟩
theorem LRo.up {N g : Nat} {w w' : World} {v : Value} {ls : List Lp} {us vs : Nat → Value} {c : Array Value} {t : TypeId} (h : LRo N w v ls us vs) (hv : v.ownBlock ≠ some g) (hg : w.heap[g]? = some (.cells c t (0, 0))) (h1 : 41 ≠ t) (h2 : 50 ≠ t) (u : UpB N g w w') : LRo N w' v ls us vs :=
  ⟨own_upB h.row hv u, fun i hi => own_upB (h.u i hi) (own_ne_ty (h.u i hi) hg h1) u, fun i hi => own_upB (h.v i hi) (own_ne_ty (h.v i hi) hg h2) u⟩
theorem LRo.ext {N : Nat} {w w' : World} {v : Value} {ls : List Lp} {us vs : Nat → Value} (h : LRo N w v ls us vs) (x : Ext w w') : LRo N w' v ls us vs :=
  ⟨own_extk h.row x, fun i hi => own_extk (h.u i hi) x, fun i hi => own_extk (h.v i hi) x⟩
/-- Cell i of a row of loops. -/
def LF (ls : List Lp) (us vs : Nat → Value) (i : Nat) : Value := ((cL ls us vs).getD (i / 4) []).getD (i % 4) undef
def upV (f : Nat → Value) (n : Nat) (v : Value) : Nat → Value := fun i => if i = n then v else f i
theorem LF_at {ls : List Lp} {us vs : Nat → Value} {n : Nat} (hn : n < ls.length) : LF ls us vs (n * 4) = .int .u8 (li ls n).bed ∧ LF ls us vs (n * 4 + 1) = .bool (li ls n).new ∧ LF ls us vs (n * 4 + 2) = us n ∧ LF ls us vs (n * 4 + 3) = vs n := by
  unfold LF
  rw [show n * 4 / 4 = n by omega, show n * 4 % 4 = 0 by omega, show (n * 4 + 1) / 4 = n by omega, show (n * 4 + 1) % 4 = 1 by omega, show (n * 4 + 2) / 4 = n by omega, show (n * 4 + 2) % 4 = 2 by omega, show (n * 4 + 3) / 4 = n by omega, show (n * 4 + 3) % 4 = 3 by omega, cL_get hn]
  exact ⟨rfl, rfl, rfl, rfl⟩
theorem mod4 (i : Nat) : ∃ n r, i = n * 4 + r ∧ r < 4 := ⟨i / 4, i % 4, by omega, Nat.mod_lt _ (by decide)⟩
theorem LF_2 {ls : List Lp} {us vs : Nat → Value} {n : Nat} (v : Value) {i : Nat} (hi : i < ls.length * 4) : (if i = n * 4 + 2 then v else LF ls us vs i) = LF ls (upV us n v) vs i := by
  obtain ⟨m, r, rfl, hr⟩ := mod4 i
  have hm : m < ls.length := by omega
  obtain ⟨a0, a1, a2, a3⟩ := LF_at (us := us) (vs := vs) hm
  obtain ⟨b0, b1, b2, b3⟩ := LF_at (us := upV us n v) (vs := vs) hm
  rcases (show r = 0 ∨ r = 1 ∨ r = 2 ∨ r = 3 by omega) with rfl | rfl | rfl | rfl
  · rw [if_neg (by omega)]; exact a0.trans b0.symm
  · rw [if_neg (by omega), a1, b1]
  · rw [b2, a2]; unfold upV
    by_cases e : m = n
    · rw [if_pos (by omega), if_pos e]
    · rw [if_neg (by omega), if_neg e]
  · rw [if_neg (by omega), a3, b3]
theorem LF_3 {ls : List Lp} {us vs : Nat → Value} {n : Nat} (v : Value) {i : Nat} (hi : i < ls.length * 4) : (if i = n * 4 + 3 then v else LF ls us vs i) = LF ls us (upV vs n v) i := by
  obtain ⟨m, r, rfl, hr⟩ := mod4 i
  have hm : m < ls.length := by omega
  obtain ⟨a0, a1, a2, a3⟩ := LF_at (us := us) (vs := vs) hm
  obtain ⟨b0, b1, b2, b3⟩ := LF_at (us := us) (vs := upV vs n v) hm
  rcases (show r = 0 ∨ r = 1 ∨ r = 2 ∨ r = 3 by omega) with rfl | rfl | rfl | rfl
  · rw [if_neg (by omega)]; exact a0.trans b0.symm
  · rw [if_neg (by omega), a1, b1]
  · rw [if_neg (by omega), a2, b2]
  · rw [b3, a3]; unfold upV
    by_cases e : m = n
    · rw [if_pos (by omega), if_pos e]
    · rw [if_neg (by omega), if_neg e]
theorem row_of_copy {w : World} {g n : Nat} {ls : List Lp} {us vs : Nat → Value} (hn : n = ls.length) (hk : Ks 4 (cL ls us vs)) (hb : w.heap[g]? = some (.cells (cL ls us vs).flatten.toArray 46 (0, 0))) : w.rowIs g 46 (n * 4) (LF ls us vs) := by
  refine ⟨_, hb, by simp only [List.size_toArray]; rw [hk.len, cL_len, hn], fun i hi => ?_⟩
  obtain ⟨m, r, rfl, hr⟩ := mod4 i
  have := hk.get m r (by rw [cL_len]; omega) hr
  simp only [List.getElem?_toArray]
  rw [this]
  unfold LF
  rw [show (m * 4 + r) / 4 = m by omega, show (m * 4 + r) % 4 = r by omega]
theorem own_of_lrow {w : World} {N g n : Nat} {ls : List Lp} {us vs : Nat → Value} (hn : n = ls.length) (hk : Ks 4 (cL ls us vs)) (hg : N ≤ g) (h9 : n ≤ 1000000) (hr : w.rowIs g 46 (n * 4) (LF ls us vs)) : w.ownsRow N 46 4 (.slice (some ⟨g, 0, none⟩) n n) n (cL ls us vs).flatten := by
  obtain ⟨c, hb, hs, hc⟩ := hr
  refine ⟨by rw [hk.len, cL_len, hn], .inr ⟨g, n, c, rfl, hg, hb, Nat.le_refl _, by unfold maxLen; omega, hs, ?_⟩⟩
  refine List.ext_getElem? fun i => ?_
  rw [List.getElem?_take]
  by_cases hi : i < n * 4
  · rw [if_pos hi, Array.getElem?_toList, hc i hi]
    obtain ⟨m, r, rfl, hr⟩ := mod4 i
    rw [hk.get m r (by rw [cL_len]; omega) hr]
    unfold LF
    rw [show (m * 4 + r) / 4 = m by omega, show (m * 4 + r) % 4 = r by omega]
  · rw [if_neg hi, List.getElem?_eq_none (by rw [hk.len, cL_len]; omega)]
end Go.Proofs.YtlhkehfplcclgaaDoor
