/- What charts.Loads computes, in plain Lean, and the list of rows that it builds in memory. -/
import Derived.Test.YtinijapkipeamaaDoorSe
import Derived.Test.YtinijapkipeamaaDoorSf
import Derived.Test.YtinijapkipeamaaDoorLibe
namespace Go.Proofs.YtinijapkipeamaaDoor
set_option linter.unusedVariables false
set_option linter.unusedSimpArgs false
open Go Go.RowKit

/-- A row's stitches on the slots before it: the error, and the slots behind it. -/
def ldRow : List St → List Int → List Int → Int × List Int
  | [], _, acc => (0, acc)
  | s :: r, bf, acc => if s.lerr (bf.take s.need.toNat) ≠ 0 then (s.lerr (bf.take s.need.toNat), []) else ldRow r (bf.drop s.need.toNat) (acc ++ s.lmade (bf.take s.need.toNat))
def ldRows : List (List St) → List Int → List (List Int) → Int × List (List Int)
  | [], _, acc => (0, acc)
  | r :: rs, bf, acc => if (ldRow r bf []).1 ≠ 0 then ((ldRow r bf []).1, []) else ldRows rs (ldRow r bf []).2 (acc ++ [(ldRow r bf []).2])
def first (rows : List (List St)) : List Int := List.replicate (rneed (sw rows 0)).toNat 1
/-- The error of a chart, and the numbers of loops of its slots. -/
def cloads (rows : List (List St)) : Int × List (List Int) := if cerr rows ≠ 0 then (cerr rows, []) else ldRows rows (first rows) [first rows]

theorem drop_si {r : List St} {k : Nat} (h : k < r.length) : r.drop k = si r k :: r.drop (k + 1) := by rw [si_of_lt h]; exact List.drop_eq_getElem_cons h
theorem drop_sw {r : List (List St)} {k : Nat} (h : k < r.length) : r.drop k = sw r k :: r.drop (k + 1) := by rw [sw_of_lt h]; exact List.drop_eq_getElem_cons h
theorem ldRow_bad {r : List St} {k : Nat} (h : k < r.length) {bf acc : List Int} (hb : (si r k).lerr (bf.take (si r k).need.toNat) ≠ 0) : ldRow (r.drop k) bf acc = ((si r k).lerr (bf.take (si r k).need.toNat), []) := by
  rw [drop_si h, ldRow, if_pos hb]
theorem ldRow_next {r : List St} {k : Nat} (h : k < r.length) {bf acc : List Int} (hb : (si r k).lerr (bf.take (si r k).need.toNat) = 0) : ldRow (r.drop k) bf acc = ldRow (r.drop (k + 1)) (bf.drop (si r k).need.toNat) (acc ++ (si r k).lmade (bf.take (si r k).need.toNat)) := by
  rw [drop_si h, ldRow, if_neg (by omega)]
theorem ldRow_end {r : List St} {k : Nat} (h : r.length ≤ k) {bf acc : List Int} : ldRow (r.drop k) bf acc = (0, acc) := by rw [List.drop_eq_nil_of_le h]; rfl
theorem ldRows_bad {r : List (List St)} {k : Nat} (h : k < r.length) {bf : List Int} {acc : List (List Int)} (hb : (ldRow (sw r k) bf []).1 ≠ 0) : ldRows (r.drop k) bf acc = ((ldRow (sw r k) bf []).1, []) := by
  rw [drop_sw h, ldRows, if_pos hb]
theorem ldRows_next {r : List (List St)} {k : Nat} (h : k < r.length) {bf : List Int} {acc : List (List Int)} (hb : (ldRow (sw r k) bf []).1 = 0) : ldRows (r.drop k) bf acc = ldRows (r.drop (k + 1)) (ldRow (sw r k) bf []).2 (acc ++ [(ldRow (sw r k) bf []).2]) := by
  rw [drop_sw h, ldRows, if_neg (by omega)]
theorem ldRows_end {r : List (List St)} {k : Nat} (h : r.length ≤ k) {bf : List Int} {acc : List (List Int)} : ldRows (r.drop k) bf acc = (0, acc) := by rw [List.drop_eq_nil_of_le h]; rfl
theorem rneed_drop {r : List St} {k : Nat} (h : k < r.length) : rneed (r.drop k) = (si r k).need + rneed (r.drop (k + 1)) := by rw [drop_si h, rneed_cons]
theorem rmake_drop {r : List St} {k : Nat} (h : k < r.length) : rmake (r.drop k) = (si r k).make + rmake (r.drop (k + 1)) := by rw [drop_si h, rmake_cons]
theorem lmade_len {s : St} {xs : List Int} (h : s.lerr xs = 0) : (s.lmade xs).length = s.make.toNat := by
  have hc : s.chk = 0 := by
    rcases St.chk_cases s with e | e
    · exact e
    · rw [lerr_chk (by omega)] at h; omega
  have hm : s.make = if s.k = 8 then s.a + s.b else 1 := by unfold St.make; rw [if_neg (by omega)]
  unfold St.lmade
  rw [if_neg (by omega)]
  by_cases h6 : s.k = 6
  · rw [if_pos h6, hm, if_neg (by omega)]; rfl
  · rw [if_neg h6]
    by_cases h7 : s.k = 7
    · rw [if_pos h7, hm, if_neg (by omega)]; rfl
    · rw [if_neg h7]; simp

/-! ### The list of rows in memory -/
/-- Block g holds the slices of the rows laid so far; each row lies in a block of its own. -/
structure LS (eI eR : TypeId) (w wr : World) (g n : Nat) (rows : List (List Int)) (q : Nat → Nat) : Prop where
  ext : Ext w wr
  own : wr.ownsRow g eR 1 (.slice (some ⟨g, 0, none⟩) rows.length n) rows.length ((List.range rows.length).map fun j => .slice (some ⟨q j, 0, none⟩) (ri rows j).length (ri rows j).length)
  cells : ∀ j, j < rows.length → q j ≠ g ∧ (ri rows j).length ≤ maxLen ∧ wr.rowIs (q j) eI (ri rows j).length (fun i => .int .i64 (gi (ri rows j) i))
theorem LS.later {eI eR : TypeId} {w wr wr' : World} {g n : Nat} {rows : List (List Int)} {q : Nat → Nat} (h : LS eI eR w wr g n rows q) (x : Ext wr wr') : LS eI eR w wr' g n rows q :=
  ⟨h.ext.trans x, own_ext h.own x, fun j hj => ⟨(h.cells j hj).1, (h.cells j hj).2.1, x.row (h.cells j hj).2.2⟩⟩
theorem LS.is {eI eR : TypeId} {w wr : World} {g n : Nat} {rows : List (List Int)} {q : Nat → Nat} (h : LS eI eR w wr g n rows q) {j : Nat} (hj : j < rows.length) : IS .i64 wr (.slice (some ⟨q j, 0, none⟩) (ri rows j).length (ri rows j).length) (ri rows j).length (ri rows j) :=
  IS.of_row (h.cells j hj).2.2 rfl (h.cells j hj).2.1 (fun i hi => rfl)
theorem LS.at {eI eR : TypeId} {w wr : World} {g n : Nat} {rows : List (List Int)} {q : Nat → Nat} (h : LS eI eR w wr g n rows q) {j : Nat} (hj : j < rows.length) : wr.cell? ⟨g, j, none⟩ = some (.slice (some ⟨q j, 0, none⟩) (ri rows j).length (ri rows j).length) := by
  obtain ⟨g', cap, f, hv, _, _, hnc, _, hrow, hf⟩ := own_open h.own (by omega)
  simp only [Value.slice.injEq, Option.some.injEq, Addr.mk.injEq, and_true, true_and] at hv
  obtain ⟨rfl, rfl⟩ := hv
  rw [hrow.cell (by omega), hf j (.slice (some ⟨q j, 0, none⟩) (ri rows j).length (ri rows j).length) (by simp [hj])]
theorem LS.lt {eI eR : TypeId} {w wr : World} {g n : Nat} {rows : List (List Int)} {q : Nat → Nat} (h : LS eI eR w wr g n rows q) (h0 : 0 < rows.length) : g < wr.heap.size ∧ rows.length ≤ n ∧ n ≤ maxLen := by
  obtain ⟨g', cap, f, hv, _, hlt, hnc, hcm, _, _⟩ := own_open h.own h0
  simp only [Value.slice.injEq, Option.some.injEq, Addr.mk.injEq, and_true, true_and] at hv
  obtain ⟨rfl, rfl⟩ := hv
  exact ⟨hlt, hnc, hcm⟩
theorem ri_app (a : List (List Int)) (x : List Int) {j : Nat} (h : j < a.length) : ri (a ++ [x]) j = ri a j := by unfold ri; simp [List.getD, List.getElem?_append_left h]
theorem ri_new (a : List (List Int)) (x : List Int) : ri (a ++ [x]) a.length = x := by unfold ri; simp [List.getD]
theorem LS.push {eI eR : TypeId} {w wr w' : World} {g n p : Nat} {rows : List (List Int)} {q : Nat → Nat} {new : List Int} (h : LS eI eR w wr g n rows q) (hg : w.heap.size ≤ g) (hp : p ≠ g) (hm : new.length ≤ maxLen)
    (hr : wr.rowIs p eI new.length (fun i => .int .i64 (gi new i)))
    (hown : w'.ownsRow g eR 1 (.slice (some ⟨g, 0, none⟩) (rows.length + 1) n) (rows.length + 1) (((List.range rows.length).map fun j => .slice (some ⟨q j, 0, none⟩) (ri rows j).length (ri rows j).length) ++ [.slice (some ⟨p, 0, none⟩) new.length new.length]))
    {o : Obj} (hgr : (wr.alloc o).grownBy w' (some g)) : LS eI eR w w' g n (rows ++ [new]) (fun j => if j = rows.length then p else q j) := by
  have keep : ∀ (b : Nat) (m : Nat) (f : Nat → Value), b ≠ g → wr.rowIs b eI m f → w'.rowIs b eI m f := fun b m f hb hr => by
    have h2 := ((Ext.refl wr).alloc o).row hr
    exact h2.of_block (hgr.block b h2.lt (fun e => hb (Option.some.inj e)))
  refine ⟨(h.ext.alloc o).grown hgr (fun k hk => by rw [← Option.some.inj hk]; exact hg), ?_, fun j hj => ?_⟩
  · rw [List.length_append, List.length_singleton]
    have e : ((List.range (rows.length + 1)).map fun j => Value.slice (some ⟨(if j = rows.length then p else q j), 0, none⟩) (ri (rows ++ [new]) j).length (ri (rows ++ [new]) j).length) = ((List.range rows.length).map fun j => .slice (some ⟨q j, 0, none⟩) (ri rows j).length (ri rows j).length) ++ [.slice (some ⟨p, 0, none⟩) new.length new.length] := by
      rw [List.range_succ, List.map_append]
      congr 1
      · refine List.map_congr_left fun j hj => ?_
        have hj := List.mem_range.1 hj
        rw [if_neg (by omega), ri_app _ _ hj]
      · simp [ri_new]
    rw [e]; exact hown
  · rw [List.length_append, List.length_singleton] at hj
    by_cases e : j = rows.length
    · subst e
      simp only [if_true, ri_new]
      exact ⟨hp, hm, keep _ _ _ hp hr⟩
    · simp only [if_neg e, ri_app rows new (show j < rows.length by omega)]
      have := h.cells j (by omega)
      exact ⟨this.1, this.2.1, keep _ _ _ this.1 this.2.2⟩
theorem LS.ret {eI eR : TypeId} {w wr : World} {g n : Nat} {rows : List (List Int)} {q : Nat → Nat} (h : LS eI eR w wr g n rows q) (hn : rows.length = n) (h0 : 0 < n) : ISX .i64 wr (.slice (some ⟨g, 0, none⟩) n n) n rows := by
  have hlt := h.lt (by omega)
  refine ⟨fun j => .slice (some ⟨q j, 0, none⟩) (ri rows j).length (ri rows j).length, ISV.mk' hn.symm (Nat.le_refl _) hlt.2.2 (fun j hj => ?_) (fun j hj => h.is (by omega))⟩
  rw [Nat.zero_add]; exact h.at (by omega)
end Go.Proofs.YtinijapkipeamaaDoor
