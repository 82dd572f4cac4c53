/- Contract of words.Parse. -/
import Derived.Test.YtbappfeojdehgaaDoorTb
namespace Go.Proofs.YtbappfeojdehgaaDoor
set_option linter.unusedVariables false
set_option linter.unusedSimpArgs false
set_option maxRecDepth 8000
open Go Go.RowKit Go.Sort

/-- A row of numbers of the call's own: the first k are laid. -/
def IRow (w wr : World) (N : Nat) (V : Nat → Int) (k : Nat) : Prop :=
  Ext w wr ∧ ∃ f, wr.rowIs w.heap.size 3 N f ∧ (∀ j, j < k → f j = .int .i64 (V j)) ∧ ∀ j, ∃ y, f j = .int .i64 y
theorem IRow.start (w : World) (N : Nat) (V : Nat → Int) : IRow w (w.alloc (.cells (madeCells #[.int .i64 0] N) 3)) N V 0 :=
  ⟨(Ext.refl w).alloc _, _, World.rowIs_made _ _ _ _, fun j hj => by omega, fun j => ⟨0, rfl⟩⟩
theorem IRow.ext {w wr w' : World} {N : Nat} {V : Nat → Int} {k : Nat} (h : IRow w wr N V k) (hx : Ext wr w') : IRow w w' N V k := by
  obtain ⟨h1, f, h2, h3⟩ := h
  exact ⟨h1.trans hx, f, h2.of_block (Below.block hx _ h2.lt), h3⟩
theorem IRow.put {w wr : World} {N : Nat} {V : Nat → Int} {k : Nat} (h : IRow w wr N V k) (y : Int) : IRow w (wr.setCell ⟨w.heap.size, k, none⟩ (.int .i64 y)) N V k := by
  obtain ⟨h1, f, h2, h3, h4⟩ := h
  refine ⟨h1.setCell (Nat.le_refl _) _, _, h2.set _ _, fun j hj => ?_, fun j => ?_⟩
  · rw [if_neg (by omega)]; exact h3 j hj
  · by_cases e : j = k
    · rw [if_pos e]; exact ⟨_, rfl⟩
    · rw [if_neg e]; exact h4 j
theorem IRow.next {w wr : World} {N : Nat} {V : Nat → Int} {k : Nat} (h : IRow w wr N V k) : IRow w (wr.setCell ⟨w.heap.size, k, none⟩ (.int .i64 (V k))) N V (k + 1) := by
  obtain ⟨h1, f, h2, h3, h4⟩ := h
  refine ⟨h1.setCell (Nat.le_refl _) _, _, h2.set _ _, fun j hj => ?_, fun j => ?_⟩
  · by_cases e : j = k
    · subst e; rw [if_pos rfl]
    · rw [if_neg e]; exact h3 j (by omega)
  · by_cases e : j = k
    · rw [if_pos e]; exact ⟨_, rfl⟩
    · rw [if_neg e]; exact h4 j
theorem IRow.ret {w wr : World} {N : Nat} {V : Nat → Int} (h : IRow w wr N V N) (hN : N ≤ 1000) : IS .i64 wr (.slice (some ⟨w.heap.size, 0, none⟩) N N) N ((List.range N).map V) := by
  obtain ⟨hx, f, hr, hf, _⟩ := h
  exact IS.of_row hr (by simp) (by unfold maxLen; omega) fun i hi => by rw [hf i hi, gi_range_map _ hi]

/-! ### A field, cut -/
theorem pw_cut (p : List UInt8) : pw p = if (Lib.trimPrefix p [45]).length = 1 ∧ 49 ≤ bat (Lib.trimPrefix p [45]) 0 ∧ bat (Lib.trimPrefix p [45]) 0 ≤ 55 then some (if Lib.hasPrefix p [45] then -(bat (Lib.trimPrefix p [45]) 0 - 48) else bat (Lib.trimPrefix p [45]) 0 - 48) else none := by
  cases p with
  | nil => rfl
  | cons b r =>
    by_cases hb : b = 45
    · subst hb
      have h1 : Lib.hasPrefix (45 :: r) [45] = true := by simp [Lib.hasPrefix, List.isPrefixOf]
      have h2 : Lib.trimPrefix (45 :: r) [45] = r := by unfold Lib.trimPrefix; rw [if_pos h1]; rfl
      rw [h1, h2]
      cases r with
      | nil => rfl
      | cons d t =>
        cases t with
        | nil =>
          have hd : bat [d] 0 = (d.toNat : Int) := rfl
          rw [hd, if_pos rfl]
          by_cases hh : 49 ≤ d.toNat ∧ d.toNat ≤ 55
          · rw [pw_two hh, if_pos ⟨rfl, by omega, by omega⟩]
          · rw [pw_two_no (fun h => hh h.2), if_neg (fun h => hh ⟨by omega, by omega⟩)]
        | cons e t => rw [pw_more, if_neg (fun h => by simp at h)]
    · have h1 : Lib.hasPrefix (b :: r) [45] = false := by simp [Lib.hasPrefix, List.isPrefixOf, Ne.symm hb]
      have h2 : Lib.trimPrefix (b :: r) [45] = b :: r := by unfold Lib.trimPrefix; rw [h1]; rfl
      rw [h1, h2]
      cases r with
      | nil =>
        have hd : bat [b] 0 = (b.toNat : Int) := rfl
        rw [hd]
        by_cases hh : 49 ≤ b.toNat ∧ b.toNat ≤ 55
        · rw [pw_one hh, if_pos ⟨rfl, by omega, by omega⟩]; rfl
        · rw [pw_one_no hh, if_neg (fun h => hh ⟨by omega, by omega⟩)]
      | cons e t =>
        rw [if_neg (fun h => by simp at h)]
        cases t with
        | nil => exact pw_two_no (fun h => hb h.1)
        | cons f t => exact pw_more _ _ _ _

/-- The pieces as Split lays them. -/
def pieces (s : ByteArray) : List ByteArray := Lib.splitB { data := #[32] } 0 (Lib.countB s { data := #[32] }) s
theorem pieces_data (s : ByteArray) : (pieces s).map (·.data.toList) = fields s.data.toList := by
  unfold pieces
  rw [Lib.splitB_data]
  exact split_fields _
theorem pieces_len (s : ByteArray) : (pieces s).length = (fields s.data.toList).length := by rw [← pieces_data]; simp
theorem pieces_count (s : ByteArray) : Lib.countB s { data := #[32] } + 1 = (fields s.data.toList).length := by
  rw [← pieces_len]; exact (Lib.splitB_all _ (by decide) 0 _ s rfl).symm
def piece (s : ByteArray) (i : Nat) : ByteArray := (pieces s).getD i ⟨#[]⟩
def fieldAt (l : List UInt8) (i : Nat) : List UInt8 := (fields l).getD i []
theorem piece_data (s : ByteArray) {i : Nat} (h : i < (fields s.data.toList).length) : (piece s i).data.toList = fieldAt s.data.toList i := by
  unfold piece fieldAt
  rw [← pieces_data]
  rw [← pieces_len] at h
  simp [List.getD_eq_getElem?_getD, List.getElem?_eq_getElem h]
theorem fieldAt_mem {l : List UInt8} {i : Nat} (h : i < (fields l).length) : fieldAt l i ∈ fields l := by
  unfold fieldAt; rw [List.getD_eq_getElem?_getD, List.getElem?_eq_getElem h]; exact List.getElem_mem h
theorem mem_fieldAt {l p : List UInt8} (h : p ∈ fields l) : ∃ i, i < (fields l).length ∧ fieldAt l i = p := by
  obtain ⟨i, hi, rfl⟩ := List.mem_iff_getElem.1 h
  exact ⟨i, hi, by unfold fieldAt; rw [List.getD_eq_getElem?_getD, List.getElem?_eq_getElem hi]; rfl⟩
theorem vals_range (l : List UInt8) : vals l = (List.range (fields l).length).map fun i => pv (fieldAt l i) := by
  apply List.ext_getElem
  · simp [vals]
  · intro i h1 h2
    have hi : i < (fields l).length := by simpa [vals] using h1
    simp [vals, fieldAt, List.getD_eq_getElem?_getD, List.getElem?_eq_getElem hi]

/-- Where the length of the longest text that is searched at once lies. -/
def Mx (w : World) : Prop := ∃ m, w.cell? ⟨1, 0, none⟩ = some (.int .i64 m)
theorem Mx.ext {w w' : World} (h : Mx w) (hx : Ext w w') : Mx w' := by
  obtain ⟨m, hm⟩ := h
  exact ⟨m, hx.cell hm⟩
/-- Split's result. -/
def RetP (s : ByteArray) (w : World) (e : Ending) (w' : World) : Prop :=
  e = .returned (.slice (some ⟨w.heap.size, 0, none⟩) (fields s.data.toList).length (fields s.data.toList).length) ∧ Ext w w' ∧ w.heap.size < w'.heap.size ∧ ∀ j, j < (fields s.data.toList).length → w'.cell? ⟨w.heap.size, j, none⟩ = some (.string (piece s j))
theorem Split_calls (s : ByteArray) (w : World) (hs : s.size ≤ 100000) (hm : Mx w) : Calls Tryd.prog 21 #[.string s, .string { data := #[32] }] w (RetP s w) := by
  obtain ⟨m, hm⟩ := hm
  refine (Tryd.strings_Split s { data := #[32] } m w (by omega) hm (by decide)).mono ?_
  rintro e w' ⟨rfl, rfl⟩
  refine ⟨by rw [pieces_count], (Ext.refl w).alloc _, by simp, fun j hj => ?_⟩
  have hlen : j < (pieces s).length := by rw [pieces_len]; exact hj
  have hr := World.rowIs_alloc w ((pieces s).map Value.string).toArray 9 (fun j => .string (piece s j)) (fun i hi => by
    have hi' : i < (pieces s).length := by simpa using hi
    simp [piece, List.getD_eq_getElem?_getD, List.getElem?_eq_getElem hi'])
  have := hr.cell (i := j) (by simpa using hlen)
  exact this
end Go.Proofs.YtbappfeojdehgaaDoor
