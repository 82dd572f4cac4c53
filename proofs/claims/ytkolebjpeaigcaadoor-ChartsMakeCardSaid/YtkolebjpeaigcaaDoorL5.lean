/- Texts of this claim in one file: libraries and walks. -/
import Derived.Shelf.Strings.Builder1
import Derived.RegionTactic
import Derived.BigRegion
import Derived.Test.YtkolebjpeaigcaaDoorL0
import Derived.Test.YtkolebjpeaigcaaDoorL2
import Derived.Test.YtkolebjpeaigcaaDoorL3
import Derived.Test.YtkolebjpeaigcaaDoorL4
/- Contracts of strings.Builder's copyCheck and WriteByte (the shelf's walks, turned to this dump, whose copyCheck ends otherwise at a copied builder). -/
namespace Go.Proofs.YtkolebjpeaigcaaDoor
set_option linter.unusedVariables false
set_option linter.unusedSimpArgs false
open Go Go.RowKit Go.Shelf

theorem bld_info : (Tryd.prog.info? 74).map (·.size) = some 2 := by kernel_rfl

set_option maxHeartbeats 1000000 in
set_option maxRecDepth 100000 in
theorem bld_check_used (b : Nat) (w : World) (h0 : w.cell? ⟨b, 0, none⟩ = some (.pointer (some ⟨b, 0, none⟩))) :
    Calls Tryd.prog 59 #[.pointer (some ⟨b, 0, none⟩)] w fun e w' => e = .returned (.tuple #[]) ∧ w' = w := by
  obtain ⟨j, hj, _⟩ := Option.map_eq_some_iff.1 bld_info
  go_enter Tryd.func59, Tryd.ntmps59
  go_wp2
  rw [Lib.run_neq_ptr_same w _ Tryd.underlying72 hj]
  go_wp2
  go_end0
  exact ⟨rfl, rfl⟩

set_option maxHeartbeats 1000000 in
set_option maxRecDepth 100000 in
theorem bld_check_fresh (b : Nat) (w : World) (h0 : w.cell? ⟨b, 0, none⟩ = some (.pointer none)) (hsh : w.shape? b = some (74, 2)) (hfz : w.frozen? ⟨b, 0, none⟩ = false) :
    Calls Tryd.prog 59 #[.pointer (some ⟨b, 0, none⟩)] w fun e w' => e = .returned (.tuple #[]) ∧ w' = w.setCell ⟨b, 0, none⟩ (.pointer (some ⟨b, 0, none⟩)) := by
  obtain ⟨j, hj, hjs⟩ := Option.map_eq_some_iff.1 bld_info
  go_enter Tryd.func59, Tryd.ntmps59
  go_wp2
  rw [Lib.run_to_unsafe w ⟨b, 0, none⟩ Tryd.underlying72 Tryd.underlying104 hj (by rw [hjs]; decide) hsh (Nat.zero_lt_succ 1)]
  simp only [Result.andThen]
  rw [Oper.upon_value]
  go_wp2
  rw [run_callFunc_extern Tryd.func64 (by kernel_rfl) (by kernel_rfl) (by kernel_rfl) (e := Extern.AbiNoEscape.same) (by kernel_rfl)]
  rw [Lib.run_noEscape]
  simp only [Result.andThen]
  rw [Oper.upon_value]
  go_wp2
  rw [Lib.run_from_unsafe w ⟨b, 0, none⟩ Tryd.underlying104 Tryd.underlying72 hj hsh (by kernel_rfl)]
  simp only [Result.andThen]
  rw [Oper.upon_value]
  go_wp2
  go_end0
  exact ⟨rfl, rfl⟩

theorem bld_check (B b : Nat) (bs : List Value) (w : World) (h : Lib.IsBuilder 74 5 B b bs w) :
    Calls Tryd.prog 59 #[.pointer (some ⟨b, 0, none⟩)] w fun e w' => e = .returned (.tuple #[]) ∧ (Lib.BuilderAt 74 5 B b (.pointer (some ⟨b, 0, none⟩)) bs w' ∧ Below B w w') := by
  rcases h with h | h
  · refine (bld_check_fresh b w h.cell0 h.shape h.frozen0).mono ?_
    rintro e w' ⟨rfl, rfl⟩
    exact ⟨rfl, h.used _, (Below.refl B w).setCell (p := ⟨b, 0, none⟩) h.1 _⟩
  · refine (bld_check_used b w h.cell0).mono ?_
    rintro e w' ⟨rfl, rfl⟩
    exact ⟨rfl, h, Below.refl B _⟩

set_option maxHeartbeats 2000000 in
set_option maxRecDepth 100000 in
theorem bld_byte (B b : Nat) (bs : List Value) (c : Int) (w : World) (h : Lib.IsBuilder 74 5 B b bs w) (hlen : bs.length + 1 ≤ 140737488355328) (hBw : B ≤ w.heap.size) :
    Calls Tryd.prog 37 #[.pointer (some ⟨b, 0, none⟩), .int .u8 c] w fun e w' => e = .returned .nilIface ∧ (Lib.IsBuilder 74 5 B b (bs ++ [.int .u8 c]) w' ∧ Below B w w') := by
  obtain ⟨i0, hi, hz0, hz1, hz2⟩ := info_parts (show (Tryd.prog.info? 5).map (fun i => (i.zero, i.size, i.bytes)) = some (some (.int .u8 0), 1, 1) by kernel_rfl)
  go_enter Tryd.func37, Tryd.ntmps37
  go_wp2_with (go_at_call 59; refine (bld_check B b bs _ h).mono ?_)
  rintro e w1 ⟨rfl, h1, hb1⟩
  obtain ⟨hB, v, hbk, hown, hne⟩ := h1
  have c0 : w1.cell? ⟨b, 0, none⟩ = some (.pointer (some ⟨b, 0, none⟩)) := by rw [Lib.cell_of_heap hbk]; rfl
  have c1 : w1.cell? ⟨b, 1, none⟩ = some v := by rw [Lib.cell_of_heap hbk]; rfl
  go_wp2_with (at_builtin; refine wpList_append_own _ rfl _ _ 59 rfl B 5 i0 (.int .u8 0) 1 1 Tryd.underlying59 hi hz0 hz1 hz2 rfl (by decide) _ _ _ rfl (hown.alloc _) ⟨w1.heap.size, 0, none⟩ 1 1 [.int .u8 c] rfl rfl ?c1 ?c2 ?c3 ?c4 ?c5 ?_)
  case c1 =>
    intro j u hj
    match j, hj with
    | 0, hj => simp at hj; subst hj; simp [Addr.add]
  case c2 => intro u hu; simp at hu; subst hu; rfl
  case c3 => unfold maxLen; omega
  case c4 => omega
  case c5 => have := hb1.size; simp; omega
  intro v' w2 hown' hgrow _
  have hlt : b < w1.heap.size := by
    rcases Nat.lt_or_ge b w1.heap.size with h' | h'
    · exact h'
    · simp [Array.getElem?_eq_none h'] at hbk
  have hb2 : w2.heap[b]? = some (.cells #[.pointer (some ⟨b, 0, none⟩), v] 74 (0, 0)) := by
    rw [hgrow.block b (by simp; omega) (fun e => hne e.symm), Lib.alloc_old w1 _ b hlt]
    exact hbk
  have d0 : w2.cell? ⟨b, 0, none⟩ = some (.pointer (some ⟨b, 0, none⟩)) := by rw [Lib.cell_of_heap hb2]; rfl
  have d1 : w2.cell? ⟨b, 1, none⟩ = some v := by rw [Lib.cell_of_heap hb2]; rfl
  have f1 : w2.frozen? ⟨b, 1, none⟩ = false := Lib.frozen_of_heap hb2 1
  obtain ⟨g, cap, rfl⟩ : ∃ g cap, v' = .slice (some ⟨g, 0, none⟩) (bs.length + 1) cap := by
    rcases hown'.2 with ⟨_, h0⟩ | ⟨g, cap, cur, hv, _⟩
    · omega
    · exact ⟨g, cap, hv⟩
  go_wp2
  go_ret
  refine ⟨rfl, .inr ?_, ?_⟩
  · exact Lib.BuilderAt.put (T := 74) (e := 5) hB hb2 (bs' := bs ++ [.int .u8 c]) (by simpa using hown') (by decide)
  · exact ((hb1.alloc (by have := hb1.size; omega) _).grown hgrow (by have := hb1.size; simp; omega) (fun k hk => (hown.lt k hk).1)).setCell (p := ⟨b, 1, none⟩) hB _

/-- What lies in other blocks, of another type than bytes, is kept. -/
def KeptBut (b : Nat) (w w' : World) : Prop := ∀ (g : Nat) (o : Array Value) (t : TypeId), w.heap[g]? = some (.cells o t (0, 0)) → g ≠ b → t ≠ 5 → w'.heap[g]? = some (.cells o t (0, 0))
theorem bld_check2 (B b : Nat) (bs : List Value) (w : World) (h : Lib.IsBuilder 74 5 B b bs w) :
    Calls Tryd.prog 59 #[.pointer (some ⟨b, 0, none⟩)] w fun e w' => e = .returned (.tuple #[]) ∧ (Lib.BuilderAt 74 5 B b (.pointer (some ⟨b, 0, none⟩)) bs w' ∧ Below B w w' ∧ KeptBut b w w') := by
  rcases h with h | h
  · refine (bld_check_fresh b w h.cell0 h.shape h.frozen0).mono ?_
    rintro e w' ⟨rfl, rfl⟩
    exact ⟨rfl, h.used _, (Below.refl B w).setCell (p := ⟨b, 0, none⟩) h.1 _, fun g o t hg hb _ => by rw [Deep.blk_setCell_other _ _ _ _ hb]; exact hg⟩
  · refine (bld_check_used b w h.cell0).mono ?_
    rintro e w' ⟨rfl, rfl⟩
    exact ⟨rfl, h, Below.refl B _, fun g o t hg _ _ => hg⟩

set_option maxHeartbeats 2000000 in
set_option maxRecDepth 100000 in
theorem bld_byte2 (B b : Nat) (bs : List Value) (c : Int) (w : World) (h : Lib.IsBuilder 74 5 B b bs w) (hlen : bs.length + 1 ≤ 140737488355328) (hBw : B ≤ w.heap.size) :
    Calls Tryd.prog 37 #[.pointer (some ⟨b, 0, none⟩), .int .u8 c] w fun e w' => e = .returned .nilIface ∧ (Lib.IsBuilder 74 5 B b (bs ++ [.int .u8 c]) w' ∧ Below B w w' ∧ KeptBut b w w') := by
  obtain ⟨i0, hi, hz0, hz1, hz2⟩ := info_parts (show (Tryd.prog.info? 5).map (fun i => (i.zero, i.size, i.bytes)) = some (some (.int .u8 0), 1, 1) by kernel_rfl)
  go_enter Tryd.func37, Tryd.ntmps37
  go_wp2_with (go_at_call 59; refine (bld_check2 B b bs _ h).mono ?_)
  rintro e w1 ⟨rfl, h1, hb1, hk1⟩
  obtain ⟨hB, v, hbk, hown, hne⟩ := h1
  have c0 : w1.cell? ⟨b, 0, none⟩ = some (.pointer (some ⟨b, 0, none⟩)) := by rw [Lib.cell_of_heap hbk]; rfl
  have c1 : w1.cell? ⟨b, 1, none⟩ = some v := by rw [Lib.cell_of_heap hbk]; rfl
  go_wp2_with (at_builtin; refine wpList_append_own _ rfl _ _ 59 rfl B 5 i0 (.int .u8 0) 1 1 Tryd.underlying59 hi hz0 hz1 hz2 rfl (by decide) _ _ _ rfl (hown.alloc _) ⟨w1.heap.size, 0, none⟩ 1 1 [.int .u8 c] rfl rfl ?c1 ?c2 ?c3 ?c4 ?c5 ?_)
  case c1 =>
    intro j u hj
    match j, hj with
    | 0, hj => simp at hj; subst hj; simp [Addr.add]
  case c2 => intro u hu; simp at hu; subst hu; rfl
  case c3 => unfold maxLen; omega
  case c4 => omega
  case c5 => have := hb1.size; simp; omega
  intro v' w2 hown' hgrow _
  have hlt : b < w1.heap.size := by
    rcases Nat.lt_or_ge b w1.heap.size with h' | h'
    · exact h'
    · simp [Array.getElem?_eq_none h'] at hbk
  have hb2 : w2.heap[b]? = some (.cells #[.pointer (some ⟨b, 0, none⟩), v] 74 (0, 0)) := by
    rw [hgrow.block b (by simp; omega) (fun e => hne e.symm), Lib.alloc_old w1 _ b hlt]
    exact hbk
  have d0 : w2.cell? ⟨b, 0, none⟩ = some (.pointer (some ⟨b, 0, none⟩)) := by rw [Lib.cell_of_heap hb2]; rfl
  have d1 : w2.cell? ⟨b, 1, none⟩ = some v := by rw [Lib.cell_of_heap hb2]; rfl
  have f1 : w2.frozen? ⟨b, 1, none⟩ = false := Lib.frozen_of_heap hb2 1
  obtain ⟨g, cap, rfl⟩ : ∃ g cap, v' = .slice (some ⟨g, 0, none⟩) (bs.length + 1) cap := by
    rcases hown'.2 with ⟨_, h0⟩ | ⟨g, cap, cur, hv, _⟩
    · omega
    · exact ⟨g, cap, hv⟩
  go_wp2
  go_ret
  refine ⟨rfl, .inr ?_, ?_, fun q o t hq hqb hqt => ?_⟩
  rotate_left 2
  · have h1 := hk1 q o t hq hqb hqt
    have hlt : q < w1.heap.size := by
      rcases Nat.lt_or_ge q w1.heap.size with h' | h'
      · exact h'
      · rw [Array.getElem?_eq_none h'] at h1; cases h1
    have hno : some q ≠ v.ownBlock := fun e => by
      obtain ⟨_, ho⟩ := hown
      rcases ho with ⟨hv, _⟩ | ⟨g', cap', cur', hv, _, hg', _⟩
      · rw [hv] at e; cases e
      · rw [hv] at e
        obtain rfl : q = g' := Option.some.inj e
        rw [h1] at hg'
        simp at hg'
        exact hqt hg'.2
    rw [Deep.blk_setCell_other _ _ _ _ hqb, hgrow.block q (by simp; omega) hno, Lib.alloc_old w1 _ q hlt]
    exact h1
  · exact Lib.BuilderAt.put (T := 74) (e := 5) hB hb2 (bs' := bs ++ [.int .u8 c]) (by simpa using hown') (by decide)
  · exact ((hb1.alloc (by have := hb1.size; omega) _).grown hgrow (by have := hb1.size; simp; omega) (fun k hk => (hown.lt k hk).1)).setCell (p := ⟨b, 1, none⟩) hB _

set_option maxHeartbeats 2000000 in
set_option maxRecDepth 100000 in
theorem bld_string (B b : Nat) (bs : List Value) (s : ByteArray) (w : World) (h : Lib.IsBuilder 74 5 B b bs w) (hlen : bs.length + s.size ≤ 140737488355328) (hBw : B ≤ w.heap.size) :
    Calls Tryd.prog 38 #[.pointer (some ⟨b, 0, none⟩), .string s] w fun e w' => e = .returned (.tuple #[.int .i64 s.size, .nilIface]) ∧ (Lib.IsBuilder 74 5 B b (bs ++ Lib.strCells s) w' ∧ Below B w w') := by
  obtain ⟨i0, hi, hz0, hz1, hz2⟩ := info_parts (show (Tryd.prog.info? 5).map (fun i => (i.zero, i.size, i.bytes)) = some (some (.int .u8 0), 1, 1) by kernel_rfl)
  go_enter Tryd.func38, Tryd.ntmps38
  go_wp2_with (go_at_call 59; refine (bld_check B b bs _ h).mono ?_)
  rintro e w1 ⟨rfl, h1, hb1⟩
  obtain ⟨hB, v, hbk, hown, hne⟩ := h1
  have c0 : w1.cell? ⟨b, 0, none⟩ = some (.pointer (some ⟨b, 0, none⟩)) := by rw [Lib.cell_of_heap hbk]; rfl
  have c1 : w1.cell? ⟨b, 1, none⟩ = some v := by rw [Lib.cell_of_heap hbk]; rfl
  go_wp2_with (at_builtin; refine Lib.wpList_append_own_string _ rfl _ _ 59 9 rfl B 5 i0 Tryd.underlying59 Tryd.underlying9 hi hz0 hz1 hz2 _ _ _ rfl hown s rfl ?c3 ?c4 ?c5 ?_)
  case c3 => unfold maxLen; omega
  case c4 => omega
  case c5 => have := hb1.size; omega
  intro v' w2 hown' hgrow _
  have hlt : b < w1.heap.size := by
    rcases Nat.lt_or_ge b w1.heap.size with h' | h'
    · exact h'
    · simp [Array.getElem?_eq_none h'] at hbk
  have hb2 : w2.heap[b]? = some (.cells #[.pointer (some ⟨b, 0, none⟩), v] 74 (0, 0)) := by
    rw [hgrow.block b hlt (fun e => hne e.symm)]
    exact hbk
  have d0 : w2.cell? ⟨b, 0, none⟩ = some (.pointer (some ⟨b, 0, none⟩)) := by rw [Lib.cell_of_heap hb2]; rfl
  have d1 : w2.cell? ⟨b, 1, none⟩ = some v := by rw [Lib.cell_of_heap hb2]; rfl
  have f1 : w2.frozen? ⟨b, 1, none⟩ = false := Lib.frozen_of_heap hb2 1
  obtain ⟨ao, n', cap, rfl⟩ : ∃ ao n' cap, v' = .slice ao n' cap := by
    rcases hown'.2 with ⟨hv, _⟩ | ⟨g, cap, cur, hv, _⟩
    · exact ⟨_, _, _, hv⟩
    · exact ⟨_, _, _, hv⟩
  go_wp2
  go_ret2
  refine ⟨rfl, .inr ?_, ?_⟩
  · exact Lib.BuilderAt.put (T := 74) (e := 5) hB hb2 (bs' := bs ++ Lib.strCells s) (by simpa [Lib.strCells_length] using hown') (by decide)
  · exact (hb1.grown hgrow (by have := hb1.size; omega) (fun k hk => (hown.lt k hk).1)).setCell (p := ⟨b, 1, none⟩) hB _
theorem bld_lt {B b : Nat} {bs : List Value} {w : World} (h : Lib.IsBuilder 74 5 B b bs w) : b < w.heap.size := by
  rcases h with h | h <;> exact h.lt
end Go.Proofs.YtkolebjpeaigcaaDoor
/- Contract of charts.Text. -/
namespace Go.Proofs.YtkolebjpeaigcaaDoor
set_option linter.unusedVariables false
set_option linter.unusedSimpArgs false
set_option maxRecDepth 8000
open Go Go.RowKit

/-- The bytes of the first k stitches of a row. -/
def rowT (r : List St) : Nat → List Int
  | 0 => []
  | k + 1 => rowT r k ++ (if k = 0 then [] else [32]) ++ (si r k).tx
/-- The bytes of the last k rows, the last one first. -/
def chT (rows : List (List St)) : Nat → List Int
  | 0 => []
  | k + 1 => chT rows k ++ rowT (sw rows (rows.length - 1 - k)) (sw rows (rows.length - 1 - k)).length ++ [10]
/-- The bytes of a chart's text. -/
def ctx (rows : List (List St)) : List Int := if (cloads rows).1 ≠ 0 then [] else chT rows rows.length

def Byt (xs : List Int) : Prop := ∀ x ∈ xs, 0 ≤ x ∧ x ≤ 255
theorem Byt.app {xs ys : List Int} (h : Byt xs) (k : Byt ys) : Byt (xs ++ ys) := fun x hx => by
  rcases List.mem_append.1 hx with hx | hx
  · exact h x hx
  · exact k x hx
theorem byt_one {x : Int} (h : 0 ≤ x ∧ x ≤ 255) : Byt [x] := fun y hy => by rw [List.mem_singleton.1 hy]; exact h
theorem byt_nil : Byt [] := fun x hx => by cases hx
theorem byt_tx (s : St) : Byt s.tx := by
  unfold St.tx
  split
  · exact byt_nil
  · rename_i h
    obtain ⟨k1, k2, k3⟩ := St.chk_ok (s := s) (by simpa using h)
    refine Byt.app (Byt.app (byt_one ?_) ?_) ?_
    · obtain ⟨j, hj⟩ : ∃ j : Nat, (s.k - 1).toNat = j := ⟨_, rfl⟩
      have hj8 : j < 8 := by omega
      rw [hj]
      have : ∀ j, j < 8 → 0 ≤ gi symT j ∧ gi symT j ≤ 255 := by decide
      exact this j hj8
    · split
      · intro x hx
        simp only [List.mem_cons, List.not_mem_nil, or_false] at hx
        rcases hx with rfl | rfl | rfl
        · omega
        · omega
        · split <;> omega
      · exact byt_nil
    · split
      · exact byt_nil
      · exact byt_one (by omega)
theorem byt_row (r : List St) : ∀ k, Byt (rowT r k)
  | 0 => byt_nil
  | k + 1 => by
    unfold rowT
    refine ((byt_row r k).app ?_).app (byt_tx _)
    split
    · exact byt_nil
    · exact byt_one (by omega)
theorem byt_ch (rows : List (List St)) : ∀ k, Byt (chT rows k)
  | 0 => byt_nil
  | k + 1 => ((byt_ch rows k).app (byt_row _ _)).app (byt_one (by omega))
theorem rowT_len (r : List St) : ∀ k, (rowT r k).length ≤ 6 * k
  | 0 => by simp [rowT]
  | k + 1 => by
    have h1 := rowT_len r k
    have h2 := tx_len (si r k)
    unfold rowT
    simp only [List.length_append]
    split <;> simp <;> omega
theorem chT_len {rows : List (List St)} (h : ∀ i, i < rows.length → (sw rows i).length ≤ 16) : ∀ k, k ≤ rows.length → (chT rows k).length ≤ 97 * k
  | 0, _ => by simp [chT]
  | k + 1, hk => by
    have h1 := chT_len h k (by omega)
    have h2 := h (rows.length - 1 - k) (by omega)
    have h3 := rowT_len (sw rows (rows.length - 1 - k)) (sw rows (rows.length - 1 - k)).length
    unfold chT
    simp only [List.length_append, List.length_singleton]
    omega
theorem strCells_bstr {xs : List Int} (h : Byt xs) : Lib.strCells (bstr xs) = xs.map (Value.int .u8) := by
  rw [Lib.strCells_eq, bstr_data]
  unfold Lib.byteCells
  rw [List.map_map]
  refine List.map_congr_left fun x hx => ?_
  have := h x hx
  show Value.int .u8 ((UInt8.ofNat x.toNat).toNat : Int) = _
  rw [UInt8.toNat_ofNat']
  congr 1
  omega
theorem bld_ext {T e : TypeId} {B b : Nat} {bs : List Value} {w w' : World} (h : Lib.IsBuilder T e B b bs w) (x : Ext w w') : Lib.IsBuilder T e B b bs w' := by
  rcases h with ⟨hB, v, hb, hown, hne⟩ | ⟨hB, v, hb, hown, hne⟩
  · exact .inl ⟨hB, v, x.block hb, own_ext hown x, hne⟩
  · exact .inr ⟨hB, v, x.block hb, own_ext hown x, hne⟩
theorem bstr_back (xs : List Int) : (⟨(bstr xs).data.toList.toArray⟩ : ByteArray) = bstr xs := by apply bytes_eq; simp

set_option maxHeartbeats 4000000 in
theorem CText_calls (v : Value) (c : Nat) (rows : List (List St)) (w : World) (h : RR w v c rows) (hy : Sy w) :
    Calls Tryd.prog 15 #[.agg #[v]] w fun e w' => e = .returned (.string (bstr (ctx rows))) ∧ Ext w w' := by
  obtain ⟨ao, n, rfl, hn, hnc, hcm, hat⟩ := h.open
  unfold maxLen at hcm
  have hck := fun w' (x : Ext w w') => CCheck_calls _ c rows w' (h.ext x)
  have HCk := Lib.hid hck; have HA := Lib.hid hat; have HY := Lib.hid hy
  clear hck hat h hy
  have hbox := fun (w' : World) (x : Ext (w.alloc (.cells #[.slice ao n c] 27)) w') => x.cell (show (w.alloc (.cells #[.slice ao n c] 27)).cell? ⟨w.heap.size, 0, none⟩ = some (.slice ao n c) by rw [World.cell?_alloc_at (hn := rfl)]; rfl)
  have HBx := Lib.hid hbox
  clear hbox
  by_cases he : (cloads rows).1 = 0
  · have hce : cerr rows = 0 := by
      by_cases e : cerr rows = 0
      · exact e
      · unfold cloads at he; rw [if_pos e] at he; exact absurd he e
    obtain ⟨r1, r2, r3, _⟩ := cerr_zero hce
    have hlen16 : ∀ i, i < rows.length → (sw rows i).length ≤ 16 := fun i hi => (rchk_zero (r3 i hi)).1
    have hcl := chT_len hlen16
    have hres : ctx rows = chT rows n := by unfold ctx; rw [if_neg (by omega), hn]
    rw [← hn] at r1 r2 hcl hlen16
    have hstep : ∀ k, k < n → chT rows (k + 1) = chT rows k ++ rowT (sw rows (n - 1 - k)) (sw rows (n - 1 - k)).length ++ [10] := fun k hk => by rw [hn]; rfl
    replace HCk := Lib.hid (show ∀ w', Ext w w' → Calls Tryd.prog 10 #[.agg #[.slice ao n c]] w' fun e w'' => e = .returned (.int .i64 0) ∧ Ext w' w'' from fun w' x => by have := HCk.out w' x; rw [he] at this; exact this)
    have HCl := Lib.hid hcl; have HRes := Lib.hid hres; have HSt := Lib.hid hstep; have H16 := Lib.hid hlen16
    clear hcl hres hstep hlen16 he hce r3 hn
    go_enter Tryd.func15, Tryd.ntmps15
    go_wp2_with fail
    refine (HCk.out _ ((Ext.refl w).alloc _)).mono ?_
    rintro e w1 ⟨rfl, x1⟩
    have X1 := Lib.hid x1
    have b0 := HBx.out _ x1
    have hsz : w.heap.size < w1.heap.size := by have := x1.size; simp at this; omega
    clear x1 HCk
    go_wp2
    obtain ⟨BX, hBX⟩ : ∃ BX, BX = w1.heap.size := ⟨_, rfl⟩
    go_loopw [4, 5, 6, 13] (fun _ _ _ i wr => ∃ k : Nat, k ≤ n ∧ i = .int .i64 k ∧ Hid (Lib.IsBuilder 74 5 w1.heap.size w1.heap.size ((chT rows k).map (Value.int .u8)) wr) ∧ Hid (Ext w1 wr)) (fun _ _ _ i _ => n - (intOf i).toNat)
    case atStart => exact ⟨0, Nat.zero_le _, rfl, Lib.hid (Lib.fresh_isBuilder _ _ _), Lib.hid ((Ext.refl w1).alloc _)⟩
    case round =>
      obtain ⟨k, hk, rfl, HBd, HX⟩ := hrel
      clear hBX
      by_cases hlt : k < n
      · obtain ⟨b, o, a, m, d, rfl, hcl, hrs⟩ := HA.out (n - 1 - k) (by omega)
        have XO := Lib.hid (((Ext.refl w).alloc (.cells #[.slice (some ⟨b, o, Option.none⟩) n c] 27)).trans (X1.out.trans HX.out))
        replace hcl := XO.out.cell hcl
        have b1 := HBx.out _ (X1.out.trans HX.out)
        obtain ⟨ao', m', hv, hm, hmc, hmm, hst⟩ := hrs.open
        simp only [Value.slice.injEq] at hv
        obtain ⟨rfl, rfl, _⟩ := hv
        have hm16 : m ≤ 16 := by rw [hm]; exact H16.out _ (by omega)
        have hstp := HSt.out k hlt
        have hcln := HCl.out k hk
        obtain ⟨r, hr⟩ : ∃ r, r = sw rows (n - 1 - k) := ⟨_, rfl⟩
        rw [← hr] at hst hstp hm
        obtain ⟨T, hT⟩ : ∃ T, T = chT rows k := ⟨_, rfl⟩
        rw [← hT] at HBd hcln hstp
        rw [← hm] at hstp
        have hBT : Byt T := by rw [hT]; exact byt_ch _ _
        obtain ⟨ix, hix⟩ : ∃ ix : Nat, ix = n - 1 - k := ⟨_, rfl⟩
        rw [← hix] at hcl
        have HSt' := Lib.hid hst; have HStp := Lib.hid hstp; have Hm := Lib.hid hm; have HBT := Lib.hid hBT
        have t1 : (n : Int) - 1 - (k : Int) = (ix : Int) := by omega
        have t2 : ix < n := by omega
        have t3 : (ix : Int) < n := by omega
        clear hst hstp hm hBT hr hT hix hmm hmc hrs
        obtain ⟨wo, rfl⟩ : ∃ wo : World, wo = wr := ⟨_, rfl⟩
        have Xw := HX
        go_wp2
        clear t1 hcl b1
        go_loopw [5, 6, 27] (fun _ _ i wr => ∃ j : Nat, j ≤ m ∧ i = .int .i64 j ∧ Hid (Lib.IsBuilder 74 5 w1.heap.size w1.heap.size ((T ++ rowT r j).map (Value.int .u8)) wr) ∧ Hid (Ext w1 wr)) (fun _ _ i _ => m - (intOf i).toNat)
        case atStart => exact ⟨0, Nat.zero_le _, rfl, by rw [show T ++ rowT r 0 = T by simp [rowT]]; exact HBd, HX⟩
        case round =>
          obtain ⟨j, hj, rfl, HB2, HX2⟩ := hrel
          have hrl := rowT_len r j
          have hrl1 := rowT_len r (j + 1)
          by_cases hjm : j < m
          · obtain ⟨b2, o2, rfl, h5⟩ := HSt'.out j hjm
            have XX := Lib.hid (((Ext.refl w).alloc (.cells #[.slice (some ⟨b, o, Option.none⟩) n c] 27)).trans (X1.out.trans HX2.out))
            obtain ⟨c0, c1, c2, c3, c4⟩ := h5.ext XX.out
            have hrow : rowT r (j + 1) = rowT r j ++ (if j = 0 then [] else [32]) ++ (si r j).tx := rfl
            have htl := tx_len (si r j)
            have hbt := byt_tx (si r j)
            have hcall := fun w' (x : Ext wr w') => SText_calls (si r j) w' (HY.out.ext (XX.out.trans x))
            obtain ⟨s, hs⟩ : ∃ s, s = si r j := ⟨_, rfl⟩
            rw [← hs] at c0 c1 c2 c3 c4 hrow htl hbt hcall
            have HRow := Lib.hid hrow; have HBt := Lib.hid hbt; have HCa := Lib.hid hcall
            have hb5 := B5.new wr s 33
            have HB5 := Lib.hid hb5
            clear hrow hbt hcall hs h5 hb5
            unfold St.val at HCa
            have HB3 := Lib.hid (bld_ext HB2.out ((Ext.refl wr).alloc (.cells #[.int .u8 s.k, .int .u8 s.y, .int .i64 s.a, .int .i64 s.b, .bool s.f] 33)))
            have hsz : w1.heap.size < wr.heap.size := bld_lt HB2.out
            by_cases j0 : j = 0
            · subst j0
              simp only [Nat.zero_mul, Nat.add_zero] at c0 c1 c2 c3 c4
              have HRow0 := Lib.hid (show T ++ rowT r 1 = T ++ rowT r 0 ++ s.tx by rw [HRow.out, if_pos rfl]; simp)
              go_wp2_with fail
              refine (HCa.out _ ((Ext.refl _).alloc _)).mono ?_
              rintro e w4 ⟨rfl, x4⟩
              have HB4 := Lib.hid (bld_ext HB3.out x4)
              have X4 := Lib.hid (HX2.out.trans (((Ext.refl _).alloc _).trans x4))
              clear x4 c0 c1 c2 c3 c4 HB3 HB5
              go_wp2_with fail
              refine (bld_string w1.heap.size w1.heap.size _ (bstr s.tx) _ HB4.out (by rw [bstr_size, List.length_map, List.length_append]; omega) X4.out.size).mono ?_
              rintro e w5 ⟨rfl, hb, hx⟩
              rw [strCells_bstr HBt.out, ← List.map_append, ← HRow0.out] at hb
              have HBn := Lib.hid hb; have HXn := Lib.hid (show Ext w1 w5 from Below.trans X4.out hx)
              clear hb hx
              go_wp2
              go_roundw
              case rel => exact ⟨1, by omega, by go_num, HBn, HXn⟩
              case measure => simp [intOf]; omega
            · have j0' : (0 : Int) < (j : Int) := by omega
              have HRow0 := Lib.hid (show T ++ rowT r (j + 1) = T ++ rowT r j ++ [32] ++ s.tx by rw [HRow.out, if_neg j0]; simp)
              clear j0
              go_wp2_with fail
              refine (bld_byte2 w1.heap.size w1.heap.size _ 32 _ HB3.out (by rw [List.length_map, List.length_append]; omega) (by simp; omega)).mono ?_
              rintro e w3 ⟨rfl, hb, hx, hkb⟩
              have hbs := hkb _ _ _ HB5.out (by omega) (by decide)
              obtain ⟨q0, q1, q2, q3, q4⟩ := B5.at (s := s) hbs
              simp only [Nat.zero_add] at q1 q2 q3 q4
              have X3' := Lib.hid (show Ext w1 w3 from Below.trans (HX2.out.alloc _) hx)
              have HB6 := Lib.hid hb
              have hsy := HY.out.ext (((Ext.refl w).alloc (.cells #[.slice (some ⟨b, o, Option.none⟩) n c] 27)).trans (X1.out.trans X3'.out))
              have hst := SText_calls s w3 hsy
              unfold St.val at hst
              have HST := Lib.hid hst
              clear hb hx hkb hbs hsy hst c0 c1 c2 c3 c4 HB3 HB5 HCa
              go_wp2_with fail
              refine HST.out.mono ?_
              rintro e w4 ⟨rfl, x4⟩
              have HB4 := Lib.hid (bld_ext HB6.out x4)
              have X4 := Lib.hid (X3'.out.trans x4)
              clear x4 HB6 q0 q1 q2 q3 q4
              go_wp2_with fail
              refine (bld_string w1.heap.size w1.heap.size _ (bstr s.tx) _ HB4.out (by rw [bstr_size]; simp; omega) X4.out.size).mono ?_
              rintro e w5 ⟨rfl, hb, hx⟩
              have hb2 : Lib.IsBuilder 74 5 w1.heap.size w1.heap.size ((T ++ rowT r (j + 1)).map (Value.int .u8)) w5 := by
                rw [HRow0.out, List.map_append, ← strCells_bstr HBt.out, List.map_append]
                exact hb
              have HBn := Lib.hid hb2; have HXn := Lib.hid (show Ext w1 w5 from Below.trans X4.out hx)
              clear hb hb2 hx
              go_wp2
              go_roundw
              case rel => exact ⟨j + 1, by omega, by go_num, HBn, HXn⟩
              case measure => simp [intOf]; omega
          · obtain rfl : m = j := by omega
            clear hjm hj
            go_wp2_with fail
            refine (bld_byte w1.heap.size w1.heap.size _ 10 _ HB2.out (by rw [List.length_map, List.length_append]; omega) HX2.out.size).mono ?_
            rintro e w3 ⟨rfl, hb, hx⟩
            have hb2 : Lib.IsBuilder 74 5 w1.heap.size w1.heap.size ((chT rows (k + 1)).map (Value.int .u8)) w3 := by
              rw [HStp.out, List.map_append]; exact hb
            have HBn := Lib.hid hb2; have HXn := Lib.hid (show Ext w1 w3 from Below.trans HX2.out hx)
            clear hb hb2 hx
            go_wp2
            go_roundw
            case rel => exact ⟨k + 1, by omega, by go_num, HBn, HXn⟩
            case measure => simp [intOf]; omega
      · obtain rfl : n = k := by omega
        have hby : Lib.byteCells (bstr (chT rows n)).data.toList = (chT rows n).map (Value.int .u8) := by rw [← strCells_bstr (byt_ch rows n)]; rfl
        have hS := Tryd.Builder_String_any w1.heap.size w1.heap.size (bstr (chT rows n)).data.toList wr (by rw [hby]; exact HBd.out) HX.out.size
        rw [bstr_back] at hS
        have HS := Lib.hid hS
        clear hS hby hlt hk
        go_wp2_with fail
        refine HS.out.mono ?_
        rintro e w3 ⟨rfl, hx⟩
        have XF := Lib.hid (((Ext.refl w).alloc (.cells #[.slice ao n c] 27)).trans (X1.out.trans (show Ext w1 w3 from Below.trans HX.out hx)))
        clear hx
        go_wp2
        go_ret
        exact ⟨ret_str (congrArg bstr HRes.out.symm), XF.out⟩
  · have hr := Lib.hid (show ctx rows = [] by unfold ctx; rw [if_pos he])
    have hq : ((cloads rows).1 != 0) = true := by rw [bne, beq_eq_false_iff_ne.2 he]; rfl
    generalize (cloads rows).1 = q at HCk hq
    clear he hn HA HBx
    go_enter Tryd.func15, Tryd.ntmps15
    go_wp2_with fail
    refine (HCk.out _ ((Ext.refl w).alloc _)).mono ?_
    rintro e w1 ⟨rfl, x1⟩
    have X1 := Lib.hid (((Ext.refl w).alloc _).trans x1)
    clear x1
    go_wp2
    go_ret
    exact ⟨ret_str (congrArg bstr hr.out.symm), X1.out⟩
end Go.Proofs.YtkolebjpeaigcaaDoor
/- More for walks: blocks of two cells (a struct of two fields that lies in memory). -/
namespace Go.Proofs.YtkolebjpeaigcaaDoor
set_option linter.unusedVariables false
set_option linter.unusedSimpArgs false
open Go Go.RowKit

/-- Block b holds a struct of two fields. -/
def B2 (w : World) (b : Nat) (x y : Value) (t : TypeId) : Prop := w.heap[b]? = some (.cells #[x, y] t (0, 0))
theorem B2.c0 {w : World} {b : Nat} {x y : Value} {t : TypeId} (h : B2 w b x y t) : w.cell? ⟨b, 0, none⟩ = some x := by unfold B2 at h; simp [World.cell?, h]
theorem B2.c1 {w : World} {b : Nat} {x y : Value} {t : TypeId} (h : B2 w b x y t) : w.cell? ⟨b, 1, none⟩ = some y := by unfold B2 at h; simp [World.cell?, h]
theorem B2.f0 {w : World} {b : Nat} {x y : Value} {t : TypeId} (h : B2 w b x y t) : w.frozen? ⟨b, 0, none⟩ = false := by unfold B2 at h; simp [World.frozen?, h]
theorem B2.f1 {w : World} {b : Nat} {x y : Value} {t : TypeId} (h : B2 w b x y t) : w.frozen? ⟨b, 1, none⟩ = false := by unfold B2 at h; simp [World.frozen?, h]
theorem B2.ext {w w' : World} {b : Nat} {x y : Value} {t : TypeId} (h : B2 w b x y t) (e : Ext w w') : B2 w' b x y t := Ext.block e h
theorem B2.new (w : World) (x y : Value) (t : TypeId) : B2 (w.alloc (.cells #[x, y] t)) w.heap.size x y t := Deep.blk_alloc_new _ _
theorem B2.lt {w : World} {b : Nat} {x y : Value} {t : TypeId} (h : B2 w b x y t) : b < w.heap.size := World.block_lt_of_cell? w _ h.c0
theorem B2.alloc {w : World} {b : Nat} {x y : Value} {t : TypeId} (h : B2 w b x y t) (o : Obj) : B2 (w.alloc o) b x y t := h.ext ((Ext.refl w).alloc o)
theorem B2.set0 {w : World} {b : Nat} {x y u : Value} {t : TypeId} (h : B2 w b x y t) : B2 (w.setCell ⟨b, 0, none⟩ u) b u y t := by
  unfold B2 at *
  have hlt := lt_of_block h
  have h' : w.heap[b] = .cells #[x, y] t (0, 0) := by simpa [Array.getElem?_eq_getElem hlt] using h
  show (w.heap.modify b _)[b]? = _
  rw [Array.getElem?_eq_getElem (by simpa using hlt), Array.getElem_modify_self, h']
  rfl
theorem B2.set1 {w : World} {b : Nat} {x y u : Value} {t : TypeId} (h : B2 w b x y t) : B2 (w.setCell ⟨b, 1, none⟩ u) b x u t := by
  unfold B2 at *
  have hlt := lt_of_block h
  have h' : w.heap[b] = .cells #[x, y] t (0, 0) := by simpa [Array.getElem?_eq_getElem hlt] using h
  show (w.heap.modify b _)[b]? = _
  rw [Array.getElem?_eq_getElem (by simpa using hlt), Array.getElem_modify_self, h']
  rfl
theorem B2.set2 {w : World} {b : Nat} {x y : Value} {t : TypeId} (h : B2 w b x y t) (u v : Value) : B2 ((w.setCell ⟨b, 0, none⟩ u).setCell ⟨b, 1, none⟩ v) b u v t := h.set0.set1
theorem B2.setOther {w : World} {b : Nat} {x y u : Value} {t : TypeId} {a : Addr} (h : B2 w b x y t) (hn : b ≠ a.block) : B2 (w.setCell a u) b x y t := by
  unfold B2 at *
  rw [Deep.blk_setCell_other _ _ _ _ hn]; exact h
theorem B2.setOther2 {w : World} {b : Nat} {x y : Value} {t : TypeId} (h : B2 w b x y t) (c : Nat) (hn : b ≠ c) (u v : Value) : B2 ((w.setCell ⟨c, 0, none⟩ u).setCell ⟨c, 1, none⟩ v) b x y t := (h.setOther hn).setOther hn
theorem Ext.set2 {w w' : World} (h : Ext w w') (c : Nat) (hc : w.heap.size ≤ c) (u v : Value) : Ext w ((w'.setCell ⟨c, 0, none⟩ u).setCell ⟨c, 1, none⟩ v) := (h.setCell hc _).setCell hc _

/-- Strings: equal or not, in the walk's words. -/
theorem str_eq {a b : ByteArray} (h : a = b) : (a.toList == b.toList) = true := by rw [h]; simp
theorem str_ne {a b : ByteArray} (h : a ≠ b) : (a.toList == b.toList) = false := by
  rw [beq_eq_false_iff_ne]
  intro e
  rw [ByteArray.toList_eq, ByteArray.toList_eq] at e
  exact h (ByteArray.ext (Array.toList_inj.1 e))
theorem str_nonempty {a : ByteArray} (h : 0 < a.size) : a.toList.isEmpty = false := by
  rw [ByteArray.toList_eq, List.isEmpty_eq_false_iff]
  intro e
  have : a.data.toList.length = 0 := by rw [e]; rfl
  rw [Array.length_toList] at this
  have h2 : a.data.size = a.size := rfl
  omega
end Go.Proofs.YtkolebjpeaigcaaDoor
/- stitches.Parse. -/
namespace Go.Proofs.YtkolebjpeaigcaaDoor
set_option linter.unusedVariables false
set_option linter.unusedSimpArgs false
set_option maxRecDepth 8000
open Go Go.RowKit

theorem B5.set0 {w : World} {b : Nat} {s : St} {t : TypeId} (h : B5 w b s t) (k : Int) : B5 (w.setCell ⟨b, 0, none⟩ (.int .u8 k)) b { s with k := k } t := by
  unfold B5 at *
  have hlt := lt_of_block h
  have h' : w.heap[b] = .cells #[.int .u8 s.k, .int .u8 s.y, .int .i64 s.a, .int .i64 s.b, .bool s.f] t (0, 0) := by simpa [Array.getElem?_eq_getElem hlt] using h
  show (w.heap.modify b _)[b]? = _
  rw [Array.getElem?_eq_getElem (by simpa using hlt), Array.getElem_modify_self, h']
  rfl
theorem B5.set1 {w : World} {b : Nat} {s : St} {t : TypeId} (h : B5 w b s t) (y : Int) : B5 (w.setCell ⟨b, 1, none⟩ (.int .u8 y)) b { s with y := y } t := by
  unfold B5 at *
  have hlt := lt_of_block h
  have h' : w.heap[b] = .cells #[.int .u8 s.k, .int .u8 s.y, .int .i64 s.a, .int .i64 s.b, .bool s.f] t (0, 0) := by simpa [Array.getElem?_eq_getElem hlt] using h
  show (w.heap.modify b _)[b]? = _
  rw [Array.getElem?_eq_getElem (by simpa using hlt), Array.getElem_modify_self, h']
  rfl
theorem B5.set2 {w : World} {b : Nat} {s : St} {t : TypeId} (h : B5 w b s t) (y : Int) : B5 (w.setCell ⟨b, 2, none⟩ (.int .i64 y)) b { s with a := y } t := by
  unfold B5 at *
  have hlt := lt_of_block h
  have h' : w.heap[b] = .cells #[.int .u8 s.k, .int .u8 s.y, .int .i64 s.a, .int .i64 s.b, .bool s.f] t (0, 0) := by simpa [Array.getElem?_eq_getElem hlt] using h
  show (w.heap.modify b _)[b]? = _
  rw [Array.getElem?_eq_getElem (by simpa using hlt), Array.getElem_modify_self, h']
  rfl
theorem B5.set3 {w : World} {b : Nat} {s : St} {t : TypeId} (h : B5 w b s t) (y : Int) : B5 (w.setCell ⟨b, 3, none⟩ (.int .i64 y)) b { s with b := y } t := by
  unfold B5 at *
  have hlt := lt_of_block h
  have h' : w.heap[b] = .cells #[.int .u8 s.k, .int .u8 s.y, .int .i64 s.a, .int .i64 s.b, .bool s.f] t (0, 0) := by simpa [Array.getElem?_eq_getElem hlt] using h
  show (w.heap.modify b _)[b]? = _
  rw [Array.getElem?_eq_getElem (by simpa using hlt), Array.getElem_modify_self, h']
  rfl
theorem B5.set4 {w : World} {b : Nat} {s : St} {t : TypeId} (h : B5 w b s t) (y : Bool) : B5 (w.setCell ⟨b, 4, none⟩ (.bool y)) b { s with f := y } t := by
  unfold B5 at *
  have hlt := lt_of_block h
  have h' : w.heap[b] = .cells #[.int .u8 s.k, .int .u8 s.y, .int .i64 s.a, .int .i64 s.b, .bool s.f] t (0, 0) := by simpa [Array.getElem?_eq_getElem hlt] using h
  show (w.heap.modify b _)[b]? = _
  rw [Array.getElem?_eq_getElem (by simpa using hlt), Array.getElem_modify_self, h']
  rfl

theorem B5.sets {w : World} {b : Nat} {s : St} {t : TypeId} (h : B5 w b s t) (k y a c : Int) (f : Bool) : B5 (((((w.setCell ⟨b, 0, none⟩ (.int .u8 k)).setCell ⟨b, 1, none⟩ (.int .u8 y)).setCell ⟨b, 2, none⟩ (.int .i64 a)).setCell ⟨b, 3, none⟩ (.int .i64 c)).setCell ⟨b, 4, none⟩ (.bool f)) b ⟨k, y, a, c, f⟩ t := ((((h.set0 k).set1 y).set2 a).set3 c).set4 f
theorem B5.cl {w : World} {b : Nat} {s : St} {t : TypeId} (h : B5 w b s t) : w.cell? ⟨b, 0, none⟩ = some (.int .u8 s.k) ∧ w.cell? ⟨b, 1, none⟩ = some (.int .u8 s.y) ∧ w.cell? ⟨b, 2, none⟩ = some (.int .i64 s.a) ∧ w.cell? ⟨b, 3, none⟩ = some (.int .i64 s.b) ∧ w.cell? ⟨b, 4, none⟩ = some (.bool s.f) := by
  obtain ⟨c0, c1, c2, c3, c4⟩ := h.at
  simp only [Nat.zero_add] at c1 c2 c3 c4
  exact ⟨c0, c1, c2, c3, c4⟩
theorem Ext.sets5 {w w' : World} (x : Ext w w') (b : Nat) (hb : w.heap.size ≤ b) (k y a c : Int) (f : Bool) : Ext w (((((w'.setCell ⟨b, 0, none⟩ (.int .u8 k)).setCell ⟨b, 1, none⟩ (.int .u8 y)).setCell ⟨b, 2, none⟩ (.int .i64 a)).setCell ⟨b, 3, none⟩ (.int .i64 c)).setCell ⟨b, 4, none⟩ (.bool f)) := ((((x.setCell hb _).setCell hb _).setCell hb _).setCell hb _).setCell hb _
/-- Byte i of a string. -/
def sb (s : ByteArray) (i : Nat) : Int := (s.data.toList.getD i 0).toNat
theorem sb_get (s : ByteArray) (i : Nat) (h : i < s.size) : sb s i = (s[i].toNat : Int) := by
  have h' : i < s.data.toList.length := by rw [Array.length_toList]; exact h
  unfold sb; rw [List.getD_eq_getElem?_getD, List.getElem?_eq_getElem h', Option.getD_some]; rfl
theorem sb_extract (s : ByteArray) (a i : Nat) : sb (s.extract a s.size) i = sb s (a + i) := by
  unfold sb
  have h : (s.extract a s.size).data.toList = s.data.toList.drop a := by
    rw [ByteArray.data_extract, Array.toList_extract]
    simp only [List.extract_eq_take_drop]
    rw [List.take_of_length_le]
    rw [List.length_drop, Array.length_toList]
    exact Nat.le_refl _
  rw [h]
  simp [List.getD, List.getElem?_drop]
theorem size_extract' (s : ByteArray) (a : Nat) : (s.extract a s.size).size = s.size - a := by simp
/-- The number of the symbol among the first i. -/
def kof (b : Int) : Nat → Int
  | 0 => 0
  | i + 1 => if gi symT i = b then ((i : Int) + 1) else kof b i
theorem kof_bd (b : Int) : ∀ k, 0 ≤ kof b k ∧ kof b k ≤ k
  | 0 => by simp [kof]
  | k + 1 => by
    have := kof_bd b k
    unfold kof
    split <;> omega
/-- The stitch that a text may be. -/
def cand (s : ByteArray) : St :=
  if kof (sb s 0) 8 = 8 ∧ 4 ≤ s.size then ⟨8, if s.size = 5 then (sb s 4 - 48) % 256 else 1, sb s 1 - 48, sb s 2 - 48, decide (sb s 3 = 70)⟩
  else ⟨kof (sb s 0) 8, if s.size = 2 then (sb s 1 - 48) % 256 else 1, 0, 0, false⟩
def pst (s : ByteArray) : St × Int := if s.size = 0 then (St.none, 4) else if bstr (cand s).tx = s then (cand s, 0) else (St.none, 4)
/-- A stitch and an error are returned. -/
def RetSE (w0 : World) (s : St) (err : Int) (e : Ending) (w' : World) : Prop := e = .returned (.tuple #[s.val, .int .i64 err]) ∧ Ext w0 w'

set_option maxHeartbeats 4000000 in
theorem SParse_calls (s : ByteArray) (w : World) (hy : Sy w) (hs : s.size ≤ 1000000) : Calls Tryd.prog 43 #[.string s] w (RetSE w (pst s).1 (pst s).2) := by
  by_cases h0 : s.size = 0
  · have hps : pst s = (St.none, 4) := if_pos h0
    have hse : s.toList = [] := by rw [ByteArray.toList_eq]; exact List.eq_nil_of_length_eq_zero (by rw [Array.length_toList]; exact h0)
    rw [hps]
    have hB0 := B5.new w St.none 33
    have hcl := fun k y a c f => (hB0.sets k y a c f).cl
    have xx := (Ext.refl w).alloc (.cells #[.int .u8 0, .int .u8 0, .int .i64 0, .int .i64 0, .bool false] 33)
    have HX := Lib.hid xx
    clear hps hB0 hcl xx h0 hy
    go_enter Tryd.func43, Tryd.ntmps43
    go_wp2
    exact bodyPost_ret (v := .tuple #[.agg #[.int .u8 0, .int .u8 0, .int .i64 0, .int .i64 0, .bool false], .int .i64 4]) (by simp [results, Tryd.results43, go_sem]) rfl ⟨rfl, by first | exact HX.out | exact HX.out.sets5 _ (Nat.le_refl _) _ _ _ _ _⟩
  · have hne := str_nonempty (a := s) (by omega)
    obtain ⟨W, hW⟩ : ∃ W, W = (w.alloc (.cells #[.int .u8 0, .int .u8 0, .int .i64 0, .int .i64 0, .bool false] 33)).alloc (.cells #[.int .u8 0, .int .u8 1, .int .i64 0, .int .i64 0, .bool false] 33) := ⟨_, rfl⟩
    have xW : Ext w W := by rw [hW]; exact ((Ext.refl w).alloc _).alloc _
    have hyW := hy.ext xW
    have s0 := hyW 0 (by omega); have s1 := hyW 1 (by omega); have s2 := hyW 2 (by omega); have s3 := hyW 3 (by omega); have s4 := hyW 4 (by omega); have s5 := hyW 5 (by omega); have s6 := hyW 6 (by omega); have s7 := hyW 7 (by omega)
    have hB0 : B5 W w.heap.size St.none 33 := by rw [hW]; exact (B5.new w St.none _).ext ((Ext.refl _).alloc _)
    have hB1 : B5 W (w.heap.size + 1) ⟨0, 1, 0, 0, false⟩ 33 := by
      rw [hW]
      have := B5.new (w.alloc (.cells #[.int .u8 0, .int .u8 0, .int .i64 0, .int .i64 0, .bool false] 33)) ⟨0, 1, 0, 0, false⟩ 33
      simpa using this
    have h00 : 0 < s.size := by omega
    have hb := (sb_get s 0 h00).symm
    have HY := Lib.hid hy; have XW := Lib.hid xW; have HW := Lib.hid hW; have HB0 := Lib.hid hB0; have HB1 := Lib.hid hB1; have HSb := Lib.hid (fun i hi => (sb_get s i hi).symm)
    rw [hW] at s0 s1 s2 s3 s4 s5 s6 s7
    clear hy xW hW hB0 hB1 hyW
    go_enter Tryd.func43, Tryd.ntmps43
    go_wp2
    rw [← HW.out]
    rw [← HW.out] at s0 s1 s2 s3 s4 s5 s6 s7
    clear HW
    have hko : ∀ k, kof (sb s 0) (k + 1) = if gi symT k = sb s 0 then ((k : Int) + 1) else kof (sb s 0) k := fun k => rfl
    have hk0 : kof (sb s 0) 0 = 0 := rfl
    have hkb : ∀ k, 0 ≤ kof (sb s 0) k ∧ kof (sb s 0) k ≤ k := kof_bd _
    have hcd1 : kof (sb s 0) 8 = 8 → 4 ≤ s.size → cand s = ⟨8, if s.size = 5 then (sb s 4 - 48) % 256 else 1, sb s 1 - 48, sb s 2 - 48, decide (sb s 3 = 70)⟩ := fun a b => if_pos ⟨a, b⟩
    have hcd2 : ¬ (kof (sb s 0) 8 = 8 ∧ 4 ≤ s.size) → cand s = ⟨kof (sb s 0) 8, if s.size = 2 then (sb s 1 - 48) % 256 else 1, 0, 0, false⟩ := fun a => if_neg a
    have hps : pst s = if bstr (cand s).tx = s then (cand s, 0) else (St.none, 4) := if_neg h0
    have HPs := Lib.hid hps
    obtain ⟨K, hK⟩ : ∃ K : Nat → Int, K = kof (sb s 0) := ⟨_, rfl⟩
    obtain ⟨Z, hZ⟩ : ∃ Z : Nat → Int, Z = gi symT := ⟨_, rfl⟩
    rw [← hK] at hko hk0 hkb hcd1 hcd2
    rw [← hZ] at hko s0 s1 s2 s3 s4 s5 s6 s7 ⊢
    have HCd1 := Lib.hid hcd1; have HCd2 := Lib.hid hcd2; have HKo := Lib.hid hko; have HK0 := Lib.hid hk0; have HKb := Lib.hid hkb
    clear hK hZ hcd1 hcd2 hko hk0 hkb hps
    obtain ⟨b0, hb0⟩ : ∃ b0, b0 = sb s 0 := ⟨_, rfl⟩
    rw [← hb0] at hb HKo
    have Hb0 := Lib.hid hb0
    clear hb0
    have hix : ∀ k : Nat, k < 8 → ∀ w', (Instr.index 100 (.agg #[.int .u8 (Z 0), .int .u8 (Z 1), .int .u8 (Z 2), .int .u8 (Z 3), .int .u8 (Z 4), .int .u8 (Z 5), .int .u8 (Z 6), .int .u8 (Z 7)]) (.int .i64 (k : Int))).run Tryd.prog w' = .ok (.int .u8 (Z k)) w' := fun k hk w' => by
      rcases (show k = 0 ∨ k = 1 ∨ k = 2 ∨ k = 3 ∨ k = 4 ∨ k = 5 ∨ k = 6 ∨ k = 7 by omega) with rfl | rfl | rfl | rfl | rfl | rfl | rfl | rfl <;> kernel_rfl
    have HIx := Lib.hid hix
    clear hix
    go_loopw [5, 6, 13] (fun _ _ i wr => ∃ k : Nat, k ≤ 8 ∧ i = .int .i64 k ∧ Hid (B5 wr (w.heap.size + 1) ⟨K k, 1, 0, 0, false⟩ 33 ∧ B5 wr w.heap.size St.none 33 ∧ Ext w wr)) (fun _ _ i _ => 8 - (intOf i).toNat)
    case atStart => exact ⟨0, by omega, rfl, Lib.hid ⟨by rw [HK0.out]; exact HB1.out, HB0.out, XW.out⟩⟩
    case round =>
      obtain ⟨k, hk, rfl, H⟩ := hrel
      by_cases hlt : k < 8
      · have hko := HKo.out k
        have hix := HIx.out k hlt
        have hlt' : (k : Int) < 8 := by omega
        have hset : ∀ z : Int, B5 (wr.setCell ⟨w.heap.size + 1, 0, none⟩ (.int .u8 z)) (w.heap.size + 1) ⟨z, 1, 0, 0, false⟩ 33 ∧ B5 (wr.setCell ⟨w.heap.size + 1, 0, none⟩ (.int .u8 z)) w.heap.size St.none 33 ∧ Ext w (wr.setCell ⟨w.heap.size + 1, 0, none⟩ (.int .u8 z)) := fun z =>
          ⟨H.out.1.set0 z, by unfold B5; rw [Deep.blk_setCell_other _ _ _ _ (by simp)]; exact H.out.2.1, H.out.2.2.setCell (by simp) _⟩
        have HSe := Lib.hid hset
        have cz := H.out.1.at.1
        have cf := H.out.1.fr 0
        clear hset
        by_cases hq : Z k = b0
        · rw [if_pos hq] at hko
          have hk1 : IntKind.u8.wrap ((k : Int) + 1) = (k : Int) + 1 := IntWalk.u8_in _ ⟨by omega, by omega⟩
          have HKk := Lib.hid hko
          have hqb : (Z k == b0) = true := beq_iff_eq.2 hq
          clear hko hq
          go_wp2
          go_roundw
          case rel => exact ⟨k + 1, by omega, by go_num, Lib.hid (by rw [HKk.out]; exact HSe.out _)⟩
          case measure => simp [intOf]; omega
        · rw [if_neg hq] at hko
          have HKk := Lib.hid hko
          have hqb : (Z k == b0) = false := beq_eq_false_iff_ne.2 hq
          clear hko hq
          go_wp2
          go_roundw
          case rel => exact ⟨k + 1, by omega, by go_num, Lib.hid (by rw [HKk.out]; exact H.out)⟩
          case measure => simp [intOf]; omega
      · obtain rfl : k = 8 := by omega
        obtain ⟨c0, c1, c2, c3, c4⟩ := H.out.1.at
        simp only [Nat.zero_add] at c1 c2 c3 c4
        have f0 := H.out.1.fr 0; have f1 := H.out.1.fr 1; have f2 := H.out.1.fr 2; have f3 := H.out.1.fr 3; have f4 := H.out.1.fr 4
        have hRs := size_extract' s 1
        have hRb := fun i => sb_extract s 1 i
        obtain ⟨R, hR⟩ : ∃ R, s.extract 1 s.size = R := ⟨_, rfl⟩
        rw [hR] at hRs hRb
        have hRg := fun i (hi : i < R.size) => (sb_get R i hi).symm.trans (hRb i)
        have HRg := Lib.hid hRg
        have ht8 : ¬ ((8 : Nat) : Int) < 8 := by omega
        have HRb := Lib.hid hRb
        clear hRb hRg s0 s1 s2 s3 s4 s5 s6 s7 hb
        have hbds : ∀ i, 0 ≤ sb s i ∧ sb s i ≤ 255 := fun i => by
          unfold sb
          have := (s.data.toList.getD i 0).toNat_lt
          omega
        rcases Classical.em (K 8 = 8 ∧ 4 ≤ s.size) with hA | hA
        case' inl =>
          obtain ⟨hA, h4⟩ := hA
          have hcd := HCd1.out hA h4
          have g3 : (3 : Int) ≤ (R.size : Int) := by omega
          have g3' : 3 ≤ R.size := by omega
          have g0 : (0 : Int) < (R.size : Int) := by omega
          have g1 : (1 : Int) < (R.size : Int) := by omega
          have g2 : (2 : Int) < (R.size : Int) := by omega
          have l0 : 0 < R.size := by omega
          have l1 : 1 < R.size := by omega
          have l2 : 2 < R.size := by omega
          have r0 := HRg.out 0 l0; have r1 := HRg.out 1 l1; have r2 := HRg.out 2 l2
          have hR3s := size_extract' R 3
          have hR3b := fun i => sb_extract R 3 i
          obtain ⟨R3, hR3⟩ : ∃ R3, R.extract 3 R.size = R3 := ⟨_, rfl⟩
          rw [hR3] at hR3s hR3b
          have r30 : sb R3 0 = sb s 4 := by rw [hR3b, HRb.out]
          have hR3g := fun (hi : 0 < R3.size) => (sb_get R3 0 hi).symm.trans r30
          have hKb : (K 8 == 8) = true := beq_iff_eq.2 hA
          have d1 := hbds 1; have d2 := hbds 2; have d3 := hbds 3; have d4 := hbds 4
          have hH := H.out
          rw [hA] at hH
          have HH := Lib.hid hH; have Hcd := Lib.hid hcd; have HR3g := Lib.hid hR3g
          generalize sb s 1 = y1 at *
          generalize sb s 2 = y2 at *
          generalize sb s 3 = y3 at *
          generalize sb s 4 = y4 at *
          obtain ⟨n3, hn3⟩ : ∃ n3, n3 = R3.size := ⟨_, rfl⟩
          have wz1 : wrap64 y1 = y1 := IntWalk.wrap64_in _ ⟨by omega, by omega⟩
          have wz2 : wrap64 y2 = y2 := IntWalk.wrap64_in _ ⟨by omega, by omega⟩
          have wz3 : wrap64 (y1 - 48) = y1 - 48 := IntWalk.wrap64_in _ ⟨by omega, by omega⟩
          have wz4 : wrap64 (y2 - 48) = y2 - 48 := IntWalk.wrap64_in _ ⟨by omega, by omega⟩
          have h5s : (R3.size = 1) = (s.size = 5) := by rw [hR3s, hRs]; apply propext; omega
          have H5s := Lib.hid h5s
          clear hcd hR3g r30 hR3b hR3s hH hbds hn3 h5s hRs
          go_wp2
          go_region
          obtain ⟨wq, hwq⟩ : ∃ wq, wq = (((wr.setCell ⟨w.heap.size + 1, 2, none⟩ (.int .i64 (y1 - 48))).setCell ⟨w.heap.size + 1, 3, none⟩ (.int .i64 (y2 - 48))).setCell ⟨w.heap.size + 1, 4, none⟩ (.bool (y3 == 70))).drew := ⟨_, rfl⟩
          have hQ : B5 wq (w.heap.size + 1) ⟨8, 1, y1 - 48, y2 - 48, y3 == 70⟩ 33 := by
            rw [hwq]; exact ((HH.out.1.set2 (y1 - 48)).set3 (y2 - 48)).set4 (y3 == 70)
          have hQ0 : B5 wq w.heap.size St.none 33 := by
            rw [hwq]
            show (((wr.setCell _ _).setCell _ _).setCell _ _).heap[_]? = _
            rw [Deep.blk_setCell_other _ _ _ _ (by simp), Deep.blk_setCell_other _ _ _ _ (by simp), Deep.blk_setCell_other _ _ _ _ (by simp)]; exact HH.out.2.1
          have xQ : Ext w wq := by
            rw [hwq]; exact (((HH.out.2.2.setCell (by simp) _).setCell (by simp) _).setCell (by simp) _).drew
          rw [← hwq]
          have HQ := Lib.hid (And.intro hQ (And.intro hQ0 xQ))
          obtain ⟨c0, c1, c2, c3, c4⟩ := hQ.at
          simp only [Nat.zero_add] at c1 c2 c3 c4
          have f1 := hQ.fr 1
          clear hQ hQ0 xQ hwq r0 r1 r2
          have hfd : (y3 == 70) = decide (y3 = 70) := rfl
          by_cases h5 : R3.size = 1
          case' pos =>
            have h5i : ((R3.size : Int) == 1) = true := by rw [h5]; rfl
            have q0 := HR3g.out (by omega)
            have hcd := Hcd.out
            rw [if_pos (by rw [← H5s.out]; exact h5), ← hfd] at hcd
            clear hfd
            go_wp2_with fail
            obtain ⟨Y, hY⟩ : ∃ Y, Y = (y4 - 48) % 256 := ⟨_, rfl⟩
            rw [← hY] at hcd ⊢
            obtain ⟨wt, hwt⟩ : ∃ wt, wt = wq.setCell ⟨w.heap.size + 1, 1, none⟩ (.int .u8 Y) := ⟨_, rfl⟩
            rw [← hwt]
            have HT := Lib.hid (show B5 wt (w.heap.size + 1) (cand s) 33 ∧ B5 wt w.heap.size St.none 33 ∧ Ext w wt from by
              rw [hcd, hwt]
              exact ⟨HQ.out.1.set1 Y, by unfold B5; rw [Deep.blk_setCell_other _ _ _ _ (by simp)]; exact HQ.out.2.1, HQ.out.2.2.setCell (by simp) _⟩)
            have HCs := Lib.hid hcd
            clear hcd hY hwt q0
          case' neg =>
            have h5i : ((R3.size : Int) == 1) = false := beq_eq_false_iff_ne.2 (by omega)
            have hcd := Hcd.out
            rw [if_neg (by rw [← H5s.out]; exact h5), ← hfd] at hcd
            clear hfd
            go_wp2_with fail
            obtain ⟨wt, hwt⟩ : ∃ wt, wt = wq := ⟨_, rfl⟩
            rw [← hwt]
            have HT := Lib.hid (show B5 wt (w.heap.size + 1) (cand s) 33 ∧ B5 wt w.heap.size St.none 33 ∧ Ext w wt from by
              rw [hcd, hwt]
              exact HQ.out)
            have HCs := Lib.hid hcd
            clear hcd hwt
        case' inr =>
          have hcd := HCd2.out hA
          have hKt : K 8 = 8 → R.size ≤ 2 := fun h => by omega
          have hKd : (K 8 == 8) = true ∧ ¬ (3 : Int) ≤ (R.size : Int) ∨ (K 8 == 8) = false := by
            by_cases h : K 8 = 8
            · exact .inl ⟨beq_iff_eq.2 h, by have := hKt h; omega⟩
            · exact .inr (beq_eq_false_iff_ne.2 h)
          have d1 := hbds 1
          have h2s : (R.size = 1) = (s.size = 2) := by rw [hRs]; apply propext; omega
          have H2s := Lib.hid h2s; have Hcd := Lib.hid hcd
          have HQ := Lib.hid H.out
          obtain ⟨wq, hwq⟩ : ∃ wq : World, wq = wr := ⟨_, rfl⟩
          rw [← hwq] at HQ c0 c1 c2 c3 c4 f1 ⊢
          generalize K 8 = kk at *
          clear hcd hKt h2s hbds hwq hA
          by_cases h5 : R.size = 1
          case' pos =>
            have l0 : 0 < R.size := by omega
            have q0 := HRg.out 0 l0
            have h5i : ((R.size : Int) == 1) = true := by rw [h5]; rfl
            have hcd := Hcd.out
            rw [if_pos (by rw [← H2s.out]; exact h5)] at hcd
            clear hRs
            rcases hKd with ⟨hK1, hK2⟩ | hK1
            all_goals
              go_wp2_with fail
              obtain ⟨Y, hY⟩ : ∃ Y, Y = (sb s 1 - 48) % 256 := ⟨_, rfl⟩
              rw [← hY] at hcd ⊢
              obtain ⟨wt, hwt⟩ : ∃ wt, wt = wq.setCell ⟨w.heap.size + 1, 1, none⟩ (.int .u8 Y) := ⟨_, rfl⟩
              rw [← hwt]
              have HT := Lib.hid (show B5 wt (w.heap.size + 1) (cand s) 33 ∧ B5 wt w.heap.size St.none 33 ∧ Ext w wt from by
                rw [hcd, hwt]
                exact ⟨HQ.out.1.set1 Y, by unfold B5; rw [Deep.blk_setCell_other _ _ _ _ (by simp)]; exact HQ.out.2.1, HQ.out.2.2.setCell (by simp) _⟩)
              have HCs := Lib.hid hcd
              clear hcd hY hwt q0
          case' neg =>
            have h5i : ((R.size : Int) == 1) = false := beq_eq_false_iff_ne.2 (by omega)
            have hcd := Hcd.out
            rw [if_neg (by rw [← H2s.out]; exact h5)] at hcd
            clear hRs
            rcases hKd with ⟨hK1, hK2⟩ | hK1
            all_goals
              go_wp2_with fail
              obtain ⟨wt, hwt⟩ : ∃ wt, wt = wq := ⟨_, rfl⟩
              rw [← hwt]
              have HT := Lib.hid (show B5 wt (w.heap.size + 1) (cand s) 33 ∧ B5 wt w.heap.size St.none 33 ∧ Ext w wt from by
                rw [hcd, hwt]
                exact HQ.out)
              have HCs := Lib.hid hcd
              clear hcd hwt
        all_goals
          obtain ⟨T, hT⟩ : ∃ T, T = bstr (cand s).tx := ⟨_, rfl⟩
          have hc : ∀ s', cand s = s' → Calls Tryd.prog 39 #[s'.val] wt fun e w' => e = .returned (.string T) ∧ Ext wt w' := fun s' e => by
            rw [← e, hT]; exact SText_calls (cand s) wt (HY.out.ext HT.out.2.2)
          have hc2 := hc _ HCs.out
          have hB := HT.out.1
          rw [HCs.out] at hB
          have hps := HPs.out
          rw [← hT] at hps
          have HHB := Lib.hid hB; have HPs2 := Lib.hid hps
          unfold St.val at hc2
          have HC2 := Lib.hid hc2
          clear hc hc2 hB hT hps c0 c1 c2 c3 c4 f0 f1 f2 f3 f4
          refine HC2.out.mono ?_
          rintro e w5 ⟨rfl, x5⟩
          obtain ⟨c0, c1, c2, c3, c4⟩ := (HHB.out.ext x5).at
          simp only [Nat.zero_add] at c1 c2 c3 c4
          have hZ0 := HT.out.2.1.ext x5
          have X5 := Lib.hid (HT.out.2.2.trans x5)
          have z0 := hZ0.fr 0; have z1 := hZ0.fr 1; have z2 := hZ0.fr 2; have z3 := hZ0.fr 3; have z4 := hZ0.fr 4
          obtain ⟨a0, a1, a2, a3, a4⟩ := hZ0.at
          simp only [Nat.zero_add] at a1 a2 a3 a4
          have HZ0 := Lib.hid hZ0
          clear x5 hZ0 HC2
          have e0 := fun k y a c f => (HZ0.out.sets k y a c f).cl.1
          have e1 := fun k y a c f => (HZ0.out.sets k y a c f).cl.2.1
          have e2 := fun k y a c f => (HZ0.out.sets k y a c f).cl.2.2.1
          have e3 := fun k y a c f => (HZ0.out.sets k y a c f).cl.2.2.2.1
          have e4 := fun k y a c f => (HZ0.out.sets k y a c f).cl.2.2.2.2
          have HE0 := Lib.hid e0; have HE1 := Lib.hid e1; have HE2 := Lib.hid e2; have HE3 := Lib.hid e3; have HE4 := Lib.hid e4
          clear e0 e1 e2 e3 e4
          by_cases hTs : T = s
          · have hcmp := str_eq hTs
            have hps := HPs2.out
            rw [if_pos hTs, HCs.out] at hps
            have HPs3 := Lib.hid hps
            clear hps hTs
            go_wp2
            rw [HPs3.out]
            exact bodyPost_ret (v := .tuple #[.agg #[_, _, _, _, _], .int .i64 0]) (by simp [results, Tryd.results43, go_sem, HE0.out, HE1.out, HE2.out, HE3.out, HE4.out]) rfl ⟨rfl, X5.out.sets5 _ (Nat.le_refl _) _ _ _ _ _⟩
          · have hcmp := str_ne hTs
            have hps := HPs2.out
            rw [if_neg hTs] at hps
            have HPs3 := Lib.hid hps
            clear hps hTs
            go_wp2
            rw [HPs3.out]
            exact bodyPost_ret (v := .tuple #[.agg #[.int .u8 0, .int .u8 0, .int .i64 0, .int .i64 0, .bool false], .int .i64 4]) (by simp [results, Tryd.results43, go_sem, HE0.out, HE1.out, HE2.out, HE3.out, HE4.out]) rfl ⟨rfl, X5.out.sets5 _ (Nat.le_refl _) _ _ _ _ _⟩
end Go.Proofs.YtkolebjpeaigcaaDoor
