/- Texts of this claim in one file: libraries and walks. -/
import Derived.Shelf.Strings.Builder1
import Derived.Test.YtigffblelngpjaaDoorL0
import Derived.Test.YtigffblelngpjaaDoorL8
import Derived.Test.YtigffblelngpjaaDoorL10
/- Contracts of strings.Builder's copyCheck and WriteByte (the shelf's walks, turned to this dump, whose copyCheck ends otherwise at a copied builder). -/
namespace Go.Proofs.YtigffblelngpjaaDoor
set_option linter.unusedVariables false
set_option linter.unusedSimpArgs false
open Go Go.RowKit Go.Shelf

theorem bld_info : (Tryd.prog.info? 98).map (·.size) = some 2 := by kernel_rfl

set_option maxHeartbeats 1000000 in
set_option maxRecDepth 100000 in
theorem bld_check_used (b : Nat) (w : World) (h0 : w.cell? ⟨b, 0, none⟩ = some (.pointer (some ⟨b, 0, none⟩))) :
    Calls Tryd.prog 92 #[.pointer (some ⟨b, 0, none⟩)] w fun e w' => e = .returned (.tuple #[]) ∧ w' = w := by
  obtain ⟨j, hj, _⟩ := Option.map_eq_some_iff.1 bld_info
  go_enter Tryd.func92, Tryd.ntmps92
  go_wp2
  rw [Lib.run_neq_ptr_same w _ Tryd.underlying96 hj]
  go_wp2
  go_end0
  exact ⟨rfl, rfl⟩

set_option maxHeartbeats 1000000 in
set_option maxRecDepth 100000 in
theorem bld_check_fresh (b : Nat) (w : World) (h0 : w.cell? ⟨b, 0, none⟩ = some (.pointer none)) (hsh : w.shape? b = some (98, 2)) (hfz : w.frozen? ⟨b, 0, none⟩ = false) :
    Calls Tryd.prog 92 #[.pointer (some ⟨b, 0, none⟩)] w fun e w' => e = .returned (.tuple #[]) ∧ w' = w.setCell ⟨b, 0, none⟩ (.pointer (some ⟨b, 0, none⟩)) := by
  obtain ⟨j, hj, hjs⟩ := Option.map_eq_some_iff.1 bld_info
  go_enter Tryd.func92, Tryd.ntmps92
  go_wp2
  rw [Lib.run_to_unsafe w ⟨b, 0, none⟩ Tryd.underlying96 Tryd.underlying122 hj (by rw [hjs]; decide) hsh (Nat.zero_lt_succ 1)]
  simp only [Result.andThen]
  rw [Oper.upon_value]
  go_wp2
  rw [run_callFunc_extern Tryd.func100 (by kernel_rfl) (by kernel_rfl) (by kernel_rfl) (e := Extern.AbiNoEscape.same) (by kernel_rfl)]
  rw [Lib.run_noEscape]
  simp only [Result.andThen]
  rw [Oper.upon_value]
  go_wp2
  rw [Lib.run_from_unsafe w ⟨b, 0, none⟩ Tryd.underlying122 Tryd.underlying96 hj hsh (by kernel_rfl)]
  simp only [Result.andThen]
  rw [Oper.upon_value]
  go_wp2
  go_end0
  exact ⟨rfl, rfl⟩

theorem bld_check (B b : Nat) (bs : List Value) (w : World) (h : Lib.IsBuilder 98 5 B b bs w) :
    Calls Tryd.prog 92 #[.pointer (some ⟨b, 0, none⟩)] w fun e w' => e = .returned (.tuple #[]) ∧ (Lib.BuilderAt 98 5 B b (.pointer (some ⟨b, 0, none⟩)) bs w' ∧ Below B w w') := by
  rcases h with h | h
  · refine (bld_check_fresh b w h.cell0 h.shape h.frozen0).mono ?_
    rintro e w' ⟨rfl, rfl⟩
    exact ⟨rfl, h.used _, (Below.refl B w).setCell (p := ⟨b, 0, none⟩) h.1 _⟩
  · refine (bld_check_used b w h.cell0).mono ?_
    rintro e w' ⟨rfl, rfl⟩
    exact ⟨rfl, h, Below.refl B _⟩

set_option maxHeartbeats 2000000 in
set_option maxRecDepth 100000 in
theorem bld_byte (B b : Nat) (bs : List Value) (c : Int) (w : World) (h : Lib.IsBuilder 98 5 B b bs w) (hlen : bs.length + 1 ≤ 140737488355328) (hBw : B ≤ w.heap.size) :
    Calls Tryd.prog 84 #[.pointer (some ⟨b, 0, none⟩), .int .u8 c] w fun e w' => e = .returned .nilIface ∧ (Lib.IsBuilder 98 5 B b (bs ++ [.int .u8 c]) w' ∧ Below B w w') := by
  obtain ⟨i0, hi, hz0, hz1, hz2⟩ := info_parts (show (Tryd.prog.info? 5).map (fun i => (i.zero, i.size, i.bytes)) = some (some (.int .u8 0), 1, 1) by kernel_rfl)
  go_enter Tryd.func84, Tryd.ntmps84
  go_wp2_with (go_at_call 92; refine (bld_check B b bs _ h).mono ?_)
  rintro e w1 ⟨rfl, h1, hb1⟩
  obtain ⟨hB, v, hbk, hown, hne⟩ := h1
  have c0 : w1.cell? ⟨b, 0, none⟩ = some (.pointer (some ⟨b, 0, none⟩)) := by rw [Lib.cell_of_heap hbk]; rfl
  have c1 : w1.cell? ⟨b, 1, none⟩ = some v := by rw [Lib.cell_of_heap hbk]; rfl
  go_wp2_with (at_builtin; refine wpList_append_own _ rfl _ _ 22 rfl B 5 i0 (.int .u8 0) 1 1 Tryd.underlying22 hi hz0 hz1 hz2 rfl (by decide) _ _ _ rfl (hown.alloc _) ⟨w1.heap.size, 0, none⟩ 1 1 [.int .u8 c] rfl rfl ?c1 ?c2 ?c3 ?c4 ?c5 ?_)
  case c1 =>
    intro j u hj
    match j, hj with
    | 0, hj => simp at hj; subst hj; simp [Addr.add]
  case c2 => intro u hu; simp at hu; subst hu; rfl
  case c3 => unfold maxLen; omega
  case c4 => omega
  case c5 => have := hb1.size; simp; omega
  intro v' w2 hown' hgrow _
  have hlt : b < w1.heap.size := by
    rcases Nat.lt_or_ge b w1.heap.size with h' | h'
    · exact h'
    · simp [Array.getElem?_eq_none h'] at hbk
  have hb2 : w2.heap[b]? = some (.cells #[.pointer (some ⟨b, 0, none⟩), v] 98 (0, 0)) := by
    rw [hgrow.block b (by simp; omega) (fun e => hne e.symm), Lib.alloc_old w1 _ b hlt]
    exact hbk
  have d0 : w2.cell? ⟨b, 0, none⟩ = some (.pointer (some ⟨b, 0, none⟩)) := by rw [Lib.cell_of_heap hb2]; rfl
  have d1 : w2.cell? ⟨b, 1, none⟩ = some v := by rw [Lib.cell_of_heap hb2]; rfl
  have f1 : w2.frozen? ⟨b, 1, none⟩ = false := Lib.frozen_of_heap hb2 1
  obtain ⟨g, cap, rfl⟩ : ∃ g cap, v' = .slice (some ⟨g, 0, none⟩) (bs.length + 1) cap := by
    rcases hown'.2 with ⟨_, h0⟩ | ⟨g, cap, cur, hv, _⟩
    · omega
    · exact ⟨g, cap, hv⟩
  go_wp2
  go_ret
  refine ⟨rfl, .inr ?_, ?_⟩
  · exact Lib.BuilderAt.put (T := 98) (e := 5) hB hb2 (bs' := bs ++ [.int .u8 c]) (by simpa using hown') (by decide)
  · exact ((hb1.alloc (by have := hb1.size; omega) _).grown hgrow (by have := hb1.size; simp; omega) (fun k hk => (hown.lt k hk).1)).setCell (p := ⟨b, 1, none⟩) hB _

/-- What lies in other blocks, of another type than bytes, is kept. -/
def KeptBut (b : Nat) (w w' : World) : Prop := ∀ (g : Nat) (o : Array Value) (t : TypeId), w.heap[g]? = some (.cells o t (0, 0)) → g ≠ b → t ≠ 5 → w'.heap[g]? = some (.cells o t (0, 0))
theorem bld_check2 (B b : Nat) (bs : List Value) (w : World) (h : Lib.IsBuilder 98 5 B b bs w) :
    Calls Tryd.prog 92 #[.pointer (some ⟨b, 0, none⟩)] w fun e w' => e = .returned (.tuple #[]) ∧ (Lib.BuilderAt 98 5 B b (.pointer (some ⟨b, 0, none⟩)) bs w' ∧ Below B w w' ∧ KeptBut b w w') := by
  rcases h with h | h
  · refine (bld_check_fresh b w h.cell0 h.shape h.frozen0).mono ?_
    rintro e w' ⟨rfl, rfl⟩
    exact ⟨rfl, h.used _, (Below.refl B w).setCell (p := ⟨b, 0, none⟩) h.1 _, fun g o t hg hb _ => by rw [Deep.blk_setCell_other _ _ _ _ hb]; exact hg⟩
  · refine (bld_check_used b w h.cell0).mono ?_
    rintro e w' ⟨rfl, rfl⟩
    exact ⟨rfl, h, Below.refl B _, fun g o t hg _ _ => hg⟩

set_option maxHeartbeats 2000000 in
set_option maxRecDepth 100000 in
theorem bld_byte2 (B b : Nat) (bs : List Value) (c : Int) (w : World) (h : Lib.IsBuilder 98 5 B b bs w) (hlen : bs.length + 1 ≤ 140737488355328) (hBw : B ≤ w.heap.size) :
    Calls Tryd.prog 84 #[.pointer (some ⟨b, 0, none⟩), .int .u8 c] w fun e w' => e = .returned .nilIface ∧ (Lib.IsBuilder 98 5 B b (bs ++ [.int .u8 c]) w' ∧ Below B w w' ∧ KeptBut b w w') := by
  obtain ⟨i0, hi, hz0, hz1, hz2⟩ := info_parts (show (Tryd.prog.info? 5).map (fun i => (i.zero, i.size, i.bytes)) = some (some (.int .u8 0), 1, 1) by kernel_rfl)
  go_enter Tryd.func84, Tryd.ntmps84
  go_wp2_with (go_at_call 92; refine (bld_check2 B b bs _ h).mono ?_)
  rintro e w1 ⟨rfl, h1, hb1, hk1⟩
  obtain ⟨hB, v, hbk, hown, hne⟩ := h1
  have c0 : w1.cell? ⟨b, 0, none⟩ = some (.pointer (some ⟨b, 0, none⟩)) := by rw [Lib.cell_of_heap hbk]; rfl
  have c1 : w1.cell? ⟨b, 1, none⟩ = some v := by rw [Lib.cell_of_heap hbk]; rfl
  go_wp2_with (at_builtin; refine wpList_append_own _ rfl _ _ 22 rfl B 5 i0 (.int .u8 0) 1 1 Tryd.underlying22 hi hz0 hz1 hz2 rfl (by decide) _ _ _ rfl (hown.alloc _) ⟨w1.heap.size, 0, none⟩ 1 1 [.int .u8 c] rfl rfl ?c1 ?c2 ?c3 ?c4 ?c5 ?_)
  case c1 =>
    intro j u hj
    match j, hj with
    | 0, hj => simp at hj; subst hj; simp [Addr.add]
  case c2 => intro u hu; simp at hu; subst hu; rfl
  case c3 => unfold maxLen; omega
  case c4 => omega
  case c5 => have := hb1.size; simp; omega
  intro v' w2 hown' hgrow _
  have hlt : b < w1.heap.size := by
    rcases Nat.lt_or_ge b w1.heap.size with h' | h'
    · exact h'
    · simp [Array.getElem?_eq_none h'] at hbk
  have hb2 : w2.heap[b]? = some (.cells #[.pointer (some ⟨b, 0, none⟩), v] 98 (0, 0)) := by
    rw [hgrow.block b (by simp; omega) (fun e => hne e.symm), Lib.alloc_old w1 _ b hlt]
    exact hbk
  have d0 : w2.cell? ⟨b, 0, none⟩ = some (.pointer (some ⟨b, 0, none⟩)) := by rw [Lib.cell_of_heap hb2]; rfl
  have d1 : w2.cell? ⟨b, 1, none⟩ = some v := by rw [Lib.cell_of_heap hb2]; rfl
  have f1 : w2.frozen? ⟨b, 1, none⟩ = false := Lib.frozen_of_heap hb2 1
  obtain ⟨g, cap, rfl⟩ : ∃ g cap, v' = .slice (some ⟨g, 0, none⟩) (bs.length + 1) cap := by
    rcases hown'.2 with ⟨_, h0⟩ | ⟨g, cap, cur, hv, _⟩
    · omega
    · exact ⟨g, cap, hv⟩
  go_wp2
  go_ret
  refine ⟨rfl, .inr ?_, ?_, fun q o t hq hqb hqt => ?_⟩
  rotate_left 2
  · have h1 := hk1 q o t hq hqb hqt
    have hlt : q < w1.heap.size := by
      rcases Nat.lt_or_ge q w1.heap.size with h' | h'
      · exact h'
      · rw [Array.getElem?_eq_none h'] at h1; cases h1
    have hno : some q ≠ v.ownBlock := fun e => by
      obtain ⟨_, ho⟩ := hown
      rcases ho with ⟨hv, _⟩ | ⟨g', cap', cur', hv, _, hg', _⟩
      · rw [hv] at e; cases e
      · rw [hv] at e
        obtain rfl : q = g' := Option.some.inj e
        rw [h1] at hg'
        simp at hg'
        exact hqt hg'.2
    rw [Deep.blk_setCell_other _ _ _ _ hqb, hgrow.block q (by simp; omega) hno, Lib.alloc_old w1 _ q hlt]
    exact h1
  · exact Lib.BuilderAt.put (T := 98) (e := 5) hB hb2 (bs' := bs ++ [.int .u8 c]) (by simpa using hown') (by decide)
  · exact ((hb1.alloc (by have := hb1.size; omega) _).grown hgrow (by have := hb1.size; simp; omega) (fun k hk => (hown.lt k hk).1)).setCell (p := ⟨b, 1, none⟩) hB _

set_option maxHeartbeats 2000000 in
set_option maxRecDepth 100000 in
theorem bld_string (B b : Nat) (bs : List Value) (s : ByteArray) (w : World) (h : Lib.IsBuilder 98 5 B b bs w) (hlen : bs.length + s.size ≤ 140737488355328) (hBw : B ≤ w.heap.size) :
    Calls Tryd.prog 87 #[.pointer (some ⟨b, 0, none⟩), .string s] w fun e w' => e = .returned (.tuple #[.int .i64 s.size, .nilIface]) ∧ (Lib.IsBuilder 98 5 B b (bs ++ Lib.strCells s) w' ∧ Below B w w') := by
  obtain ⟨i0, hi, hz0, hz1, hz2⟩ := info_parts (show (Tryd.prog.info? 5).map (fun i => (i.zero, i.size, i.bytes)) = some (some (.int .u8 0), 1, 1) by kernel_rfl)
  go_enter Tryd.func87, Tryd.ntmps87
  go_wp2_with (go_at_call 92; refine (bld_check B b bs _ h).mono ?_)
  rintro e w1 ⟨rfl, h1, hb1⟩
  obtain ⟨hB, v, hbk, hown, hne⟩ := h1
  have c0 : w1.cell? ⟨b, 0, none⟩ = some (.pointer (some ⟨b, 0, none⟩)) := by rw [Lib.cell_of_heap hbk]; rfl
  have c1 : w1.cell? ⟨b, 1, none⟩ = some v := by rw [Lib.cell_of_heap hbk]; rfl
  go_wp2_with (at_builtin; refine Lib.wpList_append_own_string _ rfl _ _ 22 9 rfl B 5 i0 Tryd.underlying22 Tryd.underlying9 hi hz0 hz1 hz2 _ _ _ rfl hown s rfl ?c3 ?c4 ?c5 ?_)
  case c3 => unfold maxLen; omega
  case c4 => omega
  case c5 => have := hb1.size; omega
  intro v' w2 hown' hgrow _
  have hlt : b < w1.heap.size := by
    rcases Nat.lt_or_ge b w1.heap.size with h' | h'
    · exact h'
    · simp [Array.getElem?_eq_none h'] at hbk
  have hb2 : w2.heap[b]? = some (.cells #[.pointer (some ⟨b, 0, none⟩), v] 98 (0, 0)) := by
    rw [hgrow.block b hlt (fun e => hne e.symm)]
    exact hbk
  have d0 : w2.cell? ⟨b, 0, none⟩ = some (.pointer (some ⟨b, 0, none⟩)) := by rw [Lib.cell_of_heap hb2]; rfl
  have d1 : w2.cell? ⟨b, 1, none⟩ = some v := by rw [Lib.cell_of_heap hb2]; rfl
  have f1 : w2.frozen? ⟨b, 1, none⟩ = false := Lib.frozen_of_heap hb2 1
  obtain ⟨ao, n', cap, rfl⟩ : ∃ ao n' cap, v' = .slice ao n' cap := by
    rcases hown'.2 with ⟨hv, _⟩ | ⟨g, cap, cur, hv, _⟩
    · exact ⟨_, _, _, hv⟩
    · exact ⟨_, _, _, hv⟩
  go_wp2
  go_ret2
  refine ⟨rfl, .inr ?_, ?_⟩
  · exact Lib.BuilderAt.put (T := 98) (e := 5) hB hb2 (bs' := bs ++ Lib.strCells s) (by simpa [Lib.strCells_length] using hown') (by decide)
  · exact (hb1.grown hgrow (by have := hb1.size; omega) (fun k hk => (hown.lt k hk).1)).setCell (p := ⟨b, 1, none⟩) hB _
theorem bld_lt {B b : Nat} {bs : List Value} {w : World} (h : Lib.IsBuilder 98 5 B b bs w) : b < w.heap.size := by
  rcases h with h | h <;> exact h.lt
end Go.Proofs.YtigffblelngpjaaDoor
/- Contracts of permutations: Text and Parse. -/
namespace Go.Proofs.YtigffblelngpjaaDoor
set_option linter.unusedVariables false
set_option linter.unusedSimpArgs false
open Go Go.RowKit Go.Shelf

/-- The text of the numbers ahead of k. -/
def textTo (xs : List Int) : Nat → List UInt8
  | 0 => []
  | k + 1 => textTo xs k ++ (if k = 0 then [] else [32]) ++ [UInt8.ofNat (48 + (gi xs k).toNat)]
def textOf (xs : List Int) : List UInt8 := if pcheck xs = 0 then textTo xs xs.length else []
theorem textTo_len (xs : List Int) : ∀ k, (textTo xs k).length = 2 * k - 1
  | 0 => rfl
  | k + 1 => by
    rw [textTo, List.length_append, List.length_append, textTo_len xs k]
    by_cases h : k = 0
    · subst h; rfl
    · rw [if_neg h]; simp; omega
theorem byteCells_append (l k : List UInt8) : Lib.byteCells (l ++ k) = Lib.byteCells l ++ Lib.byteCells k := by simp [Lib.byteCells]
theorem byteCells_len (l : List UInt8) : (Lib.byteCells l).length = l.length := by simp [Lib.byteCells]
theorem byteCells_dig {x : Int} (h0 : 0 ≤ x) (h1 : x ≤ 9) : Lib.byteCells [UInt8.ofNat (48 + x.toNat)] = [.int .u8 (48 + x)] := by
  have : ((UInt8.ofNat (48 + x.toNat)).toNat : Int) = 48 + x := by
    rw [UInt8.toNat_ofNat']; omega
  simp [Lib.byteCells]; omega
theorem textTo_next (xs : List Int) {k : Nat} (h : k ≠ 0) : textTo xs (k + 1) = (textTo xs k ++ [32]) ++ [UInt8.ofNat (48 + (gi xs k).toNat)] := by
  rw [textTo, if_neg h]
theorem textTo_first (xs : List Int) : textTo xs (0 + 1) = textTo xs 0 ++ [UInt8.ofNat (48 + (gi xs 0).toNat)] := by
  show textTo xs 0 ++ (if 0 = 0 then [] else [32]) ++ _ = _
  simp

set_option maxHeartbeats 1000000 in
theorem PText_bad (v : Value) (c : Nat) (xs : List Int) (w : World) (h : IS .u8 w v c xs) (hb : U8L xs) (h0 : pcheck xs ≠ 0) :
    Calls Tryd.prog 71 #[v] w fun e w' => e = .returned (.string ⟨#[]⟩) ∧ Ext w w' := by
  have hP := Pcheck_calls _ _ _ _ h hb
  obtain ⟨_, _, ao, rfl, _⟩ := h.open
  obtain ⟨e1, he1⟩ : ∃ e, e = pcheck xs := ⟨_, rfl⟩
  rw [← he1] at hP h0
  have HP := Lib.hid hP
  have hne : (e1 != 0) = true := by simpa using h0
  clear hP he1 h0 h hb
  go_enter Tryd.func71, Tryd.ntmps71
  go_wp2_with fail
  refine HP.out.mono ?_
  rintro e w1 ⟨rfl, hx⟩
  go_wp2
  go_ret
  exact ⟨rfl, hx⟩

set_option maxHeartbeats 2000000 in
theorem PText_ok (v : Value) (c : Nat) (xs : List Int) (w : World) (h : IS .u8 w v c xs) (hb : U8L xs) (h0 : pcheck xs = 0) :
    Calls Tryd.prog 71 #[v] w fun e w' => e = .returned (.string ⟨(textTo xs xs.length).toArray⟩) ∧ Ext w w' := by
  have hP := Pcheck_calls _ _ _ _ h hb
  rw [h0] at hP
  obtain ⟨h1, h2, ao, rfl, hao⟩ := h.open
  obtain ⟨hl1, hl, hok⟩ := pcheck_zero h0
  have hb' : ∀ i, i < xs.length → 1 ≤ gi xs i ∧ gi xs i ≤ 8 := fun i hi => by have := pok_inR hok i hi; omega
  obtain ⟨b, o, rfl, hc⟩ : ∃ b o, ao = some ⟨b, o, none⟩ ∧ ∀ i, i < xs.length → w.cell? ⟨b, o + i, none⟩ = some (.int .u8 (gi xs i)) := by
    rcases hao with ⟨_, h0, _⟩ | h
    · omega
    · exact h
  have hlen := textTo_len xs
  have hn := fun k (hk : k ≠ 0) => textTo_next xs (k := k) hk
  have hf := textTo_first xs
  obtain ⟨T, hT⟩ : ∃ T, T = textTo xs := ⟨_, rfl⟩
  have hT0 : T 0 = [] := by rw [hT]; rfl
  rw [← hT] at hlen hn hf ⊢
  obtain ⟨N, hN⟩ : ∃ N, N = xs.length := ⟨_, rfl⟩
  rw [← hN] at hP h1 hl hl1 hb' hc ⊢
  have Hb := Lib.hid hb'; have HC := Lib.hid hc; have HP := Lib.hid hP; have HL := Lib.hid hlen; have HN := Lib.hid hn; have HF := Lib.hid hf; have HT0 := Lib.hid hT0
  clear hN hb hb' hc h hP h0 hok hao hlen hn hf hT hT0
  go_enter Tryd.func71, Tryd.ntmps71
  go_wp2_with fail
  refine HP.out.mono ?_
  rintro e w1 ⟨rfl, hx⟩
  have HX := Lib.hid hx
  clear hx
  go_wp2
  go_loopw [11] (fun i wr => ∃ k : Nat, k ≤ N ∧ i = .int .i64 k ∧ Hid (Lib.IsBuilder 98 5 w1.heap.size w1.heap.size (Lib.byteCells (T k)) wr ∧ Ext w1 wr)) (fun i _ => N - (intOf i).toNat)
  case atStart => exact ⟨0, Nat.zero_le _, rfl, Lib.hid ⟨by rw [HT0.out]; exact Lib.fresh_isBuilder _ _ _, (Ext.refl w1).alloc _⟩⟩
  case round =>
    obtain ⟨k, hk, rfl, H⟩ := hrel
    by_cases hlt : k < N
    · have hck := H.out.2.cell (HX.out.cell (HC.out k hlt))
      obtain ⟨b1, b2⟩ := Hb.out k hlt
      have hbd := byteCells_dig (x := gi xs k) (by omega) (by omega)
      by_cases hk0 : k = 0
      · have hf : T (k + 1) = T k ++ [UInt8.ofNat (48 + (gi xs k).toNat)] := by rw [hk0]; exact HF.out
        have hk1 : ¬ (0 : Int) < (k : Int) := by omega
        obtain ⟨x, hx⟩ : ∃ x, x = gi xs k := ⟨_, rfl⟩
        rw [← hx] at hck b1 b2 hbd hf
        have HBD := Lib.hid (And.intro hbd hf)
        have hcall := bld_byte w1.heap.size w1.heap.size (Lib.byteCells (T k)) (48 + x) wr H.out.1 (by rw [byteCells_len, HL.out]; omega) H.out.2.size
        have HCL := Lib.hid hcall
        clear hx hbd hf hcall hk0
        go_wp2_with fail
        refine HCL.out.mono ?_
        rintro e w2 ⟨rfl, r1, r2⟩
        have HR := Lib.hid (And.intro r1 r2)
        clear r1 r2
        go_wp2
        go_roundw
        case rel =>
          refine ⟨k + 1, by omega, by go_num, Lib.hid ⟨?_, Below.trans H.out.2 HR.out.2⟩⟩
          rw [HBD.out.2, byteCells_append, HBD.out.1]
          exact HR.out.1
        case measure => simp [intOf]; omega
      · have hf := HN.out k hk0
        obtain ⟨x, hx⟩ : ∃ x, x = gi xs k := ⟨_, rfl⟩
        rw [← hx] at hck b1 b2 hbd hf
        have HBD := Lib.hid (And.intro hbd hf)
        have hcall := bld_byte w1.heap.size w1.heap.size (Lib.byteCells (T k)) 32 wr H.out.1 (by rw [byteCells_len, HL.out]; omega) H.out.2.size
        have HCL := Lib.hid hcall
        have hk1 : (0 : Int) < (k : Int) := by omega
        clear hx hbd hf hcall hk0
        go_wp2_with fail
        refine HCL.out.mono ?_
        rintro e w2 ⟨rfl, r1, r2⟩
        have hcall := bld_byte w1.heap.size w1.heap.size (Lib.byteCells (T k) ++ [.int .u8 32]) (48 + x) w2 r1 (by rw [List.length_append, byteCells_len, HL.out]; simp; omega) (Nat.le_trans H.out.2.size r2.size)
        have HCL2 := Lib.hid hcall
        have HR := Lib.hid (And.intro r1 r2)
        clear r1 r2 hcall
        go_wp2_with fail
        refine HCL2.out.mono ?_
        rintro e w3 ⟨rfl, r1, r2⟩
        have HR2 := Lib.hid (And.intro r1 r2)
        clear r1 r2
        go_wp2
        go_roundw
        case rel =>
          refine ⟨k + 1, by omega, by go_num, Lib.hid ⟨?_, Below.trans (Below.trans H.out.2 HR.out.2) HR2.out.2⟩⟩
          rw [HBD.out.2, byteCells_append, byteCells_append, HBD.out.1]
          exact HR2.out.1
        case measure => simp [intOf]; omega
    · obtain rfl : k = N := by omega
      have HCL := Lib.hid (Tryd.Builder_String_any w1.heap.size w1.heap.size (T k) wr H.out.1 H.out.2.size)
      go_wp2_with fail
      refine HCL.out.mono ?_
      rintro e w2 ⟨rfl, r2⟩
      have HR := Lib.hid r2
      clear r2
      go_wp2
      go_ret
      exact ⟨rfl, HX.out.trans (Below.trans H.out.2 HR.out)⟩

theorem PText_calls (v : Value) (c : Nat) (xs : List Int) (w : World) (h : IS .u8 w v c xs) (hb : U8L xs) :
    Calls Tryd.prog 71 #[v] w fun e w' => e = .returned (.string ⟨(textOf xs).toArray⟩) ∧ Ext w w' := by
  unfold textOf
  by_cases h0 : pcheck xs = 0
  · rw [if_pos h0]; exact PText_ok v c xs w h hb h0
  · rw [if_neg h0]; exact PText_bad v c xs w h hb h0

/-! ### Parse -/
/-- Byte i of a string. -/
def sb (s : ByteArray) (i : Nat) : Int := (s.data.toList.getD i 0).toNat
def digL (s : ByteArray) : List Int := (List.range ((s.size + 1) / 2)).map fun i => IntKind.u8.wrap (sb s (2 * i) - 48)
def parseE (s : ByteArray) : Int := if s.size % 2 = 0 ∨ 16 < s.size then 4 else if textOf (digL s) = s.data.toList then 0 else 4
theorem digL_len (s : ByteArray) : (digL s).length = (s.size + 1) / 2 := by simp [digL]
theorem digL_gi (s : ByteArray) {i : Nat} (h : i < (s.size + 1) / 2) : gi (digL s) i = IntKind.u8.wrap (sb s (2 * i) - 48) := by unfold digL; rw [gi_range_map _ h]
theorem digL_u8 (s : ByteArray) : U8L (digL s) := fun i hi => by
  rw [digL_len] at hi
  rw [digL_gi s hi]
  have : ∀ z : Int, 0 ≤ IntKind.u8.wrap z ∧ IntKind.u8.wrap z ≤ 255 := fun z => by simp [IntKind.wrap, IntKind.bits, IntKind.signed]; omega
  exact this _
theorem sb_get (s : ByteArray) (i : Nat) (h : i < s.size) : sb s i = (s[i].toNat : Int) := by
  have h' : i < s.data.toList.length := by rw [Array.length_toList]; exact h
  unfold sb; rw [List.getD_eq_getElem?_getD, List.getElem?_eq_getElem h', Option.getD_some]; rfl

end Go.Proofs.YtigffblelngpjaaDoor
