/- fabrics.Text: the closure that writes a line; the text in plain Lean. -/
import Derived.Test.YtlhkehfplcclgaaDoorKf
import Derived.Test.YtlhkehfplcclgaaDoorBld
namespace Go.Proofs.YtlhkehfplcclgaaDoor
set_option linter.unusedVariables false
set_option linter.unusedSimpArgs false
set_option maxRecDepth 8000
open Go Go.RowKit Go.Sort Go.Shelf

def lineT (ws : List (List UInt8)) : List UInt8 := Lib.join ws [32] ++ [10]
/-- The builder at b holds the bytes. -/
def SB (B b : Nat) (w : World) (bs : List UInt8) : Prop := Lib.IsBuilder 86 5 B b (Lib.byteCells bs) w
theorem SB.ext {B b : Nat} {w w' : World} {bs : List UInt8} (h : SB B b w bs) (x : Ext w w') : SB B b w' bs := by
  have key : ∀ p, Lib.BuilderAt 86 5 B b p (Lib.byteCells bs) w → Lib.BuilderAt 86 5 B b p (Lib.byteCells bs) w' := fun p h => by
    obtain ⟨hB, v, hb, ho, hn⟩ := h
    exact ⟨hB, v, x.block hb, own_extk ho x, hn⟩
  rcases h with h | h
  · exact .inl (key _ h)
  · exact .inr (key _ h)
theorem SB.new (w : World) : SB w.heap.size w.heap.size (w.alloc (.cells #[.pointer none, .slice none 0 0] 86)) [] :=
  .inl ⟨Nat.le_refl _, .slice none 0 0, Deep.blk_alloc_new _ _, World.ownsRow_nil _ _ _ _, by simp [Value.ownBlock]⟩
theorem join_le {k : Nat} : ∀ {ws : List (List UInt8)}, (∀ x ∈ ws, x.length ≤ k) → (Lib.join ws [32]).length ≤ ws.length * (k + 1)
  | [], _ => by simp [Lib.join_nil]
  | x :: r, h => by
    have key : ∀ r : List (List UInt8), (∀ x ∈ r, x.length ≤ k) → (Lib.joinTail [32] r).length ≤ r.length * (k + 1) := by
      intro r
      induction r with
      | nil => intro _; simp [Lib.joinTail]
      | cons y r ih =>
        intro hh
        have h1 := ih fun z hz => hh z (by simp [hz])
        have h2 := hh y (by simp)
        unfold Lib.joinTail at h1 ⊢
        rw [List.map_cons, List.flatten_cons, List.length_append, List.length_cons, Nat.add_mul]
        simp only [List.length_append, List.length_cons, List.length_nil] at h1 ⊢
        omega
    have h1 := key r fun z hz => h z (by simp [hz])
    have h2 := h x (by simp)
    rw [Lib.join_cons, List.length_append, List.length_cons, Nat.add_mul]; omega
theorem lineT_le {k : Nat} {ws : List (List UInt8)} (h : ∀ x ∈ ws, x.length ≤ k) : (lineT ws).length ≤ ws.length * (k + 1) + 1 := by
  unfold lineT
  rw [List.length_append]; have := join_le h; simp; omega
set_option maxHeartbeats 2000000 in
set_option maxRecDepth 100000 in
theorem bld_string2 (B b : Nat) (bs : List Value) (s : ByteArray) (w : World) (h : Lib.IsBuilder 86 5 B b bs w) (hlen : bs.length + s.size ≤ 140737488355328) (hBw : B ≤ w.heap.size) :
    Calls Tryd.prog 36 #[.pointer (some ⟨b, 0, none⟩), .string s] w fun e w' => e = .returned (.tuple #[.int .i64 s.size, .nilIface]) ∧ (Lib.IsBuilder 86 5 B b (bs ++ Lib.strCells s) w' ∧ Below B w w' ∧ KeptBut b w w') := by
  obtain ⟨i0, hi, hz0, hz1, hz2⟩ := info_parts (show (Tryd.prog.info? 5).map (fun i => (i.zero, i.size, i.bytes)) = some (some (.int .u8 0), 1, 1) by kernel_rfl)
  go_enter Tryd.func36, Tryd.ntmps36
  go_wp2_with (go_at_call 59; refine (bld_check2 B b bs _ h).mono ?_)
  rintro e w1 ⟨rfl, h1, hb1, hk1⟩
  obtain ⟨hB, v, hbk, hown, hne⟩ := h1
  have c0 : w1.cell? ⟨b, 0, none⟩ = some (.pointer (some ⟨b, 0, none⟩)) := by rw [Lib.cell_of_heap hbk]; rfl
  have c1 : w1.cell? ⟨b, 1, none⟩ = some v := by rw [Lib.cell_of_heap hbk]; rfl
  go_wp2_with (at_builtin; refine Lib.wpList_append_own_string _ rfl _ _ 25 9 rfl B 5 i0 Tryd.underlying25 Tryd.underlying9 hi hz0 hz1 hz2 _ _ _ rfl hown s rfl ?c3 ?c4 ?c5 ?_)
  case c3 => unfold maxLen; omega
  case c4 => omega
  case c5 => have := hb1.size; omega
  intro v' w2 hown' hgrow _
  have hlt : b < w1.heap.size := by
    rcases Nat.lt_or_ge b w1.heap.size with h' | h'
    · exact h'
    · simp [Array.getElem?_eq_none h'] at hbk
  have hb2 : w2.heap[b]? = some (.cells #[.pointer (some ⟨b, 0, none⟩), v] 86 (0, 0)) := by
    rw [hgrow.block b hlt (fun e => hne e.symm)]
    exact hbk
  have d0 : w2.cell? ⟨b, 0, none⟩ = some (.pointer (some ⟨b, 0, none⟩)) := by rw [Lib.cell_of_heap hb2]; rfl
  have d1 : w2.cell? ⟨b, 1, none⟩ = some v := by rw [Lib.cell_of_heap hb2]; rfl
  have f1 : w2.frozen? ⟨b, 1, none⟩ = false := Lib.frozen_of_heap hb2 1
  obtain ⟨ao, n', cap, rfl⟩ : ∃ ao n' cap, v' = .slice ao n' cap := by
    rcases hown'.2 with ⟨hv, _⟩ | ⟨g, cap, cur, hv, _⟩
    · exact ⟨_, _, _, hv⟩
    · exact ⟨_, _, _, hv⟩
  go_wp2
  go_ret2
  refine ⟨rfl, .inr ?_, ?_, fun q o t hq hqb hqt => ?_⟩
  rotate_left 2
  · have h1 := hk1 q o t hq hqb hqt
    have hlt : q < w1.heap.size := by
      rcases Nat.lt_or_ge q w1.heap.size with h' | h'
      · exact h'
      · rw [Array.getElem?_eq_none h'] at h1; cases h1
    have hno : some q ≠ v.ownBlock := fun e => by
      obtain ⟨_, ho⟩ := hown
      rcases ho with ⟨hv, _⟩ | ⟨g', cap', cur', hv, _, hg', _⟩
      · rw [hv] at e; cases e
      · rw [hv] at e
        obtain rfl : q = g' := Option.some.inj e
        rw [h1] at hg'
        simp at hg'
        exact hqt hg'.2
    rw [Deep.blk_setCell_other _ _ _ _ hqb, hgrow.block q hlt hno]
    exact h1
  · exact Lib.BuilderAt.put (T := 86) (e := 5) hB hb2 (bs' := bs ++ Lib.strCells s) (by simpa [Lib.strCells_length] using hown') (by decide)
  · exact (hb1.grown hgrow (by have := hb1.size; omega) (fun k hk => (hown.lt k hk).1)).setCell (p := ⟨b, 1, none⟩) hB _

set_option maxHeartbeats 4000000 in
theorem Line_calls (B b : Nat) (bs : List UInt8) (v : Value) (c : Nat) (ws : List (List UInt8)) (w : World) (h : CK 1 w v c (ws.map sc)) (hb : SB B b w bs) (h0 : ws ≠ []) (h9 : ws.length ≤ 100000) (hk : (lineT ws).length ≤ 100000) (hl : bs.length ≤ 100000000000) (hB : B ≤ w.heap.size) :
    Calls Tryd.prog 35 #[v, .pointer (some ⟨b, 0, none⟩)] w fun e w' => e = .returned (.tuple #[]) ∧ SB B b w' (bs ++ lineT ws) ∧ Below B w w' ∧ KeptBut b w w' := by
  obtain ⟨n, hn⟩ : ∃ n, n = ws.length := ⟨_, rfl⟩
  have hn0 : n ≠ 0 := fun e => h0 (List.eq_nil_of_length_eq_zero (by omega))
  obtain ⟨bk, o, hv, hcs, hnc⟩ : ∃ bk o, v = .slice (some ⟨bk, o, none⟩) n c ∧ (∀ j, j < n → w.cell? ⟨bk, o + j, none⟩ = some (.string (bst (ws.getD j [])))) ∧ n ≤ c := by
    obtain ⟨ao, h1, h2, h3, h4⟩ := h
    rw [List.length_map] at h1 h2 h4
    rcases h4 with h4 | ⟨b', o', h5, h6⟩
    · omega
    · refine ⟨b', o', by rw [h1, h5, hn], fun j hj => ?_, by omega⟩
      have h7 := h6 j (by omega) 0 (by simp [List.getD, show j < ws.length by omega, sc])
      rw [Nat.mul_one, Nat.add_zero] at h7
      rw [h7]
      simp [List.getD, show j < ws.length by omega, sc]
  subst hv
  have hbk : bk < w.heap.size := World.block_lt_of_cell? w _ (hcs 0 (by omega))
  have hjl : (Lib.join ws [32]).length ≤ 100000 := by have := hk; unfold lineT at this; rw [List.length_append] at this; omega
  have hj := Tryd.strings_Join bk o c (ws.map bst) { data := #[32] } w (fun j x hx => by
    have hj2 := (List.getElem?_eq_some_iff.1 hx).1
    rw [List.length_map] at hj2
    rw [hcs j (by omega)]
    rw [List.getElem?_map, List.getElem?_eq_getElem hj2] at hx
    simp at hx
    rw [← hx]; simp [List.getD, hj2]) hbk (by rw [List.length_map]; omega) (by rw [List.length_map]; omega) (by
      rw [List.map_map, show ((fun x : ByteArray => x.data.toList) ∘ bst) = id by funext x; simp [bst], List.map_id]
      show (Lib.join ws [32]).length ≤ _
      omega)
  rw [List.length_map, ← hn, List.map_map, show ((fun x : ByteArray => x.data.toList) ∘ bst) = id by funext x; simp [bst], List.map_id] at hj
  obtain ⟨J, hJ⟩ : ∃ J, J = Lib.join ws [32] := ⟨_, rfl⟩
  have HJ := Lib.hid (show Calls Tryd.prog 37 #[.slice (some ⟨bk, o, none⟩) n c, .string { data := #[32] }] w fun e w' => e = .returned (.string (bst J)) ∧ Ext w w' by rw [hJ]; exact hj)
  have HL := Lib.hid (show lineT ws = J ++ [10] by rw [hJ]; rfl)
  rw [HL.out]
  have hJl : J.length ≤ 100000 := by rw [hJ]; exact hjl
  have HB := Lib.hid hb
  clear h hcs hj hJ hk hjl hn hb h0 h9
  go_enter Tryd.func35, Tryd.ntmps35
  go_wp2_with fail
  refine HJ.out.mono ?_
  rintro e w1 ⟨rfl, x1⟩
  have hb1 : Lib.IsBuilder 86 5 B b (Lib.byteCells bs) w1 := HB.out.ext x1
  have hs1 := x1.size
  have HS := Lib.hid (bld_string2 B b (Lib.byteCells bs) (bst J) w1 hb1 (by rw [Lib.byteCells_length, bst_size]; omega) (by omega))
  have X1 := Lib.hid (show Below B w w1 from Below.mono x1 hB)
  have K1 := Lib.hid (show KeptBut b w w1 from fun g o t hg _ _ => x1.block hg)
  clear hb1 x1
  go_wp2_with fail
  refine HS.out.mono ?_
  rintro e w2 ⟨rfl, h2, b2, k2⟩
  have X2 := Lib.hid (X1.out.trans b2)
  have K2 := Lib.hid (show KeptBut b w w2 from fun g o t hg h1 h2 => k2 g o t (K1.out g o t hg h1 h2) h1 h2)
  have hs2 := X2.out.size
  have HS2 := Lib.hid (bld_byte2 B b (Lib.byteCells bs ++ Lib.strCells (bst J)) 10 w2 h2 (by rw [List.length_append, Lib.byteCells_length, Lib.strCells_length, bst_size]; omega) (by omega))
  clear h2 b2 k2
  go_wp2_with fail
  refine HS2.out.mono ?_
  rintro e w3 ⟨rfl, h3, b3, k3⟩
  have X3 := Lib.hid (X2.out.trans b3)
  have K3 := Lib.hid (show KeptBut b w w3 from fun g o t hg h1 h2 => k3 g o t (K2.out g o t hg h1 h2) h1 h2)
  have HF := Lib.hid (show SB B b w3 (bs ++ (J ++ [10])) by
    unfold SB
    rw [← List.append_assoc, Lib.byteCells_append, Lib.byteCells_append]
    exact h3)
  clear h3 b3 k3
  go_wp2
  go_end0
  exact ⟨rfl, HF.out, X3.out, K3.out⟩
theorem KeptBut.b5 {b g : Nat} {w w' : World} {c : Xg} {t : TypeId} (k : KeptBut b w w') (h : B5 w g c t) (hg : g ≠ b) (ht : t ≠ 5) : B5 w' g c t := k g _ t h hg ht
def crossW : List UInt8 := [99, 114, 111, 115, 115]
def heldW : List UInt8 := [104, 101, 108, 100]
def fallenW : List UInt8 := [102, 97, 108, 108, 101, 110]
/-- The lines of a row before the n-th. -/
def rowP (y : Nat) (ls : List Lp) (n : Nat) : List UInt8 := ((List.range n).map fun i => lineT (descT ⟨(y : Int) + 1, (i : Nat)⟩ (li ls i))).flatten
def rowT (y : Nat) (ls : List Lp) : List UInt8 := rowP y ls ls.length
def tabP (t : Tab) (y : Nat) : List UInt8 := ((List.range y).map fun i => rowT i (yi t i)).flatten
def crW (c : Xg) : List (List UInt8) := [crossW, nameT c.a, nameT c.b, Lib.itoa c.n]
def crP (cr : List Xg) (k : Nat) : List UInt8 := ((cr.take k).map fun c => lineT (crW c)).flatten
def nmsT (word : List UInt8) (l : List Nm) : List UInt8 := if l = [] then [] else lineT (word :: l.map nameT)
def textB (f : Fab) : List UInt8 := tabP f.ys f.ys.length ++ crP f.cr f.cr.length ++ nmsT heldW f.held ++ nmsT fallenW f.fallen
def textT (f : Fab) : List UInt8 := if fchk f = 0 then textB f else []
theorem rowP_succ (y : Nat) (ls : List Lp) (n : Nat) : rowP y ls (n + 1) = rowP y ls n ++ lineT (descT ⟨(y : Int) + 1, (n : Nat)⟩ (li ls n)) := by
  unfold rowP; rw [List.range_succ, List.map_append, List.flatten_append]; simp
theorem tabP_succ (t : Tab) (y : Nat) : tabP t (y + 1) = tabP t y ++ rowT y (yi t y) := by
  unfold tabP; rw [List.range_succ, List.map_append, List.flatten_append]; simp
theorem crP_succ {cr : List Xg} {k : Nat} (h : k < cr.length) : crP cr (k + 1) = crP cr k ++ lineT (crW (xi cr k)) := by
  unfold crP; rw [xi_of h, List.take_succ_eq_append_getElem h, List.map_append, List.flatten_append]; simp
/-- A bound for so many lines. -/
def bd (n : Nat) : Nat := n * 100000
theorem bd_step {a x n : Nat} (h : a ≤ bd n) (hx : x ≤ 100000) : a + x ≤ bd (n + 1) := by unfold bd at *; rw [Nat.succ_mul]; exact Nat.add_le_add h hx
theorem bd_le {a n m : Nat} (h : a ≤ bd n) (hm : n ≤ m) : a ≤ bd m := Nat.le_trans h (Nat.mul_le_mul_right _ hm)
theorem bd_max {a n : Nat} (h : a ≤ bd n) (hn : n ≤ 200000) : a ≤ 100000000000 := Nat.le_trans (bd_le h hn) (by unfold bd; decide)
theorem itoa_le8 {n : Int} (h : -9223372036854775808 ≤ n ∧ n ≤ 9223372036854775807) : (Lib.itoa n).length ≤ 21 := Lib.itoa_length_le n h.1 h.2
theorem desc_le {a : Nm} {l : Lp} (ha : a.In) (hl : l.In) (h1 : l.thr.length ≤ 100) (h2 : l.past.length ≤ 1000) : (descT a l).length ≤ 1105 ∧ descT a l ≠ [] ∧ (lineT (descT a l)).length ≤ 100000 := by
  have hlen : (descT a l).length ≤ 1105 := by
    unfold descT d4T d3T d2T d1T
    simp only [List.length_append, List.length_cons, List.length_nil, List.length_map]
    split <;> split <;> split <;> simp <;> omega
  have hw : ∀ x ∈ descT a l, x.length ≤ 45 := fun x hx => by
    unfold descT at hx
    rcases List.mem_append.1 hx with hx | hx
    · unfold d4T at hx
      rcases List.mem_append.1 hx with hx | hx
      · unfold d3T at hx
        rcases List.mem_append.1 hx with hx | hx
        · unfold d2T at hx
          rcases List.mem_append.1 hx with hx | hx
          · unfold d1T at hx
            simp only [List.mem_cons, List.not_mem_nil, or_false] at hx
            rcases hx with rfl | rfl
            · have := nameT_len ha; omega
            · split <;> simp [backT, frontT]
          · split at hx
            · simp only [List.mem_cons, List.not_mem_nil, or_false] at hx; subst hx; simp [newT]
            · cases hx
        · split at hx
          · cases hx
          · rcases List.mem_cons.1 hx with rfl | hx
            · simp [throughT]
            · obtain ⟨z, hz, rfl⟩ := List.mem_map.1 hx
              have := nameT_len (hl.2.1 z hz); omega
      · split at hx
        · cases hx
        · simp only [List.mem_cons, List.not_mem_nil, or_false] at hx; subst hx; simp [pastT]
    · obtain ⟨p, hp, rfl⟩ := List.mem_map.1 hx
      have := nameT_len (hl.2.2 p hp).1
      unfold passT
      rw [List.length_append, List.length_append]
      split <;> split <;> simp <;> omega
  refine ⟨hlen, ?_, ?_⟩
  · unfold descT d4T d3T d2T d1T; simp
  · have h3 := lineT_le hw
    have h4 := Nat.mul_le_mul_right (45 + 1) hlen
    omega
theorem names_le {word : List UInt8} {l : List Nm} (hw : word.length ≤ 43) (hin : ∀ a ∈ l, a.In) (h9 : l.length ≤ 1000) : (lineT (word :: l.map nameT)).length ≤ 100000 := by
  have h3 := lineT_le (k := 43) (ws := word :: l.map nameT) fun x hx => by
    rcases List.mem_cons.1 hx with rfl | hx
    · exact hw
    · obtain ⟨z, hz, rfl⟩ := List.mem_map.1 hx
      exact nameT_len (hin z hz)
  rw [List.length_cons, List.length_map] at h3
  omega
theorem cr_le {c : Xg} (h : c.In) : (lineT (crW c)).length ≤ 100000 := by
  have h3 := lineT_le (k := 43) (ws := crW c) fun x hx => by
    unfold crW at hx
    simp only [List.mem_cons, List.not_mem_nil, or_false] at hx
    rcases hx with rfl | rfl | rfl | rfl
    · simp [crossW]
    · exact nameT_len h.1
    · exact nameT_len h.2.1
    · have := itoa_le8 h.2.2; omega
  have : (crW c).length = 4 := rfl
  omega
end Go.Proofs.YtlhkehfplcclgaaDoor
