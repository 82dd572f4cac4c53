/- Contract of Links. -/
import Derived.Test.YtbappfeojdehgaaWh
namespace Go.Proofs.Ytbappfeojdehgaa
set_option linter.unusedVariables false
set_option linter.unusedSimpArgs false
set_option maxRecDepth 8000
open Go Go.RowKit

/-! ### the sums of the crossings -/
/-- What one crossing makes of the sums. -/
def lnkStep (L : Nat → Nat → Int) (a b : Nat) (s : Int) (i j : Nat) : Int :=
  L i j + (if i = a ∧ j = b then s else 0) + (if i = b ∧ j = a then s else 0)
def sA (n : Nat) (xs : List Int) (k : Nat) : Nat := (gi (fol n (xs.take k)) (lft (gi xs k))).toNat
def sB (n : Nat) (xs : List Int) (k : Nat) : Nat := (gi (fol n (xs.take k)) (lft (gi xs k) + 1)).toNat
def lnk (n : Nat) (xs : List Int) : Nat → Nat → Nat → Int
  | 0 => fun _ _ => 0
  | k + 1 => lnkStep (lnk n xs k) (sA n xs k) (sB n xs k) (sgn (gi xs k))
def linksOf (n : Nat) (xs : List Int) : List (List Int) := (List.range n).map fun i => (List.range n).map fun j => lnk n xs xs.length i j

theorem sgn_bd (k : Int) : -1 ≤ sgn k ∧ sgn k ≤ 1 := by
  by_cases h : k < 0
  · rw [sgn_neg h]; omega
  · rw [sgn_pos h]; omega
theorem lnk_bd (n : Nat) (xs : List Int) (k i j : Nat) : -(2 * (k : Int)) ≤ lnk n xs k i j ∧ lnk n xs k i j ≤ 2 * k := by
  induction k generalizing i j with
  | zero => simp [lnk]
  | succ k ih =>
    have h1 := ih i j
    have h2 := sgn_bd (gi xs k)
    show _ ≤ lnkStep _ _ _ _ i j ∧ lnkStep _ _ _ _ i j ≤ _
    unfold lnkStep
    split <;> split <;> omega

/-- Different places hold different strands. -/
def Inj (a : List Int) : Prop := ∀ i j, i < a.length → j < a.length → gi a i = gi a j → i = j
theorem inj_swp {a : List Int} {l : Nat} (h : Inj a) (hl : l + 1 < a.length) : Inj (swp a l) := by
  intro i j hi hj he
  rw [swp_len] at hi hj
  rw [gi_swp _ _ _ hl, gi_swp _ _ _ hl] at he
  repeat' split at he
  all_goals first | (have := h _ _ (by omega) (by omega) he; omega)
theorem inj_fol {n : Nat} {xs : List Int} (h : ∀ i, i < xs.length → wbad n (gi xs i) = false) (h1 : 1 ≤ n) (h8 : n ≤ 8) : ∀ k, k ≤ xs.length → Inj (fol n (xs.take k)) := by
  intro k
  induction k with
  | zero => intro _ i j hi hj he; simp only [List.take_zero, fol, List.foldl_nil] at hi hj he; rw [gi_of_lt hi, gi_of_lt hj] at he; simp at he; omega
  | succ k ih =>
    intro hk
    rw [take_succ_gi (by omega), fol_snoc]
    exact inj_swp (ih (by omega)) (by have := lft_bd (by omega) (by omega) (h k (by omega)); rw [fol_len]; omega)

/-- The table of the sums in memory: the outer row at block B, its rows behind the block of the variable. -/
structure Tab (w : World) (B n : Nat) (L : Nat → Nat → Int) : Prop where
  var : w.heap[B + 1]? = some (.cells #[.slice (some ⟨B, 0, none⟩) n n] 34 (0, 0))
  outer : w.rowIs B 25 n (fun i => .slice (some ⟨B + 2 + i, 0, none⟩) n n)
  rows : ∀ i, i < n → w.rowIs (B + 2 + i) 3 n (fun j => .int .i64 (L i j))

theorem Links1_calls (a b n B : Nat) (s : Int) (L : Nat → Nat → Int) (w : World) (h : Tab w B n L) (ha : a < n) (hb : b < n) (hab : a ≠ b) (hs : -1 ≤ s ∧ s ≤ 1) (hL : ∀ i j, -1000 ≤ L i j ∧ L i j ≤ 1000) (hn : n ≤ 8) :
    Calls Try.prog 38 #[.int .i64 a, .int .i64 b, .int .i64 s, .pointer (some ⟨B + 1, 0, none⟩)] w fun e w' => e = .returned (.tuple #[]) ∧ w' = (w.setCell ⟨B + 2 + a, b, none⟩ (.int .i64 (L a b + s))).setCell ⟨B + 2 + b, a, none⟩ (.int .i64 (L b a + s)) := by
  have c0 := cell_of_one h.var
  have c1 := h.outer.cell (i := a) ha
  have c2 := h.outer.cell (i := b) hb
  have c3 := (h.rows a ha).cell (i := b) hb
  have c4 := (h.rows b hb).cell (i := a) ha
  have f1 := (h.rows a ha).frozen b
  have f2 := (h.rows b hb).frozen a
  obtain ⟨h1, h2⟩ := hs
  obtain ⟨l1, l2⟩ := hL a b
  obtain ⟨l3, l4⟩ := hL b a
  clear hL h
  have hab' : b ≠ a := Ne.symm hab
  go_enter Try.func38, Try.ntmps38
  go_wp2
  go_end0
  exact ⟨rfl, rfl⟩

theorem Tab.congr {w : World} {B n : Nat} {L L' : Nat → Nat → Int} (h : Tab w B n L) (e : ∀ i j, i < n → j < n → L i j = L' i j) : Tab w B n L' :=
  ⟨h.var, h.outer, fun i hi => (h.rows i hi).congr fun j hj => by rw [e i j hi hj]⟩
theorem Tab.keep {w w' : World} {B n : Nat} {L : Nat → Nat → Int} (h : Tab w B n L) (hb : ∀ k, k < B + 2 + n → w'.heap[k]? = w.heap[k]?) : Tab w' B n L :=
  ⟨(hb _ (by omega)).trans h.var, h.outer.of_block (hb _ (by omega)), fun i hi => (h.rows i hi).of_block (hb _ (by omega))⟩
theorem Tab.step {w : World} {B n : Nat} {L : Nat → Nat → Int} (h : Tab w B n L) {a b : Nat} {s : Int} (ha : a < n) (hb : b < n) (hab : a ≠ b) :
    Tab ((w.setCell ⟨B + 2 + a, b, none⟩ (.int .i64 (L a b + s))).setCell ⟨B + 2 + b, a, none⟩ (.int .i64 (L b a + s))) B n (lnkStep L a b s) := by
  refine ⟨?_, (h.outer.setOther (by simp; omega) _).setOther (by simp; omega) _, fun i hi => ?_⟩
  · rw [Below.heap_setCell _ _ _ _ (by simp; omega), Below.heap_setCell _ _ _ _ (by simp; omega)]; exact h.var
  · by_cases e1 : i = a
    · subst e1
      refine (((h.rows i hi).set b _).setOther (by simp; omega) _).congr fun j hj => ?_
      unfold lnkStep
      by_cases e2 : j = b
      · subst e2; rw [if_pos rfl, if_pos ⟨rfl, rfl⟩, if_neg (by omega)]; simp
      · rw [if_neg e2, if_neg (by omega), if_neg (by omega)]; simp
    · by_cases e2 : i = b
      · subst e2
        refine (((h.rows i hi).setOther (by simp; omega) _).set a _).congr fun j hj => ?_
        unfold lnkStep
        by_cases e3 : j = a
        · subst e3; rw [if_pos rfl, if_neg (by omega), if_pos ⟨rfl, rfl⟩]; simp
        · rw [if_neg e3, if_neg (by omega), if_neg (by omega)]; simp
      · refine (((h.rows i hi).setOther (by simp; omega) _).setOther (by simp; omega) _).congr fun j hj => ?_
        unfold lnkStep
        rw [if_neg (by omega), if_neg (by omega)]; simp

theorem Links_bad (n : Int) (v : Value) (c : Nat) (xs : List Int) (w : World) (h : IS .i64 w v c xs) (hw : wcheck n xs ≠ 0) :
    Calls Try.prog 22 #[.int .i64 n, v] w (RetXE .i64 w 0 [] (wcheck n xs)) := by
  have hne : (wcheck n xs != 0) = true := by simpa using hw
  go_enter Try.func22, Try.ntmps22
  go_wp2_with fail
  refine (Check_calls _ _ _ _ _ h).mono ?_
  rintro e w1 ⟨rfl, rfl⟩
  go_wp2
  go_ret2
  exact ⟨_, rfl, ISX.nil _ _, Ext.refl _⟩

/-- While the rows are made. -/
structure Half (w0 wr : World) (n k : Nat) : Prop where
  ext : Below w0.heap.size w0 wr
  size : wr.heap.size = w0.heap.size + 2 + k
  var : wr.heap[w0.heap.size + 1]? = some (.cells #[.slice (some ⟨w0.heap.size, 0, none⟩) n n] 34 (0, 0))
  outer : ∃ f, wr.rowIs w0.heap.size 25 n f ∧ ∀ i, i < k → f i = .slice (some ⟨w0.heap.size + 2 + i, 0, none⟩) n n
  rows : ∀ i, i < k → wr.rowIs (w0.heap.size + 2 + i) 3 n (fun _ => .int .i64 0)

theorem Half.next {w0 wr : World} {n k : Nat} (h : Half w0 wr n k) (hk : k < n) : Half w0 ((wr.alloc (.cells (madeCells #[.int .i64 0] n) 3)).setCell ⟨w0.heap.size, k, none⟩ (.slice (some ⟨wr.heap.size, 0, none⟩) n n)).drew n (k + 1) := by
  obtain ⟨f, hf, hf2⟩ := h.outer
  have hs := h.size
  refine ⟨((h.ext.alloc h.ext.size _).setCell (Nat.le_refl _) _).drew, ?_, ?_, ⟨_, ((hf.alloc _).set k _).drew, fun i hi => ?_⟩, fun i hi => ?_⟩
  · show ((wr.alloc _).setCell _ _).heap.size = _
    rw [World.size_setCell, World.size_alloc, hs]; omega
  · show ((wr.alloc _).setCell _ _).heap[_]? = _
    rw [Below.heap_setCell _ _ _ _ (by simp), Below.heap_alloc _ _ _ (by omega)]; exact h.var
  · by_cases e : i = k
    · subst e; rw [if_pos rfl, hs]
    · rw [if_neg e]; exact hf2 i (by omega)
  · by_cases e : i = k
    · subst e
      have := (World.rowIs_made wr (.int .i64 0) n 3)
      rw [hs] at this
      exact (this.setOther (by simp; omega) _).drew
    · exact (((h.rows i (by omega)).alloc _).setOther (by simp; omega) _).drew

theorem Links_calls (n : Nat) (v : Value) (c : Nat) (xs : List Int) (w : World) (h : IS .i64 w v c xs) (hw : wcheck n xs = 0) :
    Calls Try.prog 22 #[.int .i64 n, v] w (RetXE .i64 w n (linksOf n xs) 0) := by
  have hcall := Check_calls n v c xs w h
  have hz := wcheck_zero hw
  rw [hw] at hcall
  have Hcall := Lib.hid hcall; clear hcall
  obtain ⟨z1, z2, z3, z4⟩ := hz
  have Hz4 := Lib.hid z4
  clear hw z4
  have hmk1 := run_make_row' (P := Try.prog) 34 25 (.slice none 0 0) 24 Try.underlying34 (by kernel_rfl) rfl .i64 .i64 n (by omega) (by omega)
  have hmk2 := run_make_row' (P := Try.prog) 25 3 (.int .i64 0) 8 Try.underlying25 (by kernel_rfl) rfl .i64 .i64 n (by omega) (by omega)
  go_enter Try.func22, Try.ntmps22
  go_wp2_with fail
  refine Hcall.out.mono ?_
  rintro e w1 ⟨rfl, rfl⟩
  go_wp2
  go_loopw [8, 19] (fun _ i wr => ∃ k : Nat, k ≤ n ∧ i = .int .i64 k ∧ Half w wr n k) (fun _ i _ => n - (intOf i).toNat)
  case atStart =>
    refine ⟨0, Nat.zero_le _, rfl, ((Below.refl _ _).alloc (Nat.le_refl _) _).alloc (by simp) _, by simp, ?_, ⟨_, (World.rowIs_made _ _ _ _).alloc _, fun i hi => by omega⟩, fun i hi => by omega⟩
    have := Deep.blk_alloc_new (w.alloc (Obj.cells (madeCells #[Value.slice none 0 0] n) 25)) (Obj.cells #[Value.slice (some { block := w.heap.size, off := 0 }) n n] 34)
    simpa using this
  case round =>
    obtain ⟨k, hk, rfl, hh⟩ := hrel
    by_cases hlt : k < n
    · have hc0 := cell_of_one hh.var
      obtain ⟨f, hrow, _⟩ := hh.outer
      have hc1 := hrow.cell (i := k) hlt
      have hf1 := hrow.frozen k
      have hc0' : ∀ o, (wr.alloc o).cell? ⟨w.heap.size + 1, 0, none⟩ = some (.slice (some ⟨w.heap.size, 0, none⟩) n n) := cell_alloc hc0
      have hc1' : ∀ o, (wr.alloc o).cell? ⟨w.heap.size, k, none⟩ = some (f k) := cell_alloc hc1
      have hf1' : ∀ o, (wr.alloc o).frozen? ⟨w.heap.size, k, none⟩ = false := fun o => (hrow.alloc o).frozen k
      have Hh := Lib.hid hh
      clear hh hrow
      go_wp2
      go_region
      all_goals
        go_wp2
        go_roundw
        case rel => exact ⟨k + 1, by omega, by go_num, Hh.out.next hlt⟩
        case measure => simp [intOf]; omega
    · obtain rfl : k = n := by omega
      have hsz : wr.heap.size = w.heap.size + 2 + k := hh.size
      have Hh := Lib.hid hh
      have Hsz := Lib.hid hsz
      obtain ⟨wo, rfl⟩ : ∃ wo : World, wo = wr := ⟨_, rfl⟩
      clear hh hsz
      go_wp2_with fail
      refine (follow_Links k v c xs (w.heap.size + 1) wo (fun j wr => Below w.heap.size w wr ∧ Tab wr w.heap.size k (lnk k xs j)) (fun j wr hr => h.ext hr.1) ⟨Hh.out.ext, ?tab⟩ ?st ?step (by omega) (by omega) z3 Hz4.out).mono ?_
      case tab =>
        obtain ⟨f, hf, hf2⟩ := Hh.out.outer
        exact ⟨Hh.out.var, hf.congr hf2, Hh.out.rows⟩
      case st =>
        rintro j wr w' ⟨hb, hc⟩ hb'
        exact ⟨hb.trans (hb'.mono (by rw [Hsz.out]; omega)), hc.keep fun q hq => hb'.block _ (by rw [Hsz.out]; exact hq)⟩
      case step =>
        rintro j wr hj ⟨hb, hc⟩
        have hl := lft_bd (by omega) (by omega) (Hz4.out j hj)
        have hbd := fol_bd Hz4.out (by omega) (by omega) j (by omega)
        have ha := hbd (lft (gi xs j)) (by omega)
        have hb2 := hbd (lft (gi xs j) + 1) (by omega)
        have hab : sA k xs j ≠ sB k xs j := by
          intro he
          unfold sA sB at he
          have := inj_fol Hz4.out (by omega) (by omega) j (by omega) (lft (gi xs j)) (lft (gi xs j) + 1) (by rw [fol_len]; omega) (by rw [fol_len]; omega) (by omega)
          omega
        have e1 : gi (fol k (xs.take j)) (lft (gi xs j)) = (sA k xs j : Int) := by unfold sA; omega
        have e2 : gi (fol k (xs.take j)) (lft (gi xs j) + 1) = (sB k xs j : Int) := by unfold sB; omega
        rw [e1, e2]
        refine (Links1_calls (sA k xs j) (sB k xs j) k w.heap.size _ (lnk k xs j) wr hc (by omega) (by omega) hab (sgn_bd _) (fun i i' => by have := lnk_bd k xs j i i'; omega) (by omega)).mono ?_
        rintro e w' ⟨rfl, rfl⟩
        refine ⟨rfl, ⟨(hb.setCell (by simp; omega) _).setCell (by simp; omega) _, hc.step (by omega) (by omega) hab⟩, ((Above.refl _ _).setCell (by simp; rw [Hsz.out]; omega) _).setCell (by simp; rw [Hsz.out]; omega) _⟩
      · rintro e w2 ⟨rfl, ⟨hb, hc⟩, hv, _⟩
        have hcell := cell_of_one hc.var
        have Hc := Lib.hid hc
        clear hc hv
        go_wp2
        go_ret2
        refine ⟨_, rfl, ISX.of_row Hc.out.outer (by unfold linksOf; simp) (by unfold maxLen; omega) fun i hi => ?_, hb⟩
        have hr : ri (linksOf k xs) i = (List.range k).map fun j => lnk k xs xs.length i j := by unfold linksOf; rw [ri_range_map _ hi]
        rw [hr]
        have := IS.of_row (k := .i64) (xs := (List.range k).map fun j => lnk k xs xs.length i j) (Hc.out.rows i hi) (by simp) (by unfold maxLen; omega) (fun j hj => by rw [gi_range_map _ hj])
        simpa using this

end Go.Proofs.Ytbappfeojdehgaa
