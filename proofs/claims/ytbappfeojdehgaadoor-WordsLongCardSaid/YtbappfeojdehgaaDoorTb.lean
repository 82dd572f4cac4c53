/- Contract of words.Text. -/
import Derived.Test.YtbappfeojdehgaaDoorTa
import Derived.Test.YtbappfeojdehgaaDoorWc
import Derived.Test.YtbappfeojdehgaaDoorShelf
namespace Go.Proofs.YtbappfeojdehgaaDoor
set_option linter.unusedVariables false
set_option linter.unusedSimpArgs false
set_option maxRecDepth 8000
open Go Go.RowKit Go.Sort

/-- The table of powers of ten lies where strconv looks for it. -/
def PTab (w : World) : Prop := Lib.TabIs Tryd.prog w "internal/strconv.uint64pow10" .u64 Lib.pow10Tab
theorem PTab.ext {w w' : World} (h : PTab w) (hx : Ext w w') : PTab w' := by
  unfold PTab Lib.TabIs World.var? at h ⊢
  cases hg : Tryd.prog.globalNamed "internal/strconv.uint64pow10" with
  | none => simp [hg] at h
  | some g =>
    simp only [hg, Option.bind_some] at h ⊢
    have hlt : g < w.heap.size := by
      rcases Nat.lt_or_ge g w.heap.size with h' | h'
      · exact h'
      · rw [Array.getElem?_eq_none h'] at h; cases h
    rw [Below.block hx g hlt]
    exact h
theorem grow_ext (w : World) (k : Nat) (os : Array Obj) : Ext w (grow (w.drewN k) os) :=
  ⟨rfl, rfl, rfl, by show w.heap.size ≤ (w.heap ++ os).size; simp, fun j hj => by show (w.heap ++ os)[j]? = _; rw [Array.getElem?_append_left hj]⟩
theorem Itoa_calls (n : Int) (h : -100 ≤ n ∧ n ≤ 100) (w : World) (ht : PTab w) :
    Calls Tryd.prog 13 #[.int .i64 n] w fun e w' => e = .returned (.string ⟨(Lib.itoa n).toArray⟩) ∧ Ext w w' :=
  (Tryd.strconv_Itoa n (by omega) (by omega) w ht).mono fun e w' ⟨he, k, os, hw⟩ => ⟨he, hw ▸ grow_ext w k os⟩

/-- A row of strings of the call's own: the first k are laid. -/
def SRow (w wr : World) (N : Nat) (T : Nat → ByteArray) (k : Nat) : Prop :=
  Ext w wr ∧ ∃ f, wr.rowIs w.heap.size 9 N f ∧ ∀ j, f j = .string (if j < k then T j else ⟨#[]⟩)
theorem SRow.start (w : World) (N : Nat) (T : Nat → ByteArray) : SRow w (w.alloc (.cells (madeCells #[.string ⟨#[]⟩] N) 9)) N T 0 :=
  ⟨(Ext.refl w).alloc _, _, World.rowIs_made _ _ _ _, fun j => rfl⟩
theorem SRow.ext {w wr w' : World} {N : Nat} {T : Nat → ByteArray} {k : Nat} (h : SRow w wr N T k) (hx : Ext wr w') : SRow w w' N T k := by
  obtain ⟨h1, f, h2, h3⟩ := h
  exact ⟨h1.trans hx, f, h2.of_block (Below.block hx _ h2.lt), h3⟩
theorem SRow.next {w wr : World} {N : Nat} {T : Nat → ByteArray} {k : Nat} (h : SRow w wr N T k) : SRow w (wr.setCell ⟨w.heap.size, k, none⟩ (.string (T k))) N T (k + 1) := by
  obtain ⟨h1, f, h2, h3⟩ := h
  refine ⟨h1.setCell (Nat.le_refl _) _, _, h2.set _ _, fun j => ?_⟩
  by_cases e : j = k
  · subst e; rw [if_pos rfl, if_pos (by omega)]
  · show (if j = k then _ else f j) = _
    rw [if_neg e, h3 j]
    by_cases hj : j < k
    · rw [if_pos hj, if_pos (by omega)]
    · rw [if_neg hj, if_neg (by omega)]

set_option maxHeartbeats 2000000 in
theorem Text_calls (v : Value) (c : Nat) (xs : List Int) (w : World) (h : IS .i64 w v c xs) (hb : ∀ k ∈ xs, Lt7 k) (hl : xs.length ≤ 100) (ht : PTab w) :
    Calls Tryd.prog 8 #[v] w fun e w' => e = .returned (.string ⟨(txt xs).toArray⟩) ∧ Ext w w' := by
  obtain ⟨h1, h2, ao, rfl, hao⟩ := h.open
  by_cases h0 : xs = []
  · subst h0
    simp only [List.length_nil] at h1 hao ⊢
    clear hao h hb hl ht
    go_enter Tryd.func8, Tryd.ntmps8
    go_wp2
    go_ret
    exact ⟨rfl, Ext.refl _⟩
  · have hpos : 0 < xs.length := List.length_pos_iff.2 h0
    obtain ⟨b, o, rfl, hc⟩ : ∃ b o, ao = some ⟨b, o, none⟩ ∧ ∀ i, i < xs.length → w.cell? ⟨b, o + i, none⟩ = some (.int .i64 (gi xs i)) := by
      rcases hao with ⟨_, h0, _⟩ | h
      · omega
      · exact h
    have hlt7 := fun i (hi : i < xs.length) => hb _ (gi_mem hi)
    obtain ⟨T, hT⟩ : ∃ T : Nat → ByteArray, T = fun i => ⟨(Lib.itoa (gi xs i)).toArray⟩ := ⟨_, rfl⟩
    obtain ⟨S, hS⟩ : ∃ S : List ByteArray, S = xs.map fun k => ⟨(Lib.itoa k).toArray⟩ := ⟨_, rfl⟩
    have hSl : S.length = xs.length := by rw [hS]; simp
    have hST : ∀ (j : Nat) x, S[j]? = some x → j < xs.length ∧ x = T j := fun j x hj => by
      have hlt : j < xs.length := by
        rw [← hSl]; exact (List.getElem?_eq_some_iff.1 hj).1
      rw [hS, List.getElem?_map, gi_some hlt] at hj
      refine ⟨hlt, ?_⟩
      rw [hT]; exact (Option.some.inj hj).symm
    have hjoin : Lib.join (S.map (·.data.toList)) [32] = txt xs := by
      unfold txt
      rw [if_neg h0, hS, List.map_map]
      congr 1
    have hjl : (Lib.join (S.map (·.data.toList)) [32]).length ≤ 140737488355328 := by rw [hjoin]; have := txt_len hb; omega
    obtain ⟨N, hN⟩ : ∃ N, N = xs.length := ⟨_, rfl⟩
    rw [← hN] at h1 hl hpos hc hlt7 hSl hST ⊢
    have hTi : ∀ i, T i = ⟨(Lib.itoa (gi xs i)).toArray⟩ := fun i => by rw [hT]
    have hfin : ∀ wr, SRow w wr N T N → Calls Tryd.prog 23 #[.slice (some ⟨w.heap.size, 0, none⟩) N N, .string { data := #[32] }] wr fun e w' => e = .returned (.string ⟨(txt xs).toArray⟩) ∧ Ext wr w' := fun wr hr => by
      obtain ⟨r1, f, r2, r3⟩ := hr
      have hj := Tryd.strings_Join w.heap.size 0 N S { data := #[32] } wr (fun j x hj => by
        obtain ⟨hlt, rfl⟩ := hST j x hj
        rw [Nat.zero_add, r2.cell hlt, r3 j, if_pos hlt]) r2.lt (by omega) (by omega) hjl
      rw [hSl] at hj
      refine hj.mono ?_
      rintro e w' ⟨rfl, hx⟩
      exact ⟨by rw [show ({ data := #[32] } : ByteArray).data.toList = [32] from rfl, hjoin], hx⟩
    have HFin := Lib.hid hfin; have HC := Lib.hid hc; have HL := Lib.hid hlt7; have HT := Lib.hid ht; have HTi := Lib.hid hTi
    clear hfin hc hlt7 ht hTi hST hSl hjoin hjl hS hT hN h hb hao h0
    unfold maxLen at h2
    have hmk := run_make_row' (P := Tryd.prog) 46 9 (.string ⟨#[]⟩) 16 Tryd.underlying46 (by kernel_rfl) rfl .i64 .i64 N (by omega) (by omega)
    have hn0 : ((N : Int) == 0) = false := by rw [beq_eq_false_iff_ne]; omega
    go_enter Tryd.func8, Tryd.ntmps8
    go_wp2
    go_loopw [4, 5, 14] (fun _ _ i wr => ∃ k : Nat, k ≤ N ∧ i = .int .i64 k ∧ Hid (SRow w wr N T k)) (fun _ _ i _ => N - (intOf i).toNat)
    case atStart => exact ⟨0, Nat.zero_le _, rfl, Lib.hid (SRow.start w N T)⟩
    case round =>
      obtain ⟨k, hk, rfl, H⟩ := hrel
      by_cases hlt : k < N
      · have hck := H.out.1.cell (HC.out k hlt)
        have hL := HL.out k hlt
        have hcall := Itoa_calls (gi xs k) ⟨by have := hL.2.1; omega, by have := hL.2.2; omega⟩ wr (HT.out.ext H.out.1)
        rw [← HTi.out k] at hcall
        have HCL := Lib.hid hcall
        clear hcall hL
        go_wp2_with fail
        refine HCL.out.mono ?_
        rintro e w2 ⟨rfl, hx⟩
        have hr2 := H.out.ext hx
        have HN := Lib.hid hr2.next
        obtain ⟨_, f, hrow, hf⟩ := hr2
        have hst := hrow.cell (i := k) (by omega)
        have hfz := hrow.frozen k
        rw [hf k] at hst
        clear hrow hf hx HCL
        go_wp2
        go_roundw
        case rel => exact ⟨k + 1, by omega, by go_num, HN⟩
        case measure => simp [intOf]; omega
      · obtain rfl : k = N := by omega
        go_wp2_with fail
        refine (HFin.out _ H.out).mono ?_
        rintro e w2 ⟨rfl, hx⟩
        have HX := Lib.hid hx
        clear hx
        go_wp2
        go_ret
        exact ⟨rfl, H.out.1.trans HX.out⟩
end Go.Proofs.YtbappfeojdehgaaDoor
