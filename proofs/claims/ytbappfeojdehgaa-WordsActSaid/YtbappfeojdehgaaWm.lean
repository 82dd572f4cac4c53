/- Contract of Act: the walk. -/
import Derived.Test.YtbappfeojdehgaaWl
namespace Go.Proofs.Ytbappfeojdehgaa
set_option linter.unusedVariables false
set_option linter.unusedSimpArgs false
set_option maxRecDepth 8000
open Go Go.RowKit

theorem set_ri {rows : List (List Int)} {k : Nat} (h : k < rows.length) : rows.set k (ri rows k) = rows := by
  apply ri_ext (by simp)
  intro i hi
  rw [ri_set _ _ _ _ h]
  split
  · rename_i e; rw [e]
  · rfl

theorem one_cell (x : Value) : ∀ i, i < (#[x] : Array Value).size → (#[x] : Array Value)[i]? = some x := by
  intro j hj
  have : j = 0 := by simpa using hj
  subst this; rfl

/-- While the first images are made. -/
structure Half1 (w0 wr : World) (n k : Nat) : Prop where
  ext : Below w0.heap.size w0 wr
  size : wr.heap.size = w0.heap.size + 2 + k
  var : wr.heap[w0.heap.size + 1]? = some (.cells #[.slice (some ⟨w0.heap.size, 0, none⟩) n n] 34 (0, 0))
  outer : ∃ f, wr.rowIs w0.heap.size 25 n f ∧ ∀ i, i < k → f i = .slice (some ⟨w0.heap.size + 2 + i, 0, none⟩) 1 1
  rows : ∀ i, i < k → wr.rowIs (w0.heap.size + 2 + i) 3 1 (fun _ => .int .i64 ((i : Int) + 1))

theorem Half1.next {w0 wr : World} {n k : Nat} (h : Half1 w0 wr n k) (hk : k < n) : Half1 w0 ((wr.alloc (.cells #[.int .i64 ((k : Int) + 1)] 3)).setCell ⟨w0.heap.size, k, none⟩ (.slice (some ⟨wr.heap.size, 0, none⟩) 1 1)) n (k + 1) := by
  obtain ⟨f, hf, hf2⟩ := h.outer
  have hs := h.size
  refine ⟨(h.ext.alloc h.ext.size _).setCell (Nat.le_refl _) _, ?_, ?_, ⟨_, (hf.alloc _).set k _, fun i hi => ?_⟩, fun i hi => ?_⟩
  · show ((wr.alloc _).setCell _ _).heap.size = _
    rw [World.size_setCell, World.size_alloc, hs]; omega
  · show ((wr.alloc _).setCell _ _).heap[_]? = _
    rw [Below.heap_setCell _ _ _ _ (by simp), Below.heap_alloc _ _ _ (by omega)]; exact h.var
  · by_cases e : i = k
    · subst e; rw [if_pos rfl, hs]
    · rw [if_neg e]; exact hf2 i (by omega)
  · by_cases e : i = k
    · subst e
      have := World.rowIs_alloc wr #[.int .i64 ((i : Int) + 1)] 3 (fun _ => .int .i64 ((i : Int) + 1)) (one_cell _)
      rw [hs] at this
      exact this.setOther (by simp; omega) _
    · exact ((h.rows i (by omega)).alloc _).setOther (by simp; omega) _

theorem Half1.img {w0 wr : World} {n : Nat} (h : Half1 w0 wr n n) : Img wr w0.heap.size n (fun i => .slice (some ⟨w0.heap.size + 2 + i, 0, none⟩) 1 1) (start n) := by
  obtain ⟨f, hf, hf2⟩ := h.outer
  refine ⟨by unfold start; simp, h.var, hf.congr hf2, fun i hi => ⟨1, ?_, NN.mk⟩⟩
  have hr : ri (start n) i = [(i : Int) + 1] := by unfold start; rw [ri_range_map _ hi]
  rw [hr]
  exact IS.of_row (h.rows i hi) (by simp) (by unfold maxLen; omega) fun j hj => by
    have : j = 0 := by omega
    subst this; rw [gi_cons_zero]

theorem Act_calls (n : Nat) (v : Value) (c : Nat) (xs : List Int) (w : World) (h : IS .i64 w v c xs) (hw : wcheck n xs = 0) (hfit : fits n xs) :
    Calls Try.prog 18 #[.int .i64 n, v] w (RetXE .i64 w n (actRows n xs) 0) := by
  have hcall := Check_calls n v c xs w h
  have hz := wcheck_zero hw
  rw [hw] at hcall
  have Hcall := Lib.hid hcall; clear hcall
  obtain ⟨z1, z2, z3, z4⟩ := hz
  have hokr := fun k hk => act_okr z4 (by omega) (by omega) k hk (fun j hj => hfit j (by omega))
  have hIS := fun w' e => IS.ext (w' := w') h e
  obtain ⟨R, hR⟩ : ∃ R : Nat → List (List Int), R = fun k => actRows n (xs.take k) := ⟨_, rfl⟩
  have hR0 : R 0 = start n := by rw [hR]; simp [actRows]
  have hRs : ∀ k, k < xs.length → R (k + 1) = letterRows (R k) (gi xs k) := by rw [hR]; intro k hk; simp only []; rw [take_succ_gi hk, actRows_snoc]
  have hRN : R xs.length = actRows n xs := by rw [hR]; simp
  have hRl : ∀ k, (R k).length = n := by rw [hR]; intro k; exact actRows_len _ _
  have hokr' : ∀ k, k ≤ xs.length → ∀ i, i < n → Okr 262144 (ri (R k) i) := by rw [hR]; exact hokr
  have hfit' : ∀ k, k < xs.length → letterLen (R k) (gi xs k) ≤ 262144 := by rw [hR]; exact hfit
  obtain ⟨h1, h2, ao, rfl, hao⟩ := h.open
  obtain ⟨N, hN⟩ : ∃ N, N = xs.length := ⟨_, rfl⟩
  rw [← hN] at hao h1 z3 z4 hRs hRN hokr' hfit' Hcall ⊢
  clear h hN hokr hfit hw hR hIS
  have Hz4 := Lib.hid z4; have HR0 := Lib.hid hR0; have HRs := Lib.hid hRs; have HRN := Lib.hid hRN; have HRl := Lib.hid hRl; have Hok := Lib.hid hokr'; have Hfit := Lib.hid hfit'
  clear z4 hR0 hRs hRN hRl hokr' hfit'
  unfold maxLen at h2
  have hmk1 := run_make_row' (P := Try.prog) 34 25 (.slice none 0 0) 24 Try.underlying34 (by kernel_rfl) rfl .i64 .i64 n (by omega) (by omega)
  go_enter Try.func18, Try.ntmps18
  go_wp2_with fail
  refine Hcall.out.mono ?_
  rintro e w1 ⟨rfl, rfl⟩
  go_wp2
  go_loopw [8, 24] (fun _ i wr => ∃ k : Nat, k ≤ n ∧ i = .int .i64 k ∧ Half1 w wr n k) (fun _ i _ => n - (intOf i).toNat)
  case atStart =>
    refine ⟨0, Nat.zero_le _, rfl, ((Below.refl _ _).alloc (Nat.le_refl _) _).alloc (by simp) _, by simp, ?_, ⟨_, (World.rowIs_made _ _ _ _).alloc _, fun i hi => by omega⟩, fun i hi => by omega⟩
    have := Deep.blk_alloc_new (w.alloc (Obj.cells (madeCells #[Value.slice none 0 0] n) 25)) (Obj.cells #[Value.slice (some { block := w.heap.size, off := 0 }) n n] 34)
    simpa using this
  case round =>
    obtain ⟨k, hk, rfl, hh⟩ := hrel
    by_cases hlt : k < n
    · have hc0 := cell_of_one hh.var
      obtain ⟨f, hrow, _⟩ := hh.outer
      have hc1 := hrow.cell (i := k) hlt
      have hf1 := hrow.frozen k
      have hc0' : ∀ o, (wr.alloc o).cell? ⟨w.heap.size + 1, 0, none⟩ = some (.slice (some ⟨w.heap.size, 0, none⟩) n n) := cell_alloc hc0
      have hc1' : ∀ o, (wr.alloc o).cell? ⟨w.heap.size, k, none⟩ = some (f k) := cell_alloc hc1
      have hf1' : ∀ o, (wr.alloc o).frozen? ⟨w.heap.size, k, none⟩ = false := fun o => (hrow.alloc o).frozen k
      have Hh := Lib.hid hh
      clear hh hrow
      go_wp2
      go_roundw
      case rel => exact ⟨k + 1, by omega, by go_num, Hh.out.next hlt⟩
      case measure => simp [intOf]; omega
    · have hkn : k = n := by omega
      rw [hkn] at hh
      have Hh := Lib.hid hh
      clear hh hkn
      obtain ⟨wo, rfl⟩ : ∃ wo : World, wo = wr := ⟨_, rfl⟩
      have Him := Lib.hid (show ∃ vs, Img wo w.heap.size n vs (R 0) from ⟨_, by rw [HR0.out]; exact Hh.out.img⟩)
      go_wp2
      go_loopw [11, 37] (fun _ i wr => ∃ k : Nat, k ≤ N ∧ i = .int .i64 k ∧ Below w.heap.size w wr ∧ Hid (∃ vs, Img wr w.heap.size n vs (R k))) (fun _ i _ => N - (intOf i).toNat)
      case atStart => exact ⟨0, Nat.zero_le _, rfl, Hh.out.ext, Him⟩
      case round =>
        obtain ⟨k, hk, rfl, hbel, Himg⟩ := hrel
        by_cases hlt : k < N
        · obtain ⟨b, o, rfl, hc⟩ : ∃ b o, ao = some ⟨b, o, none⟩ ∧ ∀ i, i < N → w.cell? ⟨b, o + i, none⟩ = some (.int .i64 (gi xs i)) := by
            rcases hao with ⟨_, h0, _⟩ | h
            · omega
            · exact h
          have hck : wr.cell? ⟨b, o + k, none⟩ = some (.int .i64 (gi xs k)) := Ext.cell hbel (hc k hlt)
          clear hc hao
          have HC := Lib.hid (show ∃ vs, Img wr w.heap.size n vs (R k) from Himg.out)
          have hf := Hfit.out k hlt
          obtain ⟨m, hm⟩ : ∃ m, m = letterLen (R k) (gi xs k) := ⟨_, rfl⟩
          rw [← hm] at hf
          have hcall : Calls Try.prog 33 #[.int .i64 (gi xs k), .pointer (some ⟨w.heap.size + 1, 0, none⟩)] wr (RetA w.heap.size n wr (R (k + 1)) m) := by
            obtain ⟨vs, hi⟩ := HC.out
            rw [HRs.out k hlt, hm]
            exact Act1_calls (gi xs k) w.heap.size n vs (R k) wr hi (Hz4.out k hlt) (by omega) (by omega) (Hok.out k (by omega))
          have Hcl := Lib.hid hcall
          clear hcall hm
          go_wp2_with fail
          refine Hcl.out.mono ?_
          rintro e w2 ⟨rfl, him, hb2⟩
          have Him2 := Lib.hid him
          clear him
          go_wp2
          go_roundw
          case rel => exact ⟨k + 1, by omega, by go_num, hbel.trans hb2, Him2⟩
          case measure => simp [intOf]; omega
        · have hkn : k = N := by omega
          obtain ⟨vs, him⟩ := Himg.out
          rw [hkn, HRN.out] at him
          have hc0 := cell_of_one him.var
          have Him := Lib.hid him
          clear him hkn
          obtain ⟨wp, rfl⟩ : ∃ wp : World, wp = wr := ⟨_, rfl⟩
          have Hokn := Lib.hid (fun i hi => by have := Hok.out N (Nat.le_refl _) i hi; rw [HRN.out] at this; exact this : ∀ i, i < n → Okr 262144 (ri (actRows n xs) i))
          obtain ⟨rows, hrows⟩ : ∃ rows, rows = actRows n xs := ⟨_, rfl⟩
          rw [← hrows] at Him Hokn
          have Hrows := Lib.hid hrows
          clear hrows Himg
          go_wp2
          go_loopw [12, 13, 48] (fun _ _ i wr => ∃ k : Nat, k ≤ n ∧ i = .int .i64 k ∧ Below w.heap.size w wr ∧ Hid (∃ vs, Img wr w.heap.size n vs rows ∧ ∀ i, i < k → IS .i64 wr (vs i) (ri rows i).length (ri rows i))) (fun _ _ i _ => n - (intOf i).toNat)
          case atStart => exact ⟨0, Nat.zero_le _, rfl, hbel, ⟨vs, Him.out, fun i hi => by omega⟩⟩
          case round =>
            obtain ⟨k, hk, rfl, hbel, Hv⟩ := hrel
            by_cases hlt : k < n
            · obtain ⟨vs, him, hcap⟩ := Hv.out
              obtain ⟨ci, hci, nci⟩ := him.rows k hlt
              have hok := Hokn.out k hlt
              obtain ⟨_, _, bi, fi, hvi, _⟩ := hci.nn nci
              have hc0 := cell_of_one him.var
              have hc1 := him.outer.cell (i := k) hlt
              have hBl : w.heap.size + 1 < wr.heap.size := lt_of_block him.var
              obtain ⟨m, hm⟩ : ∃ m, m = (ri rows k).length := ⟨_, rfl⟩
              have hm2 : m ≤ 262144 := by rw [hm]; exact hok.1
              rw [← hm] at hvi
              rw [hvi] at hc1 hci
              have Hm := Lib.hid hm; have Hci := Lib.hid hci; have Him3 := Lib.hid him; have Hcap := Lib.hid hcap; have Hvi := Lib.hid hvi
              clear him hcap hci nci hok hvi hm Hv
              have e1 : (0 : Int) ≤ (k : Int) := by omega
              have e2 : (k : Int) < n := by omega
              have hmk2 := run_make_cap (P := Try.prog) eiInt .i64 .i64 m (by omega) (by omega)
              go_wp2
              go_region_held3 (fun w' => w'.cell? ⟨w.heap.size + 1, 0, none⟩ = some (.slice (some ⟨w.heap.size, 0, none⟩) n n)) (first | assumption | (exact cell_alloc hc0 _) | go_keep) (first
                | (refine step_app_fits eiInt (by rfl) _ _ (by rfl) wr.heap.size wr.heap.size 0 m [] (by rfl) (World.ownsRow.drew (World.ownsRow_made wr (madeCells #[.int .i64 0] m) m (Nat.le_refl _) (by unfold maxLen; omega) (by simp [size_madeCells]))) _ ci ((ri rows k).map (Value.int .i64)) (by rfl) (IS.ext Hci.out (((Ext.refl wr).alloc _).drew)) (onesI (ri rows k)) (by have := Hm.out; simp; omega) (by show _ ≤ (wr.alloc _).heap.size; rw [World.size_alloc]; omega) ?_; intro w4 hown hb4; have Hown := Lib.hid hown; have Hb4 := Lib.hid hb4; clear hown hb4; have x4 : Ext wr w4 := Below.trans (((Ext.refl wr).alloc _).drew) Hb4.out; have X4 := Lib.hid x4; have s1 : w4.cell? ⟨w.heap.size + 1, 0, none⟩ = _ := X4.out.cell hc0; have s2 : w4.cell? ⟨w.heap.size, k, none⟩ = _ := X4.out.cell hc1; have s3 : w4.frozen? ⟨w.heap.size, k, none⟩ = false := (X4.out.row Him3.out.outer).frozen _; clear x4))
              all_goals
                go_wp2
                go_roundw
                case rel =>
                  have hown := Hown.out
                  rw [List.length_map, Nat.zero_add, List.nil_append] at hown
                  obtain ⟨c5, h5⟩ := IS.of_own hown
                  obtain ⟨_, h6, _⟩ := h5.len
                  subst h6
                  have hp := (Him3.out.ext X4.out).put (i := k) hlt h5 NN.mk
                  rw [set_ri (by rw [Him3.out.len]; exact hlt)] at hp
                  refine ⟨k + 1, by omega, by go_num, (Ext.below hbel hbel.size X4.out).setCell (p := ⟨w.heap.size, k, none⟩) (Nat.le_refl _) _, _, hp, fun i hi => ?_⟩
                  by_cases e : i = k
                  · subst e
                    simp only [if_true]
                    have := h5.setSlice (X4.out.row Him3.out.outer) Him3.out.slices i (.slice (some ⟨wr.heap.size, 0, none⟩) (ri rows i).length m)
                    rw [← Hm.out] at this ⊢
                    exact this
                  · simp only [e, if_false]
                    exact ((Hcap.out i (by omega)).ext X4.out).setSlice (X4.out.row Him3.out.outer) Him3.out.slices _ _
                case measure => simp [intOf]; omega
            · obtain ⟨vs, him, hcap⟩ := Hv.out
              have hkn : k = n := by omega
              have hc0 := cell_of_one him.var
              have Him4 := Lib.hid him; have Hcap := Lib.hid hcap
              clear him hcap Hv
              go_wp2
              go_ret2
              rw [← Hrows.out]
              refine ⟨_, rfl, ISX.of_row Him4.out.outer Him4.out.len.symm (by unfold maxLen; omega) fun i hi => Hcap.out i (by omega), hbel⟩

end Go.Proofs.Ytbappfeojdehgaa
