/- Contracts of package permutations: lists made place by place. -/
import Derived.Test.YtpcbadagffeehaaPchk
import Derived.Test.YtpcbadagffeehaaLibd
import Derived.Outline
namespace Go.Proofs.Ytpcbadagffeehaa
set_option linter.unusedVariables false
set_option linter.unusedSimpArgs false
open Go Go.RowKit

theorem eiU8 : EI Try.prog 22 5 (.int .u8 0) 1 := ⟨Try.underlying22, by kernel_rfl, rfl⟩
theorem eiInt : EI Try.prog 31 3 (.int .i64 0) 8 := ⟨Try.underlying31, by kernel_rfl, rfl⟩

/-- What lies at each place when k numbers have been stored. -/
def upd (pos : Nat → Nat) (new : Nat → Int) : Nat → Nat → Int
  | 0, _ => 0
  | k + 1, j => if j = pos k then new k else upd pos new k j
def updL (pos : Nat → Nat) (new : Nat → Int) (n : Nat) : List Int := (List.range n).map (upd pos new n)
theorem updL_len (pos : Nat → Nat) (new : Nat → Int) (n : Nat) : (updL pos new n).length = n := by simp [updL]
theorem updL_gi {pos : Nat → Nat} {new : Nat → Int} {n i : Nat} (h : i < n) : gi (updL pos new n) i = upd pos new n i := by unfold updL; rw [gi_range_map _ h]

/-- A row of the call's own: the numbers so far. -/
def URow (w wr : World) (N : Nat) (pos : Nat → Nat) (new : Nat → Int) (k : Nat) : Prop :=
  Ext w wr ∧ ∃ f, wr.rowIs w.heap.size 5 N f ∧ ∀ j, f j = .int .u8 (upd pos new k j)
theorem URow.start (w : World) (N : Nat) (pos : Nat → Nat) (new : Nat → Int) : URow w (w.alloc (.cells (madeCells #[.int .u8 0] N) 5)) N pos new 0 :=
  ⟨(Ext.refl w).alloc _, _, World.rowIs_made _ _ _ _, fun j => rfl⟩
theorem URow.next {w wr : World} {N : Nat} {pos : Nat → Nat} {new : Nat → Int} {k : Nat} (h : URow w wr N pos new k) : URow w (wr.setCell ⟨w.heap.size, pos k, none⟩ (.int .u8 (new k))) N pos new (k + 1) := by
  obtain ⟨hx, f, hr, hf⟩ := h
  refine ⟨hx.setCell (Nat.le_refl _) _, _, hr.set _ _, fun j => ?_⟩
  unfold upd
  by_cases e : j = pos k
  · rw [if_pos e, if_pos e]
  · rw [if_neg e, if_neg e]; exact hf j
theorem URow.ret {w wr : World} {N : Nat} {pos : Nat → Nat} {new : Nat → Int} (h : URow w wr N pos new N) (hN : N ≤ 1000) : IS .u8 wr (.slice (some ⟨w.heap.size, 0, none⟩) N N) N (updL pos new N) := by
  obtain ⟨hx, f, hr, hf⟩ := h
  exact IS.of_row hr (updL_len _ _ _).symm (by unfold maxLen; omega) fun i hi => by rw [hf i, updL_gi hi]

/-- Where the numbers stand: all places are in range. -/
def inR (xs : List Int) (n : Nat) : Prop := ∀ i, i < xs.length → 1 ≤ gi xs i ∧ gi xs i ≤ (n : Int)

set_option maxHeartbeats 1000000 in
theorem turned_calls (v : Value) (c : Nat) (xs : List Int) (w : World) (h : IS .u8 w v c xs) (hl : xs.length ≤ 8) (hr : inR xs xs.length) :
    Calls Try.prog 40 #[v] w (RetI .u8 w xs.length (updL (fun k => k) (fun k => (xs.length : Int) + 1 - gi xs k) xs.length)) := by
  obtain ⟨h1, h2, ao, rfl, hao⟩ := h.open
  have hb := fun i hi => hr i hi
  have hfin : ∀ wr, URow w wr xs.length (fun k => k) (fun k => (xs.length : Int) + 1 - gi xs k) xs.length → IS .u8 wr (.slice (some ⟨w.heap.size, 0, none⟩) xs.length xs.length) xs.length (updL (fun k => k) (fun k => (xs.length : Int) + 1 - gi xs k) xs.length) := fun wr hu => hu.ret (by omega)
  obtain ⟨N, hN⟩ : ∃ N, N = xs.length := ⟨_, rfl⟩
  rw [← hN] at hao h1 hl hb hfin ⊢
  have Hb := Lib.hid hb; have HF := Lib.hid hfin; have HIS := Lib.hid h
  have HN := Lib.hid hN
  clear hN hr hb hfin h
  unfold maxLen at h2
  have hmk := run_make_row' (P := Try.prog) 22 5 (.int .u8 0) 1 Try.underlying22 (by kernel_rfl) rfl .i64 .i64 N (by omega) (by omega)
  go_enter Try.func40, Try.ntmps40
  go_wp2
  go_loopw [11] (fun i wr => ∃ k : Nat, k ≤ N ∧ i = .int .i64 k ∧ Hid (URow w wr N (fun k => k) (fun k => (N : Int) + 1 - gi xs k) k)) (fun i _ => N - (intOf i).toNat)
  case atStart => exact ⟨0, Nat.zero_le _, rfl, Lib.hid (URow.start w N _ _)⟩
  case round =>
    obtain ⟨k, hk, rfl, H⟩ := hrel
    by_cases hlt : k < N
    · obtain ⟨b, o, rfl, hc⟩ : ∃ b o, ao = some ⟨b, o, none⟩ ∧ ∀ i, i < N → w.cell? ⟨b, o + i, none⟩ = some (.int .u8 (gi xs i)) := by
        rcases hao with ⟨_, h0, _⟩ | h
        · omega
        · exact h
      have hck := H.out.1.cell ((hc k hlt))
      obtain ⟨b1, b2⟩ := Hb.out k hlt
      have hnx := H.out.next
      obtain ⟨_, f, hrow, hf⟩ := H.out
      have hst := hrow.cell (i := k) (by omega)
      have hfz := hrow.frozen k
      rw [hf k] at hst
      obtain ⟨x, hx⟩ : ∃ x, x = gi xs k := ⟨_, rfl⟩
      rw [← hx] at hck b1 b2 hnx
      have HNX := Lib.hid hnx
      clear hx hnx
      clear hc hao hrow hf
      go_wp2
      go_roundw
      case rel => exact ⟨k + 1, by omega, by go_num, HNX.out⟩
      case measure => simp [intOf]; omega
    · obtain rfl : k = N := by omega
      go_wp2
      go_ret
      exact ⟨_, rfl, HF.out _ H.out, H.out.1, NN.mk⟩

set_option maxHeartbeats 1000000 in
theorem inverse_calls (v : Value) (c : Nat) (xs : List Int) (w : World) (h : IS .u8 w v c xs) (hl : xs.length ≤ 8) (hr : inR xs xs.length) :
    Calls Try.prog 38 #[v] w (RetI .u8 w xs.length (updL (fun k => (gi xs k - 1).toNat) (fun k => (k : Int) + 1) xs.length)) := by
  obtain ⟨h1, h2, ao, rfl, hao⟩ := h.open
  have hb := fun i hi => hr i hi
  have hfin : ∀ wr, URow w wr xs.length (fun k => (gi xs k - 1).toNat) (fun k => (k : Int) + 1) xs.length → IS .u8 wr (.slice (some ⟨w.heap.size, 0, none⟩) xs.length xs.length) xs.length (updL (fun k => (gi xs k - 1).toNat) (fun k => (k : Int) + 1) xs.length) := fun wr hu => hu.ret (by omega)
  obtain ⟨N, hN⟩ : ∃ N, N = xs.length := ⟨_, rfl⟩
  rw [← hN] at hao h1 hl hb hfin ⊢
  have Hb := Lib.hid hb; have HF := Lib.hid hfin; have HIS := Lib.hid h
  have HN := Lib.hid hN
  clear hN hr hb hfin h
  unfold maxLen at h2
  have hmk := run_make_row' (P := Try.prog) 22 5 (.int .u8 0) 1 Try.underlying22 (by kernel_rfl) rfl .i64 .i64 N (by omega) (by omega)
  go_enter Try.func38, Try.ntmps38
  go_wp2
  go_loopw [11] (fun i wr => ∃ k : Nat, k ≤ N ∧ i = .int .i64 k ∧ Hid (URow w wr N (fun k => (gi xs k - 1).toNat) (fun k => (k : Int) + 1) k)) (fun i _ => N - (intOf i).toNat)
  case atStart => exact ⟨0, Nat.zero_le _, rfl, Lib.hid (URow.start w N _ _)⟩
  case round =>
    obtain ⟨k, hk, rfl, H⟩ := hrel
    by_cases hlt : k < N
    · obtain ⟨b, o, rfl, hc⟩ : ∃ b o, ao = some ⟨b, o, none⟩ ∧ ∀ i, i < N → w.cell? ⟨b, o + i, none⟩ = some (.int .u8 (gi xs i)) := by
        rcases hao with ⟨_, h0, _⟩ | h
        · omega
        · exact h
      have hck := H.out.1.cell ((hc k hlt))
      obtain ⟨b1, b2⟩ := Hb.out k hlt
      have hnx := H.out.next
      obtain ⟨_, f, hrow, hf⟩ := H.out
      obtain ⟨y, hy⟩ : ∃ y : Nat, gi xs k = (y : Int) + 1 := ⟨(gi xs k - 1).toNat, by omega⟩
      have hyN : y < N := by omega
      have hst := hrow.cell (i := y) hyN
      have hfz := hrow.frozen y
      rw [hf y] at hst
      rw [hy] at hck b1 b2
      simp only [hy, Int.add_sub_cancel, Int.toNat_natCast] at hnx
      have HNX := Lib.hid hnx
      clear hy hnx
      clear hc hao hrow hf
      go_wp2
      go_roundw
      case rel => exact ⟨k + 1, by omega, by go_num, HNX.out⟩
      case measure => simp [intOf]; omega
    · obtain rfl : k = N := by omega
      go_wp2
      go_ret
      exact ⟨_, rfl, HF.out _ H.out, H.out.1, NN.mk⟩

set_option maxHeartbeats 1000000 in
theorem times_calls (v : Value) (c : Nat) (xs : List Int) (w : World) (h : IS .u8 w v c xs) (hl : xs.length ≤ 8) (hr : inR xs xs.length) (v2 : Value) (c2 : Nat) (ys : List Int) (hq : IS .u8 w v2 c2 ys) (hql : ys.length = xs.length) (hqb : ∀ i, i < ys.length → 0 ≤ gi ys i ∧ gi ys i ≤ 255) :
    Calls Try.prog 43 #[v, v2] w (RetI .u8 w xs.length (updL (fun k => k) (fun k => gi ys (gi xs k - 1).toNat) xs.length)) := by
  obtain ⟨h1, h2, ao, rfl, hao⟩ := h.open
  obtain ⟨h1', h2', bo, rfl, hbo⟩ := hq.open
  rw [hql] at hbo h1' hqb
  rw [hql]
  have hb := fun i hi => hr i hi
  have hfin : ∀ wr, URow w wr xs.length (fun k => k) (fun k => gi ys (gi xs k - 1).toNat) xs.length → IS .u8 wr (.slice (some ⟨w.heap.size, 0, none⟩) xs.length xs.length) xs.length (updL (fun k => k) (fun k => gi ys (gi xs k - 1).toNat) xs.length) := fun wr hu => hu.ret (by omega)
  obtain ⟨N, hN⟩ : ∃ N, N = xs.length := ⟨_, rfl⟩
  rw [← hN] at hao h1 hl hb hfin hbo h1' hqb ⊢
  have Hb := Lib.hid hb; have HF := Lib.hid hfin; have HIS := Lib.hid h
  have HN := Lib.hid hN
  clear hN hr hb hfin h
  unfold maxLen at h2
  have hmk := run_make_row' (P := Try.prog) 22 5 (.int .u8 0) 1 Try.underlying22 (by kernel_rfl) rfl .i64 .i64 N (by omega) (by omega)
  go_enter Try.func43, Try.ntmps43
  go_wp2
  go_loopw [13] (fun i wr => ∃ k : Nat, k ≤ N ∧ i = .int .i64 k ∧ Hid (URow w wr N (fun k => k) (fun k => gi ys (gi xs k - 1).toNat) k)) (fun i _ => N - (intOf i).toNat)
  case atStart => exact ⟨0, Nat.zero_le _, rfl, Lib.hid (URow.start w N _ _)⟩
  case round =>
    obtain ⟨k, hk, rfl, H⟩ := hrel
    by_cases hlt : k < N
    · obtain ⟨b, o, rfl, hc⟩ : ∃ b o, ao = some ⟨b, o, none⟩ ∧ ∀ i, i < N → w.cell? ⟨b, o + i, none⟩ = some (.int .u8 (gi xs i)) := by
        rcases hao with ⟨_, h0, _⟩ | h
        · omega
        · exact h
      have hck := H.out.1.cell ((hc k hlt))
      obtain ⟨b1, b2⟩ := Hb.out k hlt
      have hnx := H.out.next
      obtain ⟨_, f, hrow, hf⟩ := H.out
      obtain ⟨y, hy⟩ : ∃ y : Nat, gi xs k = (y : Int) + 1 := ⟨(gi xs k - 1).toNat, by omega⟩
      have hyN : y < N := by omega
      obtain ⟨b', o', rfl, hc'⟩ : ∃ b o, bo = some ⟨b, o, none⟩ ∧ ∀ i, i < N → w.cell? ⟨b, o + i, none⟩ = some (.int .u8 (gi ys i)) := by
        rcases hbo with ⟨_, h0, _⟩ | h
        · omega
        · exact h
      have hcy := H.out.1.cell (hc' y hyN)
      have hst := hrow.cell (i := k) (by omega)
      have hfz := hrow.frozen k
      rw [hf k] at hst
      rw [hy] at hck b1 b2
      simp only [hy, Int.add_sub_cancel, Int.toNat_natCast] at hnx
      have HNX := Lib.hid hnx
      clear hy hnx hc' hbo
      clear hc hao hrow hf
      go_wp2
      go_roundw
      case rel => exact ⟨k + 1, by omega, by go_num, HNX.out⟩
      case measure => simp [intOf]; omega
    · obtain rfl : k = N := by omega
      go_wp2
      go_ret
      exact ⟨_, rfl, HF.out _ H.out, H.out.1, NN.mk⟩
end Go.Proofs.Ytpcbadagffeehaa
