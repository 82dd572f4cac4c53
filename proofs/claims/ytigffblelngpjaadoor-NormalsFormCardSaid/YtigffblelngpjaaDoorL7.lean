/- Texts of this claim in one file: libraries and walks. -/
import Derived.Test.YtigffblelngpjaaDoorProg
import Derived.Outline
import Derived.BigQuiet
import Derived.RangeFuncBox
import Derived.RangeFuncNested
import Derived.RangeFuncBound
import Derived.RangeFuncCalls
import Derived.RangeFuncLeaves
import Derived.Shelf.Abstract
import Derived.Shelf.RegionOpen
import Derived.WalkKit
import Derived.OwnWalkIn
import Derived.TacticsInMore
import Derived.LoopNIn
import Derived.LoopIn
import Derived.Test.YtigffblelngpjaaDoorL0
/- Contract of permutations.Check. -/
namespace Go.Proofs.YtigffblelngpjaaDoor
set_option linter.unusedVariables false
set_option linter.unusedSimpArgs false
open Go Go.RowKit

/-- A permutation: places from 1 on, each once. -/
def pok (xs : List Int) : Prop := (∀ x ∈ xs, 1 ≤ x ∧ x ≤ (xs.length : Int)) ∧ xs.Nodup
instance (xs : List Int) : Decidable (pok xs) := by unfold pok; infer_instance
def pcheck (xs : List Int) : Int := if 8 < xs.length then 3 else if xs.length = 0 then 1 else if pok xs then 0 else 1

theorem pcheck_long {xs : List Int} (h : 8 < xs.length) : pcheck xs = 3 := by unfold pcheck; rw [if_pos h]
theorem pcheck_empty {xs : List Int} (h : xs.length = 0) : pcheck xs = 1 := by unfold pcheck; rw [if_neg (by omega), if_pos h]
theorem pcheck_bad {xs : List Int} (h0 : xs.length ≠ 0) (h : ¬ pok xs) : pcheck xs = 1 ∨ 8 < xs.length := by
  by_cases h8 : 8 < xs.length
  · exact .inr h8
  · unfold pcheck; rw [if_neg h8, if_neg h0, if_neg h]; exact .inl rfl
theorem pcheck_ok {xs : List Int} (h0 : xs.length ≠ 0) (h8 : xs.length ≤ 8) (h : pok xs) : pcheck xs = 0 := by
  unfold pcheck; rw [if_neg (by omega), if_neg h0, if_pos h]
theorem pcheck_zero {xs : List Int} (h : pcheck xs = 0) : 1 ≤ xs.length ∧ xs.length ≤ 8 ∧ pok xs := by
  unfold pcheck at h
  split at h
  · omega
  · split at h
    · omega
    · split at h
      · rename_i a b c; exact ⟨by omega, by omega, c⟩
      · omega
theorem pcheck_nine {xs : List Int} (h : pcheck xs = 3) : 8 < xs.length := by
  unfold pcheck at h
  split at h
  · assumption
  · split at h
    · omega
    · split at h <;> omega

theorem mem_take_gi {xs : List Int} {k : Nat} {x : Int} : x ∈ xs.take k ↔ ∃ i, i < k ∧ i < xs.length ∧ gi xs i = x := by
  constructor
  · intro h
    obtain ⟨i, hi, he⟩ := List.mem_iff_getElem.1 h
    rw [List.length_take] at hi
    refine ⟨i, by omega, by omega, ?_⟩
    rw [gi_of_lt (by omega), ← he, List.getElem_take]
  · rintro ⟨i, h1, h2, rfl⟩
    rw [List.mem_iff_getElem]
    exact ⟨i, by rw [List.length_take]; omega, by rw [List.getElem_take, gi_of_lt h2]⟩
theorem pok_step {xs : List Int} {k : Nat} (hk : k < xs.length) (h : (∀ i, i < k → 1 ≤ gi xs i ∧ gi xs i ≤ (xs.length : Int)) ∧ (xs.take k).Nodup) (h1 : 1 ≤ gi xs k) (h2 : gi xs k ≤ (xs.length : Int)) (h3 : gi xs k ∉ xs.take k) :
    (∀ i, i < k + 1 → 1 ≤ gi xs i ∧ gi xs i ≤ (xs.length : Int)) ∧ (xs.take (k + 1)).Nodup := by
  refine ⟨fun i hi => ?_, ?_⟩
  · by_cases e : i = k
    · subst e; exact ⟨h1, h2⟩
    · exact h.1 i (by omega)
  · rw [take_succ_gi hk, List.nodup_append]
    refine ⟨h.2, by simp, fun a ha b hb => ?_⟩
    simp only [List.mem_cons, List.not_mem_nil, or_false] at hb
    subst hb
    intro e; subst e; exact h3 ha

set_option maxHeartbeats 1000000 in
theorem Pcheck_calls (v : Value) (c : Nat) (xs : List Int) (w : World) (h : IS .u8 w v c xs) (hb : ∀ i, i < xs.length → 0 ≤ gi xs i ∧ gi xs i ≤ 255) :
    Calls Tryd.prog 53 #[v] w fun e w' => e = .returned (.int .i64 (pcheck xs)) ∧ Ext w w' := by
  obtain ⟨h1, h2, ao, rfl, hao⟩ := h.open
  have k1 := @pcheck_long xs
  have k2 := @pcheck_empty xs
  have k3 : ∀ i, i < xs.length → xs.length ≤ 8 → ¬ (1 ≤ gi xs i ∧ gi xs i ≤ (xs.length : Int)) → pcheck xs = 1 := fun i hi h8 hb => by
    rcases pcheck_bad (xs := xs) (by omega) (fun hp => hb (hp.1 _ (gi_mem hi))) with h | h
    · exact h
    · omega
  have k4 : ∀ i, i < xs.length → xs.length ≤ 8 → gi xs i ∈ xs.take i → pcheck xs = 1 := fun i hi h8 hm => by
    have hnp : ¬ pok xs := fun hp => by
      obtain ⟨j, j1, j2, j3⟩ := mem_take_gi.1 hm
      exact (List.pairwise_iff_getElem.1 hp.2) j i j2 hi j1 (by rw [← gi_of_lt j2, ← gi_of_lt hi]; exact j3)
    rcases pcheck_bad (xs := xs) (by omega) hnp with h | h
    · exact h
    · omega
  have k5 : xs.length ≠ 0 → xs.length ≤ 8 → (∀ i, i < xs.length → 1 ≤ gi xs i ∧ gi xs i ≤ (xs.length : Int)) → (xs.take xs.length).Nodup → pcheck xs = 0 := fun h0 h8 a b => by
    rw [List.take_length] at b
    exact pcheck_ok h0 h8 ⟨gi_all (P := fun x => 1 ≤ x ∧ x ≤ (xs.length : Int)) a, b⟩
  have k6 := fun k (hk : k < xs.length) => pok_step (xs := xs) hk
  have k7 : ∀ k, k < xs.length → ∀ x, (x ∈ xs.take (k + 1) ↔ x = gi xs k ∨ x ∈ xs.take k) := fun k hk x => by rw [take_succ_gi hk]; simp [or_comm]
  obtain ⟨N, hN⟩ : ∃ N, N = xs.length := ⟨_, rfl⟩
  rw [← hN] at hao h1 hb k1 k2 k3 k4 k5 k6 k7 ⊢
  have K1 := Lib.hid k1; have K2 := Lib.hid k2; have K3 := Lib.hid k3; have K4 := Lib.hid k4; have K5 := Lib.hid k5; have K6 := Lib.hid k6; have K7 := Lib.hid k7; have Hb := Lib.hid hb
  clear h hN k1 k2 k3 k4 k5 k6 k7 hb
  unfold maxLen at h2
  by_cases h8 : 8 < N
  · go_enter Tryd.func53, Tryd.ntmps53
    go_wp2
    go_ret
    exact ⟨ret_int (K1.out h8).symm, Ext.refl _⟩
  by_cases h0 : N = 0
  · have h0' : ((N : Int) == 0) = true := by simp [h0]
    have H0 := Lib.hid h0; clear h0
    go_enter Tryd.func53, Tryd.ntmps53
    go_wp2
    go_ret
    exact ⟨ret_int (K2.out H0.out).symm, Ext.refl _⟩
  have h0' : ((N : Int) == 0) = false := by simp [h0]
  have H0 := Lib.hid h0; clear h0
  obtain ⟨b, o, rfl, hc⟩ : ∃ b o, ao = some ⟨b, o, none⟩ ∧ ∀ i, i < N → w.cell? ⟨b, o + i, none⟩ = some (.int .u8 (gi xs i)) := by
    rcases hao with ⟨_, h0, _⟩ | h
    · exact absurd h0 H0.out
    · exact h
  have HC := Lib.hid hc
  clear hc hao
  go_enter Tryd.func53, Tryd.ntmps53
  go_wp2
  go_loopw [14] (fun i wr => ∃ k : Nat, k ≤ N ∧ i = .int .i64 k ∧ Hid (Ext w wr ∧ (∃ f, wr.rowIs w.heap.size 92 9 f ∧ ∀ j : Nat, j < 9 → f j = .bool (decide ((j : Int) ∈ xs.take k))) ∧ (∀ i, i < k → 1 ≤ gi xs i ∧ gi xs i ≤ (N : Int)) ∧ (xs.take k).Nodup)) (fun i _ => N - (intOf i).toNat)
  case atStart =>
    refine ⟨0, Nat.zero_le _, rfl, Lib.hid ⟨(Ext.refl w).alloc _, ⟨_, World.rowIs_alloc w _ _ (fun _ => .bool false) ?_, fun j hj => by simp⟩, fun i hi => by omega, by simp⟩⟩
    intro i hi
    have : i < 9 := hi
    rcases (show i = 0 ∨ i = 1 ∨ i = 2 ∨ i = 3 ∨ i = 4 ∨ i = 5 ∨ i = 6 ∨ i = 7 ∨ i = 8 by omega) with rfl | rfl | rfl | rfl | rfl | rfl | rfl | rfl | rfl <;> rfl
  case round =>
    obtain ⟨k, hk, rfl, H⟩ := hrel
    by_cases hlt : k < N
    · have hck := H.out.1.cell (HC.out k hlt)
      obtain ⟨f, hrow, hf⟩ := H.out.2.1
      obtain ⟨b1, b2⟩ := Hb.out k hlt
      obtain ⟨x, hx⟩ : ∃ x : Nat, (x : Int) = gi xs k := ⟨(gi xs k).toNat, by omega⟩
      have x255 : x ≤ 255 := by omega
      by_cases hr : 1 ≤ x ∧ x ≤ N
      · have hcx := hrow.cell (i := x) (by omega)
        have hfx := hrow.frozen x
        rw [hf x (by omega)] at hcx
        rw [← hx] at hck
        obtain ⟨hr1, hr2⟩ := hr
        by_cases hm : (x : Int) ∈ xs.take k
        · rw [decide_eq_true hm] at hcx
          have R := Lib.hid (K4.out k hlt (by omega) (by rw [← hx]; exact hm))
          clear hm hx hf hrow
          go_wp2
          go_ret
          exact ⟨ret_int R.out.symm, H.out.1⟩
        · rw [decide_eq_false hm] at hcx
          have HM := Lib.hid hm; have HX := Lib.hid hx; have HF := Lib.hid hf; have HR := Lib.hid hrow
          clear hm hx hf hrow
          go_wp2
          go_roundw
          case rel =>
            have hst := K6.out k hlt H.out.2.2 (by rw [← HX.out]; omega) (by rw [← HX.out]; omega) (by rw [← HX.out]; exact HM.out)
            refine ⟨k + 1, by omega, by go_num, Lib.hid ⟨H.out.1.setCell (Nat.le_refl _) _, ⟨_, HR.out.set _ _, fun j hj => ?_⟩, hst.1, hst.2⟩⟩
            by_cases e : j = x
            · rw [if_pos e]
              have : (j : Int) ∈ xs.take (k + 1) := by rw [K7.out k hlt, e]; exact .inl HX.out
              rw [decide_eq_true this]
            · rw [if_neg e, HF.out j hj]
              have : ((j : Int) ∈ xs.take (k + 1)) ↔ ((j : Int) ∈ xs.take k) := by
                rw [K7.out k hlt, ← HX.out]
                constructor
                · rintro (h | h)
                  · omega
                  · exact h
                · exact .inr
              simp only [this]
          case measure => simp [intOf]; omega
      · have R := Lib.hid (K3.out k hlt (by omega) (by rw [← hx]; omega))
        rw [← hx] at hck
        clear hx hf hrow
        rcases (show x < 1 ∨ N < x by omega) with hr' | hr'
        · clear hr
          go_wp2
          go_ret
          exact ⟨ret_int R.out.symm, H.out.1⟩
        · clear hr
          have hd : decide ((x : Int) < 1) = false := by simp; omega
          go_wp2
          go_ret
          exact ⟨ret_int R.out.symm, H.out.1⟩
    · obtain rfl : k = N := by omega
      go_wp2
      go_ret
      exact ⟨ret_int (K5.out H0.out (by omega) H.out.2.2.1 H.out.2.2.2).symm, H.out.1⟩
end Go.Proofs.YtigffblelngpjaaDoor
/- Contracts of package permutations: lists made place by place. -/
namespace Go.Proofs.YtigffblelngpjaaDoor
set_option linter.unusedVariables false
set_option linter.unusedSimpArgs false
open Go Go.RowKit

theorem eiU8 : EI Tryd.prog 22 5 (.int .u8 0) 1 := ⟨Tryd.underlying22, by kernel_rfl, rfl⟩
theorem eiInt : EI Tryd.prog 34 3 (.int .i64 0) 8 := ⟨Tryd.underlying34, by kernel_rfl, rfl⟩

/-- What lies at each place when k numbers have been stored. -/
def upd (pos : Nat → Nat) (new : Nat → Int) : Nat → Nat → Int
  | 0, _ => 0
  | k + 1, j => if j = pos k then new k else upd pos new k j
def updL (pos : Nat → Nat) (new : Nat → Int) (n : Nat) : List Int := (List.range n).map (upd pos new n)
theorem updL_len (pos : Nat → Nat) (new : Nat → Int) (n : Nat) : (updL pos new n).length = n := by simp [updL]
theorem updL_gi {pos : Nat → Nat} {new : Nat → Int} {n i : Nat} (h : i < n) : gi (updL pos new n) i = upd pos new n i := by unfold updL; rw [gi_range_map _ h]

/-- A row of the call's own: the numbers so far. -/
def URow (w wr : World) (N : Nat) (pos : Nat → Nat) (new : Nat → Int) (k : Nat) : Prop :=
  Ext w wr ∧ ∃ f, wr.rowIs w.heap.size 5 N f ∧ ∀ j, f j = .int .u8 (upd pos new k j)
theorem URow.start (w : World) (N : Nat) (pos : Nat → Nat) (new : Nat → Int) : URow w (w.alloc (.cells (madeCells #[.int .u8 0] N) 5)) N pos new 0 :=
  ⟨(Ext.refl w).alloc _, _, World.rowIs_made _ _ _ _, fun j => rfl⟩
theorem URow.next {w wr : World} {N : Nat} {pos : Nat → Nat} {new : Nat → Int} {k : Nat} (h : URow w wr N pos new k) : URow w (wr.setCell ⟨w.heap.size, pos k, none⟩ (.int .u8 (new k))) N pos new (k + 1) := by
  obtain ⟨hx, f, hr, hf⟩ := h
  refine ⟨hx.setCell (Nat.le_refl _) _, _, hr.set _ _, fun j => ?_⟩
  unfold upd
  by_cases e : j = pos k
  · rw [if_pos e, if_pos e]
  · rw [if_neg e, if_neg e]; exact hf j
theorem URow.ret {w wr : World} {N : Nat} {pos : Nat → Nat} {new : Nat → Int} (h : URow w wr N pos new N) (hN : N ≤ 1000) : IS .u8 wr (.slice (some ⟨w.heap.size, 0, none⟩) N N) N (updL pos new N) := by
  obtain ⟨hx, f, hr, hf⟩ := h
  exact IS.of_row hr (updL_len _ _ _).symm (by unfold maxLen; omega) fun i hi => by rw [hf i, updL_gi hi]

/-- Where the numbers stand: all places are in range. -/
def inR (xs : List Int) (n : Nat) : Prop := ∀ i, i < xs.length → 1 ≤ gi xs i ∧ gi xs i ≤ (n : Int)

set_option maxHeartbeats 1000000 in
theorem inverse_calls (v : Value) (c : Nat) (xs : List Int) (w : World) (h : IS .u8 w v c xs) (hl : xs.length ≤ 8) (hr : inR xs xs.length) :
    Calls Tryd.prog 77 #[v] w (RetI .u8 w xs.length (updL (fun k => (gi xs k - 1).toNat) (fun k => (k : Int) + 1) xs.length)) := by
  obtain ⟨h1, h2, ao, rfl, hao⟩ := h.open
  have hb := fun i hi => hr i hi
  have hfin : ∀ wr, URow w wr xs.length (fun k => (gi xs k - 1).toNat) (fun k => (k : Int) + 1) xs.length → IS .u8 wr (.slice (some ⟨w.heap.size, 0, none⟩) xs.length xs.length) xs.length (updL (fun k => (gi xs k - 1).toNat) (fun k => (k : Int) + 1) xs.length) := fun wr hu => hu.ret (by omega)
  obtain ⟨N, hN⟩ : ∃ N, N = xs.length := ⟨_, rfl⟩
  rw [← hN] at hao h1 hl hb hfin ⊢
  have Hb := Lib.hid hb; have HF := Lib.hid hfin; have HIS := Lib.hid h
  have HN := Lib.hid hN
  clear hN hr hb hfin h
  unfold maxLen at h2
  have hmk := run_make_row' (P := Tryd.prog) 22 5 (.int .u8 0) 1 Tryd.underlying22 (by kernel_rfl) rfl .i64 .i64 N (by omega) (by omega)
  go_enter Tryd.func77, Tryd.ntmps77
  go_wp2
  go_loopw [11] (fun i wr => ∃ k : Nat, k ≤ N ∧ i = .int .i64 k ∧ Hid (URow w wr N (fun k => (gi xs k - 1).toNat) (fun k => (k : Int) + 1) k)) (fun i _ => N - (intOf i).toNat)
  case atStart => exact ⟨0, Nat.zero_le _, rfl, Lib.hid (URow.start w N _ _)⟩
  case round =>
    obtain ⟨k, hk, rfl, H⟩ := hrel
    by_cases hlt : k < N
    · obtain ⟨b, o, rfl, hc⟩ : ∃ b o, ao = some ⟨b, o, none⟩ ∧ ∀ i, i < N → w.cell? ⟨b, o + i, none⟩ = some (.int .u8 (gi xs i)) := by
        rcases hao with ⟨_, h0, _⟩ | h
        · omega
        · exact h
      have hck := H.out.1.cell ((hc k hlt))
      obtain ⟨b1, b2⟩ := Hb.out k hlt
      have hnx := H.out.next
      obtain ⟨_, f, hrow, hf⟩ := H.out
      obtain ⟨y, hy⟩ : ∃ y : Nat, gi xs k = (y : Int) + 1 := ⟨(gi xs k - 1).toNat, by omega⟩
      have hyN : y < N := by omega
      have hst := hrow.cell (i := y) hyN
      have hfz := hrow.frozen y
      rw [hf y] at hst
      rw [hy] at hck b1 b2
      simp only [hy, Int.add_sub_cancel, Int.toNat_natCast] at hnx
      have HNX := Lib.hid hnx
      clear hy hnx
      clear hc hao hrow hf
      go_wp2
      go_roundw
      case rel => exact ⟨k + 1, by omega, by go_num, HNX.out⟩
      case measure => simp [intOf]; omega
    · obtain rfl : k = N := by omega
      go_wp2
      go_ret
      exact ⟨_, rfl, HF.out _ H.out, H.out.1, NN.mk⟩

set_option maxHeartbeats 1000000 in
theorem times_calls (v : Value) (c : Nat) (xs : List Int) (w : World) (h : IS .u8 w v c xs) (hl : xs.length ≤ 8) (hr : inR xs xs.length) (v2 : Value) (c2 : Nat) (ys : List Int) (hq : IS .u8 w v2 c2 ys) (hql : ys.length = xs.length) (hqb : ∀ i, i < ys.length → 0 ≤ gi ys i ∧ gi ys i ≤ 255) :
    Calls Tryd.prog 76 #[v, v2] w (RetI .u8 w xs.length (updL (fun k => k) (fun k => gi ys (gi xs k - 1).toNat) xs.length)) := by
  obtain ⟨h1, h2, ao, rfl, hao⟩ := h.open
  obtain ⟨h1', h2', bo, rfl, hbo⟩ := hq.open
  rw [hql] at hbo h1' hqb
  rw [hql]
  have hb := fun i hi => hr i hi
  have hfin : ∀ wr, URow w wr xs.length (fun k => k) (fun k => gi ys (gi xs k - 1).toNat) xs.length → IS .u8 wr (.slice (some ⟨w.heap.size, 0, none⟩) xs.length xs.length) xs.length (updL (fun k => k) (fun k => gi ys (gi xs k - 1).toNat) xs.length) := fun wr hu => hu.ret (by omega)
  obtain ⟨N, hN⟩ : ∃ N, N = xs.length := ⟨_, rfl⟩
  rw [← hN] at hao h1 hl hb hfin hbo h1' hqb ⊢
  have Hb := Lib.hid hb; have HF := Lib.hid hfin; have HIS := Lib.hid h
  have HN := Lib.hid hN
  clear hN hr hb hfin h
  unfold maxLen at h2
  have hmk := run_make_row' (P := Tryd.prog) 22 5 (.int .u8 0) 1 Tryd.underlying22 (by kernel_rfl) rfl .i64 .i64 N (by omega) (by omega)
  go_enter Tryd.func76, Tryd.ntmps76
  go_wp2
  go_loopw [13] (fun i wr => ∃ k : Nat, k ≤ N ∧ i = .int .i64 k ∧ Hid (URow w wr N (fun k => k) (fun k => gi ys (gi xs k - 1).toNat) k)) (fun i _ => N - (intOf i).toNat)
  case atStart => exact ⟨0, Nat.zero_le _, rfl, Lib.hid (URow.start w N _ _)⟩
  case round =>
    obtain ⟨k, hk, rfl, H⟩ := hrel
    by_cases hlt : k < N
    · obtain ⟨b, o, rfl, hc⟩ : ∃ b o, ao = some ⟨b, o, none⟩ ∧ ∀ i, i < N → w.cell? ⟨b, o + i, none⟩ = some (.int .u8 (gi xs i)) := by
        rcases hao with ⟨_, h0, _⟩ | h
        · omega
        · exact h
      have hck := H.out.1.cell ((hc k hlt))
      obtain ⟨b1, b2⟩ := Hb.out k hlt
      have hnx := H.out.next
      obtain ⟨_, f, hrow, hf⟩ := H.out
      obtain ⟨y, hy⟩ : ∃ y : Nat, gi xs k = (y : Int) + 1 := ⟨(gi xs k - 1).toNat, by omega⟩
      have hyN : y < N := by omega
      obtain ⟨b', o', rfl, hc'⟩ : ∃ b o, bo = some ⟨b, o, none⟩ ∧ ∀ i, i < N → w.cell? ⟨b, o + i, none⟩ = some (.int .u8 (gi ys i)) := by
        rcases hbo with ⟨_, h0, _⟩ | h
        · omega
        · exact h
      have hcy := H.out.1.cell (hc' y hyN)
      have hst := hrow.cell (i := k) (by omega)
      have hfz := hrow.frozen k
      rw [hf k] at hst
      rw [hy] at hck b1 b2
      simp only [hy, Int.add_sub_cancel, Int.toNat_natCast] at hnx
      have HNX := Lib.hid hnx
      clear hy hnx hc' hbo
      clear hc hao hrow hf
      go_wp2
      go_roundw
      case rel => exact ⟨k + 1, by omega, by go_num, HNX.out⟩
      case measure => simp [intOf]; omega
    · obtain rfl : k = N := by omega
      go_wp2
      go_ret
      exact ⟨_, rfl, HF.out _ H.out, H.out.1, NN.mk⟩
end Go.Proofs.YtigffblelngpjaaDoor
/- Contracts of permutations.falls, Starts, Ends. -/
namespace Go.Proofs.YtigffblelngpjaaDoor
set_option linter.unusedVariables false
set_option linter.unusedSimpArgs false
open Go Go.RowKit

def fallB (xs : List Int) (i : Nat) : Bool := decide (gi xs i < gi xs (i - 1))
/-- The falls ahead of place k. -/
def fallsTo (xs : List Int) (k : Nat) : List Int := ((List.range k).filter fun i => decide (1 ≤ i) && fallB xs i).map Int.ofNat
def fallsL (xs : List Int) : List Int := fallsTo xs xs.length
theorem fallsTo_one (xs : List Int) : fallsTo xs 1 = [] := rfl
theorem fallsTo_yes {xs : List Int} {k : Nat} (hk : 1 ≤ k) (h : fallB xs k = true) : fallsTo xs (k + 1) = fallsTo xs k ++ [(k : Int)] := by
  unfold fallsTo; rw [List.range_succ, List.filter_append, List.map_append]; simp [hk, h]
theorem fallsTo_no {xs : List Int} {k : Nat} (h : fallB xs k = false) : fallsTo xs (k + 1) = fallsTo xs k := by
  unfold fallsTo; rw [List.range_succ, List.filter_append, List.map_append]; simp [h]
theorem fallsTo_len (xs : List Int) (k : Nat) : (fallsTo xs k).length ≤ k := by
  unfold fallsTo; rw [List.length_map]; exact Nat.le_trans (List.length_filter_le _ _) (by simp)
theorem fallsTo_mono (xs : List Int) {j k : Nat} (h : j ≤ k) : (fallsTo xs j).length ≤ (fallsTo xs k).length := by
  obtain ⟨d, rfl⟩ := Nat.le.dest h
  induction d with
  | zero => exact Nat.le_refl _
  | succ d ih =>
    refine Nat.le_trans (ih (by omega)) ?_
    unfold fallsTo; rw [List.length_map, List.length_map, ← Nat.add_assoc, List.range_succ, List.filter_append, List.length_append]; omega
theorem fallsTo_end (xs : List Int) {k : Nat} (h : xs.length ≤ 1) (hk : k = 1) : fallsTo xs k = fallsL xs := by
  subst hk
  unfold fallsL
  rcases (show xs.length = 0 ∨ xs.length = 1 by omega) with h | h <;> rw [h] <;> rfl

theorem Ext.toGrown' {w w' : World} (h : Ext w w') : w.grownBy w' none := ⟨h.os, h.tape, h.output, h.size, fun k hk _ => Below.block h k hk⟩

set_option maxHeartbeats 1000000 in
theorem falls1_calls (B : Nat) (v : Value) (c : Nat) (xs : List Int) (i : Nat) (h1i : 1 ≤ i) (hi : i < xs.length) (w : World) (hB : w.cell? ⟨B, 0, none⟩ = some v) (h : IS .u8 w v c xs) (h8 : xs.length ≤ 8) :
    Calls Tryd.prog 90 #[.int .i64 (i : Int), .pointer (some ⟨B, 0, none⟩)] w fun e w' => e = .returned (.bool (fallB xs i)) ∧ ∃ m, w' = w.drewN m := by
  obtain ⟨h1, h2, ao, rfl, hao⟩ := h.open
  obtain ⟨a, rfl⟩ : ∃ a, i = a + 1 := ⟨i - 1, by omega⟩
  unfold fallB
  simp only [Nat.add_sub_cancel, Int.natCast_add, Int.natCast_one, Int.cast_ofNat_Int]
  obtain ⟨N, hN⟩ : ∃ N, N = xs.length := ⟨_, rfl⟩
  rw [← hN] at hB hao h1 hi h8
  obtain ⟨b', o, rfl, hc⟩ : ∃ b o, ao = some ⟨b, o, none⟩ ∧ ∀ i, i < N → w.cell? ⟨b, o + i, none⟩ = some (.int .u8 (gi xs i)) := by
    rcases hao with ⟨_, h0, _⟩ | h
    · omega
    · exact h
  have ca := hc a (by omega)
  have cb := hc (a + 1) (by omega)
  clear hc hao h hN
  go_enter Tryd.func90, Tryd.ntmps90
  go_wp2
  go_quiet (fail)
  go_wp2
  go_ret
  exact ⟨rfl, _, rfl⟩

set_option maxHeartbeats 1000000 in
theorem falls_calls (v : Value) (c : Nat) (xs : List Int) (w : World) (h : IS .u8 w v c xs) (h8 : xs.length ≤ 8) :
    Calls Tryd.prog 80 #[v] w (RetI .i64 w (fallsL xs).length (fallsL xs)) := by
  obtain ⟨h1, h2, ao, rfl, hao⟩ := h.open
  have bx := Boxed.new w 22 (.slice ao xs.length c)
  have x0 : Ext w (w.alloc (.cells #[.slice ao xs.length c] 22)) := (Ext.refl w).alloc _
  have hcall : ∀ (i : Nat), 1 ≤ i → i < xs.length → ∀ wr, Ext (w.alloc (.cells #[.slice ao xs.length c] 22)) wr → Calls Tryd.prog 90 #[.int .i64 (i : Int), .pointer (some ⟨w.heap.size, 0, none⟩)] wr fun e w' => e = .returned (.bool (fallB xs i)) ∧ ∃ m, w' = wr.drewN m :=
    fun i a b wr hx => falls1_calls _ _ c xs i a b wr (hx.cell bx.cell) (h.ext (x0.trans hx)) h8
  have hcell : ∀ wr, Ext (w.alloc (.cells #[.slice ao xs.length c] 22)) wr → wr.cell? ⟨w.heap.size, 0, none⟩ = some (.slice ao xs.length c) := fun wr hx => hx.cell bx.cell
  have hL : (fallsTo xs xs.length) = fallsL xs := rfl
  have hL1 : xs.length ≤ 1 → fallsTo xs 1 = fallsL xs := fun h => fallsTo_end xs h rfl
  have hLle := fallsTo_len xs xs.length
  have hle : ∀ k, k ≤ xs.length → (fallsTo xs k).length ≤ (fallsL xs).length := fun k hk => fallsTo_mono xs hk
  have hle1 := hL1
  obtain ⟨M, hM⟩ : ∃ M, M = (fallsL xs).length := ⟨_, rfl⟩
  rw [hL, ← hM] at hLle
  rw [← hM]
  rw [← hM] at hle
  obtain ⟨N, hN⟩ : ∃ N, N = xs.length := ⟨_, rfl⟩
  rw [← hN] at hcall hcell h1 h8 hL hL1 hLle hle x0 ⊢
  have HC := Lib.hid hcall; have HV := Lib.hid hcell; have HL := Lib.hid hL; have HL1 := Lib.hid hL1; have HLE := Lib.hid hle; have HM := Lib.hid hM; have HX := Lib.hid x0
  clear hcall hcell hL hL1 hle hle1 hM hN h hao bx x0
  have hmk := run_make_cap (P := Tryd.prog) eiInt .i64 .i64 M (by omega) (by omega)
  go_enter Tryd.func80, Tryd.ntmps80
  go_wp2
  go_loopw [4, 5] (fun n i wr => ∃ k : Nat, 1 ≤ k ∧ (k ≤ N ∨ k = 1) ∧ n = .int .i64 ((fallsTo xs k).length : Int) ∧ i = .int .i64 (k : Int) ∧ Hid (Ext (w.alloc (.cells #[.slice ao N c] 22)) wr)) (fun _ i _ => N - (intOf i).toNat)
  case atStart => exact ⟨1, by omega, by omega, rfl, rfl, Lib.hid (Ext.refl _)⟩
  case round =>
    obtain ⟨k, hk1, hk, rfl, rfl, H⟩ := hrel
    have c1 := HV.out wr H.out
    have hfl := fallsTo_len xs k
    by_cases hlt : k < N
    · have hc := HC.out k hk1 hlt wr H.out
      by_cases hf : fallB xs k = true
      · rw [hf] at hc
        have Hy := Lib.hid (fallsTo_yes hk1 hf)
        have HCC := Lib.hid hc
        clear hf hc
        go_wp2_with fail
        refine HCC.out.mono ?_
        rintro e w' ⟨rfl, m, rfl⟩
        go_wp2
        go_roundw
        case rel => exact ⟨k + 1, by omega, by omega, by rw [Hy.out, List.length_append]; go_num, by go_num, Lib.hid (H.out.drewN m)⟩
        case measure => simp [intOf]; omega
      · rw [Bool.not_eq_true] at hf
        rw [hf] at hc
        have Hy := Lib.hid (fallsTo_no hf)
        have HCC := Lib.hid hc
        clear hf hc
        go_wp2_with fail
        refine HCC.out.mono ?_
        rintro e w' ⟨rfl, m, rfl⟩
        go_wp2
        go_roundw
        case rel => exact ⟨k + 1, by omega, by omega, by rw [Hy.out], by go_num, Lib.hid (H.out.drewN m)⟩
        case measure => simp [intOf]; omega
    · have hLk : ((fallsTo xs k).length : Int) = (M : Int) := by
        rw [HM.out]
        rcases hk with hk | hk
        · rw [show k = N by omega, HL.out]
        · subst hk; rw [HL1.out (by omega)]
      rw [hLk]
      clear hLk hk hk1 hfl
      obtain ⟨v1, rfl⟩ : ∃ v1, v1 = wr := ⟨_, rfl⟩
      have hx1 : Ext v1 (v1.alloc (.cells (madeCells #[.int .i64 0] M) 3)) := (Ext.refl v1).alloc _
      have ho1 : (v1.alloc (.cells (madeCells #[.int .i64 0] M) 3)).ownsRow v1.heap.size 3 1 (.slice (some ⟨v1.heap.size, 0, none⟩) 0 M) 0 ((fallsTo xs 1).map (Value.int .i64)) :=
        World.ownsRow_made v1 (madeCells #[.int .i64 0] M) M (Nat.le_refl _) (by unfold maxLen; omega) (by simp [size_madeCells])
      have HX1 := Lib.hid hx1; have HO1 := Lib.hid ho1
      clear hx1 ho1
      go_wp2
      go_loopw [6, 7] (fun l i wr' => ∃ k m : Nat, 1 ≤ k ∧ (k ≤ N ∨ k = 1) ∧ m ≤ M ∧ l = .slice (some ⟨v1.heap.size, 0, none⟩) m M ∧ i = .int .i64 (k : Int) ∧ Hid (m = (fallsTo xs k).length) ∧ Ext v1 wr' ∧ wr'.ownsRow v1.heap.size 3 1 (.slice (some ⟨v1.heap.size, 0, none⟩) m M) m ((fallsTo xs k).map (Value.int .i64))) (fun _ i _ => N - (intOf i).toNat)
      case atStart => exact ⟨1, 0, by omega, by omega, by omega, rfl, rfl, Lib.hid rfl, HX1.out, HO1.out⟩
      case round =>
        obtain ⟨k, m, hk1, hk, hm, rfl, rfl, Hm, hext, hown⟩ := hrel
        have c1 := HV.out _ (H.out.trans hext)
        by_cases hlt : k < N
        · have hc := HC.out k hk1 hlt _ (H.out.trans hext)
          by_cases hf : fallB xs k = true
          · rw [hf] at hc
            have hm1 : m + 1 ≤ M := by
              have := HLE.out (k + 1) (by omega); rw [fallsTo_yes hk1 hf, List.length_append, ← Hm.out] at this; exact this
            have Hy := Lib.hid (fallsTo_yes hk1 hf)
            have HCC := Lib.hid hc
            clear hf hc
            go_wp2_with fail
            refine HCC.out.mono ?_
            rintro e w' ⟨rfl, d, rfl⟩
            have hown2 := hown.kept (((Ext.refl _).drewN d).toGrown') (.inr (by simp [Value.ownBlock]))
            go_wp2_with (at_builtin; refine app_fits eiInt rfl _ _ rfl v1.heap.size v1.heap.size m M _ rfl (hown2.alloc _) _ _ _ rfl (VS.one _ _ _) (one1 _) ?d3 ?d4 ?_)
            case d3 => simp; omega
            case d4 => have := hext.size; simp; omega
            intro w1 hown' hb
            go_wp2
            go_roundw
            case rel => exact ⟨k + 1, m + 1, by omega, by omega, by omega, rfl, by go_num, by rw [Hy.out, List.length_append, ← Hm.out]; rfl, Below.trans ((hext.drewN _).alloc _) hb, by rw [Hy.out, List.map_append]; exact hown'⟩
            case measure => simp [intOf]; omega
          · rw [Bool.not_eq_true] at hf
            rw [hf] at hc
            have Hy := Lib.hid (fallsTo_no hf)
            have HCC := Lib.hid hc
            clear hf hc
            go_wp2_with fail
            refine HCC.out.mono ?_
            rintro e w' ⟨rfl, d, rfl⟩
            have hown2 := hown.kept (((Ext.refl _).drewN d).toGrown') (.inr (by simp [Value.ownBlock]))
            go_wp2
            go_roundw
            case rel => exact ⟨k + 1, m, by omega, by omega, hm, rfl, by go_num, by rw [Hy.out]; exact Hm, hext.drewN d, by rw [Hy.out]; exact hown2⟩
            case measure => simp [intOf]; omega
        · have hfin : fallsTo xs k = fallsL xs := by
            rcases hk with hk | hk
            · rw [show k = N by omega, HL.out]
            · subst hk; exact HL1.out (by omega)
          have hmM : m = M := by rw [Hm.out, hfin, HM.out]
          subst hmM
          rw [hfin] at hown
          obtain ⟨c', hIS⟩ : ∃ c, IS .i64 wr (.slice (some ⟨v1.heap.size, 0, none⟩) m m) c (fallsL xs) := IS.of_own hown
          have hcc : c' = m := hIS.len.2.1.symm
          subst hcc
          have HIS := Lib.hid hIS; have HXX := Lib.hid (HX.out.trans ((H.out).trans hext))
          clear hIS hown hext hk hk1 hm hfin
          go_wp2
          go_ret
          exact ⟨_, rfl, HIS.out, HXX.out, NN.mk⟩
end Go.Proofs.YtigffblelngpjaaDoor
/- Contracts of package permutations: the pairs that cross, and the iterator over the pairs. -/
namespace Go.Proofs.YtigffblelngpjaaDoor
set_option linter.unusedVariables false
set_option linter.unusedSimpArgs false
open Go Go.RowKit Go.Shelf
attribute [local go_sem] Oper.semAt_some

/-- Do the strands a and b cross? (a < b: places from 1 on.) -/
def crossB (xs : List Int) (a b : Nat) : Bool := decide (gi xs (b - 1) < gi xs (a - 1))

/-- A pair of places, in range. -/
abbrev Pr (n : Nat) := { x : Nat × Nat // 1 ≤ x.1 ∧ x.1 < x.2 ∧ x.2 ≤ n }
def Pr.val {n : Nat} (x : Pr n) : Value := .agg #[.int .u8 (x.1.1 : Int), .int .u8 (x.1.2 : Int)]

set_option maxHeartbeats 1000000 in
theorem crossing_calls (a : Option Addr) (n c : Nat) (w : World) :
    Calls Tryd.prog 88 #[.slice a n c] w fun e w' => e = .returned (.func (.func 94) #[] #[.pointer (some ⟨w.heap.size, 0, none⟩)]) ∧ w' = w.alloc (.cells #[.slice a n c] 22) := by
  go_enter Tryd.func88, Tryd.ntmps88
  go_wp2
  go_ret
  exact ⟨rfl, rfl⟩

set_option maxHeartbeats 1000000 in
theorem crossing1_calls (B : Nat) (v : Value) (c : Nat) (xs : List Int) (x : Pr xs.length) (w : World) (hB : w.cell? ⟨B, 0, none⟩ = some v) (h : IS .u8 w v c xs) (h8 : xs.length ≤ 8) :
    Calls Tryd.prog 94 #[x.val, .pointer (some ⟨B, 0, none⟩)] w fun e w' => e = .returned (.bool (crossB xs x.1.1 x.1.2)) ∧ Ext w w' := by
  obtain ⟨h1, h2, ao, rfl, hao⟩ := h.open
  obtain ⟨⟨a, b⟩, p1, p2, p3⟩ := x
  obtain ⟨a, rfl⟩ : ∃ a', a = a' + 1 := ⟨a - 1, by simp at p1; omega⟩
  obtain ⟨b, rfl⟩ : ∃ b', b = b' + 1 := ⟨b - 1, by simp at p2; omega⟩
  simp only at p1 p2 p3
  unfold crossB Pr.val
  simp only [Nat.add_sub_cancel, Int.natCast_add, Int.natCast_one, Int.cast_ofNat_Int]
  obtain ⟨N, hN⟩ : ∃ N, N = xs.length := ⟨_, rfl⟩
  rw [← hN] at hB hao h1 p3 h8
  obtain ⟨b', o, rfl, hc⟩ : ∃ b o, ao = some ⟨b, o, none⟩ ∧ ∀ i, i < N → w.cell? ⟨b, o + i, none⟩ = some (.int .u8 (gi xs i)) := by
    rcases hao with ⟨_, h0, _⟩ | h
    · omega
    · exact h
  have x1 : Ext w (w.alloc (.cells #[.int .u8 ((a : Int) + 1), .int .u8 ((b : Int) + 1)] 112)) := (Ext.refl w).alloc _
  have ca := x1.cell (hc a (by omega))
  have cb := x1.cell (hc b (by omega))
  have cB := x1.cell hB
  have bX := B2.new w (.int .u8 ((a : Int) + 1)) (.int .u8 ((b : Int) + 1)) 112
  have k0 := bX.c0
  have k1 := bX.c1
  have HE := Lib.hid x1
  clear hc hao h hN bX x1 hB
  go_enter Tryd.func94, Tryd.ntmps94
  go_wp2
  go_quiet (fail)
  go_wp2
  go_ret
  exact ⟨rfl, HE.out.drewN _⟩
end Go.Proofs.YtigffblelngpjaaDoor
/- The iterator over the pairs of strands that are wanted. -/
namespace Go.Proofs.YtigffblelngpjaaDoor
set_option linter.unusedVariables false
set_option linter.unusedSimpArgs false
open Go Go.RowKit Go.Shelf
attribute [local go_sem] Oper.semAt_some

/-! ### What a step keeps -/
/-- The blocks in Y are as they were; the streams too; no block has gone. -/
structure KL (Y : Nat → Prop) (w w' : World) : Prop where
  os : w'.os = w.os
  tape : w'.tape = w.tape
  output : w'.output = w.output
  size : w.heap.size ≤ w'.heap.size
  block : ∀ b o, Y b → w.heap[b]? = some o → w'.heap[b]? = some o
theorem KL.of_ext {Y : Nat → Prop} {w w' : World} (h : Ext w w') : KL Y w w' := ⟨h.os, h.tape, h.output, h.size, fun b o _ hb => h.block hb⟩
theorem KL.refl (Y : Nat → Prop) (w : World) : KL Y w w := KL.of_ext (Ext.refl w)
theorem KL.trans {Y : Nat → Prop} {a b c : World} (h : KL Y a b) (k : KL Y b c) : KL Y a c :=
  ⟨k.os.trans h.os, k.tape.trans h.tape, k.output.trans h.output, Nat.le_trans h.size k.size, fun i o hi ho => k.block i o hi (h.block i o hi ho)⟩
theorem KL.setCell {Y : Nat → Prop} {w w' : World} (h : KL Y w w') {p : Addr} (hp : ¬ Y p.block) (u : Value) : KL Y w (w'.setCell p u) :=
  h.trans ⟨rfl, rfl, rfl, by simp [World.setCell], fun b o hb ho => (Below.heap_setCell _ _ _ _ (fun e => hp (e ▸ hb))).trans ho⟩
theorem KL.alloc {Y : Nat → Prop} {w w' : World} (h : KL Y w w') (o : Obj) : KL Y w (w'.alloc o) := h.trans (KL.of_ext ((Ext.refl w').alloc o))
theorem KL.ext {Y : Nat → Prop} {w w' w'' : World} (h : KL Y w w') (k : Ext w' w'') : KL Y w w'' := h.trans (KL.of_ext k)
theorem KL.drewN {Y : Nat → Prop} {w w' : World} (h : KL Y w w') (n : Nat) : KL Y w (w'.drewN n) := h.ext ((Ext.refl w').drewN n)
theorem KL.grown {Y : Nat → Prop} {w w' w'' : World} {row : Option Nat} (h : KL Y w w') (hg : w'.grownBy w'' row) (hr : ∀ k, row = some k → ¬ Y k) : KL Y w w'' :=
  h.trans ⟨hg.os, hg.tape, hg.output, hg.size, fun b o hb ho => (hg.block b (lt_of_block ho) (fun e => hr b e.symm hb)).trans ho⟩
theorem KL.cell {Y : Nat → Prop} {w w' : World} (h : KL Y w w') {a : Addr} {v : Value} (ha : Y a.block) (hc : w.cell? a = some v) : w'.cell? a = some v := by
  have hlt := World.block_lt_of_cell? w a hc
  have hb : w.heap[a.block]? = some w.heap[a.block] := Array.getElem?_eq_getElem hlt
  have := h.block _ _ ha hb
  exact (World.cell?_of_block (w := w) (this.trans hb.symm)).trans hc
theorem KL.toExt {Y : Nat → Prop} {w w0 w' : World} (h : Ext w w0) (k : KL Y w0 w') (hY : ∀ b, b < w.heap.size → Y b) : Ext w w' :=
  Below.trans h ⟨k.os, k.tape, k.output, k.size, fun b hb => by
    have hlt : b < w0.heap.size := Nat.lt_of_lt_of_le hb h.size
    have hb0 : w0.heap[b]? = some w0.heap[b] := Array.getElem?_eq_getElem hlt
    rw [k.block _ _ (hY b hb) hb0, hb0]⟩
theorem KL.putObj {Y : Nat → Prop} {w : World} (hY : ∀ b, Y b → b < w.heap.size) (W : World) (l : Nat) (o o' : Obj) (hl : w.heap.size ≤ l) (h : W.heap[l]? = some o) (_ : o.isCells = false) (_ : o.isWalk = false) : KL Y W (W.putObj l o') :=
  (KL.refl Y W).grown (grownBy_putObj' W l o') (fun k e hk => by cases e; have := hY _ hk; omega)
theorem Ext.toGrown {w w' : World} (h : Ext w w') : w.grownBy w' none := ⟨h.os, h.tape, h.output, h.size, fun k hk _ => Below.block h k hk⟩

/-! ### The pairs in their order -/
def pick (n : Nat) (want : Nat → Nat → Bool) (a b : Nat) : Option (Pr n) :=
  if h : 1 ≤ a ∧ a < b ∧ b ≤ n then (if want a b then some ⟨(a, b), h⟩ else none) else none
def prow (n : Nat) (want : Nat → Nat → Bool) (a k : Nat) : List (Pr n) := (List.range k).filterMap (pick n want a)
def prows (n : Nat) (want : Nat → Nat → Bool) (k : Nat) : List (Pr n) := (List.range k).flatMap fun a => prow n want a (n + 1)
theorem prow_succ (n : Nat) (want : Nat → Nat → Bool) (a k : Nat) : prow n want a (k + 1) = prow n want a k ++ (pick n want a k).toList := by
  unfold prow; rw [List.range_succ, List.filterMap_append]; cases h : pick n want a k <;> simp [List.filterMap_cons, h]
theorem prows_succ (n : Nat) (want : Nat → Nat → Bool) (k : Nat) : prows n want (k + 1) = prows n want k ++ prow n want k (n + 1) := by
  unfold prows; rw [List.range_succ, List.flatMap_append]; simp
theorem pick_yes {n : Nat} {want : Nat → Nat → Bool} {a b : Nat} (h : 1 ≤ a ∧ a < b ∧ b ≤ n) (hw : want a b = true) : pick n want a b = some ⟨(a, b), h⟩ := by unfold pick; rw [dif_pos h, if_pos hw]
theorem pick_no {n : Nat} {want : Nat → Nat → Bool} {a b : Nat} (hw : want a b = false) : pick n want a b = none := by unfold pick; split <;> simp [hw]
theorem pick_out {n : Nat} {want : Nat → Nat → Bool} {a b : Nat} (h : ¬ (1 ≤ a ∧ a < b ∧ b ≤ n)) : pick n want a b = none := by unfold pick; rw [dif_neg h]
theorem prow_nil {n : Nat} {want : Nat → Nat → Bool} {a k : Nat} (h : k ≤ a + 1) : prow n want a k = [] := by
  unfold prow
  rw [List.filterMap_eq_nil_iff]
  intro b hb
  exact pick_out (by have := List.mem_range.1 hb; omega)
theorem prow_zero {n : Nat} {want : Nat → Nat → Bool} {k : Nat} : prow n want 0 k = [] := by
  unfold prow
  rw [List.filterMap_eq_nil_iff]
  intro b hb
  exact pick_out (by omega)
theorem prows_one (n : Nat) (want : Nat → Nat → Bool) : prows n want 1 = [] := by rw [prows_succ, prow_zero]; rfl
theorem prow_prefix (n : Nat) (want : Nat → Nat → Bool) (a : Nat) {j k : Nat} (h : j ≤ k) : prow n want a j <+: prow n want a k := by
  obtain ⟨d, rfl⟩ := Nat.le.dest h
  induction d with
  | zero => exact List.prefix_refl _
  | succ d ih => exact (ih (by omega)).trans (by rw [← Nat.add_assoc, prow_succ]; exact List.prefix_append _ _)
theorem prows_prefix (n : Nat) (want : Nat → Nat → Bool) {j k : Nat} (h : j ≤ k) : prows n want j <+: prows n want k := by
  obtain ⟨d, rfl⟩ := Nat.le.dest h
  induction d with
  | zero => exact List.prefix_refl _
  | succ d ih => exact (ih (by omega)).trans (by rw [← Nat.add_assoc, prows_succ]; exact List.prefix_append _ _)
theorem at_prefix (n : Nat) (want : Nat → Nat → Bool) {a b : Nat} (ha : a < n) (hb : b ≤ n) : prows n want a ++ prow n want a (b + 1) <+: prows n want n :=
  List.IsPrefix.trans (by rw [prows_succ]; exact (List.prefix_append_right_inj _).2 (prow_prefix n want a (by omega))) (prows_prefix n want (show a + 1 ≤ n by omega))

/-- All of them. -/
def prsAll (n : Nat) (want : Nat → Nat → Bool) : List (Pr n) := prows n want n
/-- Stops on its way. -/
theorem prows_end (n : Nat) (want : Nat → Nat → Bool) (k : Nat) (h : n ≤ k) : prows n want k = prows n want n := by
  obtain ⟨d, rfl⟩ := Nat.le.dest h
  induction d with
  | zero => rfl
  | succ d ih => rw [← Nat.add_assoc, prows_succ, ih (by omega)]; rw [show prow n want (n + d) (n + 1) = [] from prow_nil (by omega), List.append_nil]

set_option maxHeartbeats 1000000 in
theorem pairs_calls (n : Int) (g : Nat) (lb : Array Value) (w : World) :
    Calls Tryd.prog 89 #[.int .i64 n, .func (.func g) #[] lb] w fun e w' => e = .returned (.func (.func 95) #[] #[.pointer (some ⟨w.heap.size, 0, none⟩), .pointer (some ⟨w.heap.size + 1, 0, none⟩)]) ∧ w' = (w.alloc (.cells #[.int .i64 n] 3)).alloc (.cells #[.func (.func g) #[] lb] 106) := by
  go_enter Tryd.func89, Tryd.ntmps89
  go_wp2
  go_ret
  exact ⟨rfl, rfl⟩

theorem prow_len (n : Nat) (want : Nat → Nat → Bool) (a k : Nat) : (prow n want a k).length ≤ k := by
  unfold prow; exact Nat.le_trans (List.length_filterMap_le _ _) (by simp)
theorem prows_len (n : Nat) (want : Nat → Nat → Bool) (k : Nat) : (prows n want k).length ≤ k * (n + 1) := by
  induction k with
  | zero => simp [prows]
  | succ k ih => rw [prows_succ, List.length_append, Nat.succ_mul]; have := prow_len n want k (n + 1); omega
theorem prsAll_len {n : Nat} (hn : n ≤ 8) (want : Nat → Nat → Bool) : (prsAll n want).length ≤ 72 :=
  Nat.le_trans (prows_len n want n) (Nat.le_trans (Nat.mul_le_mul hn (show n + 1 ≤ 9 by omega)) (by omega))

set_option maxRecDepth 100000 in
set_option maxHeartbeats 2000000 in
theorem pairs_c_in (m : Nat) (hm : 1 ≤ m) (l Bn Bf Bp n : Nat) (hn : n ≤ 8) (want : Nat → Nat → Bool) (Kp : World → World → Prop) (kt : ∀ {A B C : World}, Kp A B → Kp B C → Kp A C) (ke : ∀ {A B : World}, Ext A B → Kp A B)
    (J Jx : List (Pr n) → World → Prop) (H : Nat) (hJ : AbidesFrom H J)
    (hY : ∀ pre x W, J pre W → pre.length < (prsAll n want).length → YieldAt Fence.wide (m - 1) Tryd.prog l #[x.val] W fun e W' =>
      (e = .returned (.bool true) ∧ J (pre ++ [x]) W' ∧ Kp W W') ∨ (e = .returned (.bool false) ∧ Jx (pre ++ [x]) W'))
    (W : World) (hK : ∀ W', Kp W W' → W'.cell? ⟨Bn, 0, none⟩ = some (.int .i64 (n : Int)) ∧ W'.cell? ⟨Bf, 0, none⟩ = some (.func (.func 94) #[] #[.pointer (some ⟨Bp, 0, none⟩)]) ∧
      ∀ x : Pr n, Calls Tryd.prog 94 #[x.val, .pointer (some ⟨Bp, 0, none⟩)] W' fun e W'' => e = .returned (.bool (want x.1.1 x.1.2)) ∧ Ext W' W'') (h0 : J [] W) :
    CallsIn Fence.wide m Tryd.prog 95 #[.func (.yield l) #[] #[], .pointer (some ⟨Bn, 0, none⟩), .pointer (some ⟨Bf, 0, none⟩)] W fun e W' => (∃ v, e = .returned v) ∧
      ((∃ ys, ys = prsAll n want ∧ J ys W') ∨ (∃ pre, pre <+: prsAll n want ∧ Jx pre W')) := by
  refine callsIn_of_wp Tryd.func95 rfl trivial ?_ rfl
  simp only [Tryd.ntmps95, List.size_toArray, List.length_cons, List.length_nil, Nat.reduceAdd, Nat.reduceSub, Array.replicate_succ, Array.replicate_zero, List.push_toArray, List.append_toArray, List.nil_append, List.cons_append]
  have HY := Lib.hid hY; have HK := Lib.hid hK; have HJ := Lib.hid hJ
  have k0 := ke (Ext.refl W)
  clear hY hK hJ
  gi_wp2
  gi_loopw [4] (fun i wr => ∃ a : Nat, 1 ≤ a ∧ (a : Int) ≤ max 1 (n : Int) ∧ i = .int .i64 a ∧ Hid (Kp W wr ∧ J (prows n want a) wr)) (fun i _ => n - (intOf i).toNat)
  case atStart => exact ⟨1, by omega, by omega, rfl, Lib.hid ⟨k0, by rw [prows_one]; exact h0⟩⟩
  case round =>
    obtain ⟨a, ha1, ha, rfl, Hs⟩ := hrel
    have c1 := (HK.out _ Hs.out.1).1
    by_cases hlt : a < n
    · gi_wp2
      gi_loopw [5] (fun i wr' => ∃ b : Nat, a < b ∧ b ≤ n + 1 ∧ i = .int .i64 b ∧ Hid (Kp W wr' ∧ J (prows n want a ++ prow n want a b) wr')) (fun i _ => n + 1 - (intOf i).toNat)
      case atStart => exact ⟨a + 1, by omega, by omega, by go_num, Lib.hid ⟨Hs.out.1, by rw [prow_nil (Nat.le_refl _), List.append_nil]; exact Hs.out.2⟩⟩
      case round =>
        obtain ⟨b, hb1, hb2, rfl, H2⟩ := hrel
        have d1 := (HK.out _ H2.out.1).1
        by_cases hbn : b ≤ n
        · have hx0 : Ext wr (wr.alloc (.cells #[.int .u8 (a : Int), .int .u8 (b : Int)] 112)) := (Ext.refl wr).alloc _
          have b2 := B2.new wr (.int .u8 (a : Int)) (.int .u8 (b : Int)) 112
          have q0 := b2.c0
          have q1 := b2.c1
          have hx1 := hx0
          obtain ⟨W1, hW1⟩ : ∃ W1, W1 = wr.alloc (.cells #[.int .u8 (a : Int), .int .u8 (b : Int)] 112) := ⟨_, rfl⟩
          have HW1 := Lib.hid hW1
          rw [← hW1] at hx1 b2
          have kp1 : Kp W W1 := kt H2.out.1 (ke hx1)
          have hj1 := HJ.out _ _ _ none H2.out.2 hx1.toGrown (fun r e => by cases e)
          obtain ⟨g1, g2, g3⟩ := HK.out _ kp1
          rw [hW1] at g1 g2 g3
          have g4 := g3 ⟨(a, b), ha1, hb1, hbn⟩
          have HB2 := Lib.hid b2; have HX := Lib.hid hx1; have HKP := Lib.hid kp1; have HJ1 := Lib.hid hj1
          have hd : 1 ≤ m := hm
          clear hx0 hx1 b2 hW1 kp1 hj1 g3
          unfold Pr.val at g4
          simp only at g4
          have G4 := Lib.hid (callsIn_wide.2 g4 : CallsIn Fence.wide (m - 1) _ _ _ _ _)
          clear g4
          by_cases hw : want a b = true
          · rw [hw] at G4
            have hps : prow n want a (b + 1) = prow n want a b ++ [⟨(a, b), ha1, hb1, hbn⟩] := by rw [prow_succ, pick_yes ⟨ha1, hb1, hbn⟩ hw]; rfl
            have hpf : (prows n want a ++ prow n want a b) ++ [⟨(a, b), ha1, hb1, hbn⟩] <+: prsAll n want := by
              rw [List.append_assoc, ← hps]; exact at_prefix n want hlt hbn
            have hpl : (prows n want a ++ prow n want a b).length < (prsAll n want).length := by
              have := hpf.length_le; rw [List.length_append] at this; simp only [List.length_cons, List.length_nil] at this; omega
            have HYY : Hid (∀ w', Ext W1 w' → YieldAt Fence.wide (m - 1) Tryd.prog l #[Pr.val ⟨(a, b), ha1, hb1, hbn⟩] w' fun e W' =>
                (e = .returned (.bool true) ∧ J ((prows n want a ++ prow n want a b) ++ [⟨(a, b), ha1, hb1, hbn⟩]) W' ∧ Kp w' W') ∨ (e = .returned (.bool false) ∧ Jx ((prows n want a ++ prow n want a b) ++ [⟨(a, b), ha1, hb1, hbn⟩]) W')) :=
              Lib.hid fun w' hx => HY.out _ _ w' (HJ.out _ _ _ none HJ1.out hx.toGrown (fun r e => by cases e)) hpl
            have Hps := Lib.hid hps; have Hpf := Lib.hid hpf
            clear hps hpf hpl
            gi_wp2_with (refine ⟨trivial, ?_⟩; gi_at_call 94; refine G4.out.mono ?_; rintro e w' ⟨rfl, hx⟩; have r0 := hx.cell q0; have r1 := hx.cell q1; have hx' := hx; rw [← HW1.out] at hx'; obtain ⟨fn, tmps, assign, body, hy, hR⟩ := HYY.out w' hx'; unfold Pr.val at hy; dsimp only at hy)
            refine hR.mono ?_
            have Hx' := Lib.hid hx'
            rintro e W2 (⟨rfl, hJ2, hk2⟩ | ⟨rfl, hx2⟩)
            · have H3 := Lib.hid hJ2; have H4 := Lib.hid hk2
              clear hJ2 hk2
              gi_wp2
              go_roundw
              case rel => exact ⟨b + 1, by omega, by omega, by go_num, Lib.hid ⟨kt HKP.out (kt (ke Hx'.out) H4.out), by rw [Hps.out, ← List.append_assoc]; exact H3.out⟩⟩
              case measure => simp [intOf]; omega
            · have H3 := Lib.hid hx2
              clear hx2
              gi_wp2
              refine bodyPost_ret (results_none rfl _ _ _) rfl ?_
              exact ⟨⟨_, rfl⟩, .inr ⟨_, Hpf.out, H3.out⟩⟩
          · rw [Bool.not_eq_true] at hw
            rw [hw] at G4
            have hps : prow n want a (b + 1) = prow n want a b := by rw [prow_succ, pick_no hw]; simp
            have Hps := Lib.hid hps
            clear hps
            gi_wp2_with (refine ⟨trivial, ?_⟩; gi_at_call 94; refine G4.out.mono ?_; rintro e w' ⟨rfl, hx⟩)
            all_goals (refine ⟨fun _ h => (by cases h), ?_⟩)
            all_goals gi_wp2
            all_goals go_roundw
            all_goals first
              | exact ⟨b + 1, by omega, by omega, by go_num, Lib.hid ⟨kt HKP.out (ke (by rw [HW1.out]; exact hx)), by rw [Hps.out]; exact HJ.out _ _ _ none HJ1.out (Ext.toGrown (by rw [HW1.out]; exact hx)) (fun r e => by cases e)⟩⟩
              | (simp [intOf]; omega)
        · gi_wp2
          go_roundw
          case rel => exact ⟨a + 1, by omega, by omega, by go_num, Lib.hid ⟨H2.out.1, by rw [prows_succ]; have := H2.out.2; rwa [show b = n + 1 by omega] at this⟩⟩
          case measure => simp [intOf]; omega
    · gi_wp2
      go_end0
      exact ⟨⟨_, rfl⟩, .inl ⟨_, rfl, by have := Hs.out.2; rw [prows_end n want a (by omega)] at this; exact this⟩⟩

theorem pairs_c_stops (m : Nat) (hm : 1 ≤ m) (Bn Bf Bp n : Nat) (hn : n ≤ 8) (want : Nat → Nat → Bool) (Y : Nat → Prop) (w0 : World)
    (hK : ∀ W', KL Y w0 W' → W'.cell? ⟨Bn, 0, none⟩ = some (.int .i64 (n : Int)) ∧ W'.cell? ⟨Bf, 0, none⟩ = some (.func (.func 94) #[] #[.pointer (some ⟨Bp, 0, none⟩)]) ∧
      ∀ x : Pr n, Calls Tryd.prog 94 #[x.val, .pointer (some ⟨Bp, 0, none⟩)] W' fun e W'' => e = .returned (.bool (want x.1.1 x.1.2)) ∧ Ext W' W'') :
    SeqStopsK Fence.wide m Tryd.prog 95 #[.pointer (some ⟨Bn, 0, none⟩), .pointer (some ⟨Bf, 0, none⟩)] (fun x : Pr n => #[x.val]) (KL Y) (fun ys => ys = prsAll n want) (fun pre => pre <+: prsAll n want) (prsAll n want).length w0 :=
  fun l J Jx W hW hJ hJx hY h0 => pairs_c_in m hm l Bn Bf Bp n hn want (KL Y) KL.trans KL.of_ext J Jx _ hJ hY W (fun W' hk => hK W' ((KL.of_ext hW).trans hk)) h0

end Go.Proofs.YtigffblelngpjaaDoor
/- Contracts of permutations.Length. -/
namespace Go.Proofs.YtigffblelngpjaaDoor
set_option linter.unusedVariables false
set_option linter.unusedSimpArgs false
open Go Go.RowKit Go.Shelf
attribute [local go_sem] Oper.semAt_some

/-- The pairs that cross, and their number. -/
def crossers (xs : List Int) : List (Pr xs.length) := prsAll xs.length (crossB xs)

theorem boxed_ext {w w' : World} {B : Nat} {t : TypeId} {v : Value} (h : Boxed w B t v) (e : Ext w w') : Boxed w' B t v := Ext.block e h
/-- What the iterator over the crossing pairs wants of the world. -/
theorem cross_ready {xs : List Int} (h8 : xs.length ≤ 8) {v : Value} {c : Nat} {w W0 : World} (h : IS .u8 w v c xs) (hx : Ext w W0) {Y : Nat → Prop} {Bp Bn Bf : Nat} (hYw : ∀ b, b < w.heap.size → Y b) (y1 : Y Bp) (y2 : Y Bn) (y3 : Y Bf)
    (b1 : Boxed W0 Bp 22 v) (b2 : Boxed W0 Bn 3 (.int .i64 (xs.length : Int))) (b3 : Boxed W0 Bf 106 (.func (.func 94) #[] #[.pointer (some ⟨Bp, 0, none⟩)])) :
    ∀ W', KL Y W0 W' → W'.cell? ⟨Bn, 0, none⟩ = some (.int .i64 (xs.length : Int)) ∧ W'.cell? ⟨Bf, 0, none⟩ = some (.func (.func 94) #[] #[.pointer (some ⟨Bp, 0, none⟩)]) ∧
      ∀ x : Pr xs.length, Calls Tryd.prog 94 #[x.val, .pointer (some ⟨Bp, 0, none⟩)] W' fun e W'' => e = .returned (.bool (crossB xs x.1.1 x.1.2)) ∧ Ext W' W'' :=
  fun W' hk => ⟨hk.cell (a := ⟨Bn, 0, none⟩) y2 b2.cell, hk.cell (a := ⟨Bf, 0, none⟩) y3 b3.cell, fun x => crossing1_calls Bp v c xs x W' (hk.cell (a := ⟨Bp, 0, none⟩) y1 b1.cell) (h.ext (KL.toExt hx hk hYw)) h8⟩

set_option maxRecDepth 100000 in
set_option maxHeartbeats 2000000 in
theorem Length_calls (m : Nat) (hm : 3 ≤ m) (v : Value) (c : Nat) (xs : List Int) (w : World) (h : IS .u8 w v c xs) (hb : ∀ i, i < xs.length → 0 ≤ gi xs i ∧ gi xs i ≤ 255) :
    Calls Tryd.prog 79 #[v] w (RetNE w (if pcheck xs = 0 then ((crossers xs).length : Int) else 0) (pcheck xs)) := by
  obtain ⟨h1, h2, ao, rfl, hao⟩ := h.open
  have h1m : 1 ≤ m := by omega
  have hP := Pcheck_calls _ c xs w h hb
  refine (callsIn_wide (n := m)).1 ?_
  refine callsIn_of_wp_marks Tryd.func79 rfl trivial ?_ rfl
  simp only [Tryd.ntmps79, List.size_toArray, List.length_cons, List.length_nil, Nat.reduceAdd, Nat.reduceSub, Array.replicate_succ, Array.replicate_zero, List.push_toArray, List.append_toArray, List.nil_append, List.cons_append]
  obtain ⟨e0, he0⟩ : ∃ e0, e0 = pcheck xs := ⟨_, rfl⟩
  rw [← he0] at hP ⊢
  have HP := Lib.hid hP
  have HE := Lib.hid he0
  have HIS := Lib.hid h
  clear hP he0 h hao
  by_cases he : e0 = 0
  · subst he
    have h8 := (pcheck_zero HE.out.symm).2.1
    gi_wp2_with first
      | (refine ⟨trivial, ?_⟩; gi_at_call 53; refine (callsIn_wide.2 HP.out).mono ?_; rintro e w1 ⟨rfl, hx⟩)
      | (refine ⟨trivial, ?_⟩; gi_at_call 88; refine (callsIn_wide.2 (crossing_calls _ _ _ _)).mono ?_; rintro e w2 ⟨rfl, rfl⟩)
      | (refine ⟨trivial, ?_⟩; gi_at_call 89; refine (callsIn_wide.2 (pairs_calls _ _ _ _)).mono ?_; rintro e w3 ⟨rfl, rfl⟩)
    have bS := Boxed.new w1 3 (.int .i64 0)
    have bP := Boxed.new (w1.alloc (.cells #[.int .i64 0] 3)) 22 (.slice ao xs.length c)
    have bN := Boxed.new ((w1.alloc (.cells #[.int .i64 0] 3)).alloc (.cells #[.slice ao xs.length c] 22)) 3 (.int .i64 (xs.length : Int))
    have bF := Boxed.new (((w1.alloc (.cells #[.int .i64 0] 3)).alloc (.cells #[.slice ao xs.length c] 22)).alloc (.cells #[.int .i64 (xs.length : Int)] 3)) 106 (.func (.func 94) #[] #[.pointer (some ⟨w1.heap.size + 1, 0, none⟩)])
    replace bN := bN.alloc (.cells #[.func (.func 94) #[] #[.pointer (some ⟨w1.heap.size + 1, 0, none⟩)]] 106)
    replace bP := (bP.alloc (.cells #[.int .i64 (xs.length : Int)] 3)).alloc (.cells #[.func (.func 94) #[] #[.pointer (some ⟨w1.heap.size + 1, 0, none⟩)]] 106)
    replace bS := ((bS.alloc (.cells #[.slice ao xs.length c] 22)).alloc (.cells #[.int .i64 (xs.length : Int)] 3)).alloc (.cells #[.func (.func 94) #[] #[.pointer (some ⟨w1.heap.size + 1, 0, none⟩)]] 106)
    simp only [World.size_alloc] at bN bP bF
    have hx0 : Ext w1 ((((w1.alloc (.cells #[.int .i64 0] 3)).alloc (.cells #[.slice ao xs.length c] 22)).alloc (.cells #[.int .i64 (xs.length : Int)] 3)).alloc (.cells #[.func (.func 94) #[] #[.pointer (some ⟨w1.heap.size + 1, 0, none⟩)]] 106)) := ((((Ext.refl w1).alloc _).alloc _).alloc _).alloc _
    have hsz : ((((w1.alloc (.cells #[.int .i64 0] 3)).alloc (.cells #[.slice ao xs.length c] 22)).alloc (.cells #[.int .i64 (xs.length : Int)] 3)).alloc (.cells #[.func (.func 94) #[] #[.pointer (some ⟨w1.heap.size + 1, 0, none⟩)]] 106)).heap.size = w1.heap.size + 4 := by simp
    obtain ⟨W0, hW0⟩ : ∃ W0, ((((w1.alloc (.cells #[.int .i64 0] 3)).alloc (.cells #[.slice ao xs.length c] 22)).alloc (.cells #[.int .i64 (xs.length : Int)] 3)).alloc (.cells #[.func (.func 94) #[] #[.pointer (some ⟨w1.heap.size + 1, 0, none⟩)]] 106)) = W0 := ⟨_, rfl⟩
    rw [hW0] at bS bP bN bF hx0 hsz ⊢
    clear hW0
    have hN72 := prsAll_len h8 (crossB xs)
    have HX := Lib.hid hx; clear hx
    refine wpIn_rangeFunc_ownG rfl h1m (gf := 95) (lb := #[.pointer (some ⟨w1.heap.size + 1 + 1, 0, none⟩), .pointer (some ⟨w1.heap.size + 1 + 1 + 1, 0, none⟩)]) rfl trivial (enters_of Tryd.func95 (by kernel_rfl) rfl)
      (pairs_c_stops (m - 1) (by omega) (w1.heap.size + 1 + 1) (w1.heap.size + 1 + 1 + 1) (w1.heap.size + 1) xs.length h8 (crossB xs) (fun b => b < w1.heap.size ∨ w1.heap.size + 1 ≤ b ∧ b < w1.heap.size + 4) W0
        (cross_ready h8 HIS.out (HX.out.trans hx0) (fun b hb => .inl (Nat.lt_of_lt_of_le hb HX.out.size)) (by omega) (by omega) (by omega) bP bN bF))
      KL.trans (KL.putObj (fun b hb => by omega)) (Below.refl _ _) (fun _ => rfl)
      (fun pre W => Boxed W w1.heap.size 3 (.int .i64 (pre.length : Int)) ∧ Below w1.heap.size w1 W)
      (fun _ _ _ => False)
      (OwnFrom.and (Own.from (boxed_own _ _ _) _) (ownFrom_below (Nat.le_refl _) (by omega)))
      (fun _ _ _ _ _ hs _ _ => hs)
      ⟨bS, hx0⟩ ?a1 ?assign ?body ?done ?stop
    case assign =>
      intro l x W K hK
      gi_wp2
      exact hK
    case body =>
      rintro l pre x W ⟨hB, hE⟩ hlen
      have hc := hB.cell
      have hf := hB.frozen
      have Hlen : Hid ((pre ++ [x]).length = pre.length + 1) := Lib.hid (by simp)
      gi_wp2
      exact ⟨(KeepsOthers.setCell _ _ _).from _, (KL.refl _ W).setCell (by simp only; omega) _, by have := hB.set (.int .i64 ((pre.length : Int) + 1)); rw [Hlen.out]; exact this, hE.setCell (p := ⟨w1.heap.size, 0, none⟩) (Nat.le_refl _) _⟩
    case done =>
      rintro D ys W hD rfl ⟨hB, hE⟩ hK
      have hc := hB.cell
      have hf := hB.frozen
      have Hx2 := Lib.hid hE
      clear hE
      gi_wp2
      refine ⟨by simp, .inl ⟨_, _, rfl, run_takeDeferred hK, ?_⟩⟩
      exact ⟨.tuple #[.int .i64 ((crossers xs).length : Int), .int .i64 0], by simp [results, Tryd.f79, go_sem, crossers], rfl, HX.out.trans (Below.trans Hx2.out (belowK_b (w := w1) (Nat.le_refl _) W D _ _ (by omega) hK rfl rfl))⟩
    case stop =>
      rintro D c pre W _ _ h _
      exact h.elim
  · have he' : (e0 != 0) = true := by simpa using he
    have hif : (if e0 = 0 then ((crossers xs).length : Int) else 0) = 0 := if_neg he
    rw [hif]
    clear he hif
    gi_wp2_with (refine ⟨trivial, ?_⟩; gi_at_call 53; refine (callsIn_wide.2 HP.out).mono ?_; rintro e w1 ⟨rfl, hx⟩)
    exact ⟨.tuple #[.int .i64 0, .int .i64 e0], by simp [results, Tryd.f79, go_sem], rfl, hx⟩
end Go.Proofs.YtigffblelngpjaaDoor
