/- Contract of permutations.Check. -/
import Derived.Test.YtpcbadagffeehaaProg
import Derived.Test.YtpcbadagffeehaaLib
import Derived.Outline
namespace Go.Proofs.Ytpcbadagffeehaa
set_option linter.unusedVariables false
set_option linter.unusedSimpArgs false
open Go Go.RowKit

/-- A permutation: places from 1 on, each once. -/
def pok (xs : List Int) : Prop := (∀ x ∈ xs, 1 ≤ x ∧ x ≤ (xs.length : Int)) ∧ xs.Nodup
instance (xs : List Int) : Decidable (pok xs) := by unfold pok; infer_instance
def pcheck (xs : List Int) : Int := if 8 < xs.length then 3 else if xs.length = 0 then 1 else if pok xs then 0 else 1

theorem pcheck_long {xs : List Int} (h : 8 < xs.length) : pcheck xs = 3 := by unfold pcheck; rw [if_pos h]
theorem pcheck_empty {xs : List Int} (h : xs.length = 0) : pcheck xs = 1 := by unfold pcheck; rw [if_neg (by omega), if_pos h]
theorem pcheck_bad {xs : List Int} (h0 : xs.length ≠ 0) (h : ¬ pok xs) : pcheck xs = 1 ∨ 8 < xs.length := by
  by_cases h8 : 8 < xs.length
  · exact .inr h8
  · unfold pcheck; rw [if_neg h8, if_neg h0, if_neg h]; exact .inl rfl
theorem pcheck_ok {xs : List Int} (h0 : xs.length ≠ 0) (h8 : xs.length ≤ 8) (h : pok xs) : pcheck xs = 0 := by
  unfold pcheck; rw [if_neg (by omega), if_neg h0, if_pos h]
theorem pcheck_zero {xs : List Int} (h : pcheck xs = 0) : 1 ≤ xs.length ∧ xs.length ≤ 8 ∧ pok xs := by
  unfold pcheck at h
  split at h
  · omega
  · split at h
    · omega
    · split at h
      · rename_i a b c; exact ⟨by omega, by omega, c⟩
      · omega
theorem pcheck_nine {xs : List Int} (h : pcheck xs = 3) : 8 < xs.length := by
  unfold pcheck at h
  split at h
  · assumption
  · split at h
    · omega
    · split at h <;> omega

theorem mem_take_gi {xs : List Int} {k : Nat} {x : Int} : x ∈ xs.take k ↔ ∃ i, i < k ∧ i < xs.length ∧ gi xs i = x := by
  constructor
  · intro h
    obtain ⟨i, hi, he⟩ := List.mem_iff_getElem.1 h
    rw [List.length_take] at hi
    refine ⟨i, by omega, by omega, ?_⟩
    rw [gi_of_lt (by omega), ← he, List.getElem_take]
  · rintro ⟨i, h1, h2, rfl⟩
    rw [List.mem_iff_getElem]
    exact ⟨i, by rw [List.length_take]; omega, by rw [List.getElem_take, gi_of_lt h2]⟩
theorem pok_step {xs : List Int} {k : Nat} (hk : k < xs.length) (h : (∀ i, i < k → 1 ≤ gi xs i ∧ gi xs i ≤ (xs.length : Int)) ∧ (xs.take k).Nodup) (h1 : 1 ≤ gi xs k) (h2 : gi xs k ≤ (xs.length : Int)) (h3 : gi xs k ∉ xs.take k) :
    (∀ i, i < k + 1 → 1 ≤ gi xs i ∧ gi xs i ≤ (xs.length : Int)) ∧ (xs.take (k + 1)).Nodup := by
  refine ⟨fun i hi => ?_, ?_⟩
  · by_cases e : i = k
    · subst e; exact ⟨h1, h2⟩
    · exact h.1 i (by omega)
  · rw [take_succ_gi hk, List.nodup_append]
    refine ⟨h.2, by simp, fun a ha b hb => ?_⟩
    simp only [List.mem_cons, List.not_mem_nil, or_false] at hb
    subst hb
    intro e; subst e; exact h3 ha

set_option maxHeartbeats 1000000 in
theorem Pcheck_calls (v : Value) (c : Nat) (xs : List Int) (w : World) (h : IS .u8 w v c xs) (hb : ∀ i, i < xs.length → 0 ≤ gi xs i ∧ gi xs i ≤ 255) :
    Calls Try.prog 26 #[v] w fun e w' => e = .returned (.int .i64 (pcheck xs)) ∧ Ext w w' := by
  obtain ⟨h1, h2, ao, rfl, hao⟩ := h.open
  have k1 := @pcheck_long xs
  have k2 := @pcheck_empty xs
  have k3 : ∀ i, i < xs.length → xs.length ≤ 8 → ¬ (1 ≤ gi xs i ∧ gi xs i ≤ (xs.length : Int)) → pcheck xs = 1 := fun i hi h8 hb => by
    rcases pcheck_bad (xs := xs) (by omega) (fun hp => hb (hp.1 _ (gi_mem hi))) with h | h
    · exact h
    · omega
  have k4 : ∀ i, i < xs.length → xs.length ≤ 8 → gi xs i ∈ xs.take i → pcheck xs = 1 := fun i hi h8 hm => by
    have hnp : ¬ pok xs := fun hp => by
      obtain ⟨j, j1, j2, j3⟩ := mem_take_gi.1 hm
      exact (List.pairwise_iff_getElem.1 hp.2) j i j2 hi j1 (by rw [← gi_of_lt j2, ← gi_of_lt hi]; exact j3)
    rcases pcheck_bad (xs := xs) (by omega) hnp with h | h
    · exact h
    · omega
  have k5 : xs.length ≠ 0 → xs.length ≤ 8 → (∀ i, i < xs.length → 1 ≤ gi xs i ∧ gi xs i ≤ (xs.length : Int)) → (xs.take xs.length).Nodup → pcheck xs = 0 := fun h0 h8 a b => by
    rw [List.take_length] at b
    exact pcheck_ok h0 h8 ⟨gi_all (P := fun x => 1 ≤ x ∧ x ≤ (xs.length : Int)) a, b⟩
  have k6 := fun k (hk : k < xs.length) => pok_step (xs := xs) hk
  have k7 : ∀ k, k < xs.length → ∀ x, (x ∈ xs.take (k + 1) ↔ x = gi xs k ∨ x ∈ xs.take k) := fun k hk x => by rw [take_succ_gi hk]; simp [or_comm]
  obtain ⟨N, hN⟩ : ∃ N, N = xs.length := ⟨_, rfl⟩
  rw [← hN] at hao h1 hb k1 k2 k3 k4 k5 k6 k7 ⊢
  have K1 := Lib.hid k1; have K2 := Lib.hid k2; have K3 := Lib.hid k3; have K4 := Lib.hid k4; have K5 := Lib.hid k5; have K6 := Lib.hid k6; have K7 := Lib.hid k7; have Hb := Lib.hid hb
  clear h hN k1 k2 k3 k4 k5 k6 k7 hb
  unfold maxLen at h2
  by_cases h8 : 8 < N
  · go_enter Try.func26, Try.ntmps26
    go_wp2
    go_ret
    exact ⟨ret_int (K1.out h8).symm, Ext.refl _⟩
  by_cases h0 : N = 0
  · have h0' : ((N : Int) == 0) = true := by simp [h0]
    have H0 := Lib.hid h0; clear h0
    go_enter Try.func26, Try.ntmps26
    go_wp2
    go_ret
    exact ⟨ret_int (K2.out H0.out).symm, Ext.refl _⟩
  have h0' : ((N : Int) == 0) = false := by simp [h0]
  have H0 := Lib.hid h0; clear h0
  obtain ⟨b, o, rfl, hc⟩ : ∃ b o, ao = some ⟨b, o, none⟩ ∧ ∀ i, i < N → w.cell? ⟨b, o + i, none⟩ = some (.int .u8 (gi xs i)) := by
    rcases hao with ⟨_, h0, _⟩ | h
    · exact absurd h0 H0.out
    · exact h
  have HC := Lib.hid hc
  clear hc hao
  go_enter Try.func26, Try.ntmps26
  go_wp2
  go_loopw [14] (fun i wr => ∃ k : Nat, k ≤ N ∧ i = .int .i64 k ∧ Hid (Ext w wr ∧ (∃ f, wr.rowIs w.heap.size 65 9 f ∧ ∀ j : Nat, j < 9 → f j = .bool (decide ((j : Int) ∈ xs.take k))) ∧ (∀ i, i < k → 1 ≤ gi xs i ∧ gi xs i ≤ (N : Int)) ∧ (xs.take k).Nodup)) (fun i _ => N - (intOf i).toNat)
  case atStart =>
    refine ⟨0, Nat.zero_le _, rfl, Lib.hid ⟨(Ext.refl w).alloc _, ⟨_, World.rowIs_alloc w _ _ (fun _ => .bool false) ?_, fun j hj => by simp⟩, fun i hi => by omega, by simp⟩⟩
    intro i hi
    have : i < 9 := hi
    rcases (show i = 0 ∨ i = 1 ∨ i = 2 ∨ i = 3 ∨ i = 4 ∨ i = 5 ∨ i = 6 ∨ i = 7 ∨ i = 8 by omega) with rfl | rfl | rfl | rfl | rfl | rfl | rfl | rfl | rfl <;> rfl
  case round =>
    obtain ⟨k, hk, rfl, H⟩ := hrel
    by_cases hlt : k < N
    · have hck := H.out.1.cell (HC.out k hlt)
      obtain ⟨f, hrow, hf⟩ := H.out.2.1
      obtain ⟨b1, b2⟩ := Hb.out k hlt
      obtain ⟨x, hx⟩ : ∃ x : Nat, (x : Int) = gi xs k := ⟨(gi xs k).toNat, by omega⟩
      have x255 : x ≤ 255 := by omega
      by_cases hr : 1 ≤ x ∧ x ≤ N
      · have hcx := hrow.cell (i := x) (by omega)
        have hfx := hrow.frozen x
        rw [hf x (by omega)] at hcx
        rw [← hx] at hck
        obtain ⟨hr1, hr2⟩ := hr
        by_cases hm : (x : Int) ∈ xs.take k
        · rw [decide_eq_true hm] at hcx
          have R := Lib.hid (K4.out k hlt (by omega) (by rw [← hx]; exact hm))
          clear hm hx hf hrow
          go_wp2
          go_ret
          exact ⟨ret_int R.out.symm, H.out.1⟩
        · rw [decide_eq_false hm] at hcx
          have HM := Lib.hid hm; have HX := Lib.hid hx; have HF := Lib.hid hf; have HR := Lib.hid hrow
          clear hm hx hf hrow
          go_wp2
          go_roundw
          case rel =>
            have hst := K6.out k hlt H.out.2.2 (by rw [← HX.out]; omega) (by rw [← HX.out]; omega) (by rw [← HX.out]; exact HM.out)
            refine ⟨k + 1, by omega, by go_num, Lib.hid ⟨H.out.1.setCell (Nat.le_refl _) _, ⟨_, HR.out.set _ _, fun j hj => ?_⟩, hst.1, hst.2⟩⟩
            by_cases e : j = x
            · rw [if_pos e]
              have : (j : Int) ∈ xs.take (k + 1) := by rw [K7.out k hlt, e]; exact .inl HX.out
              rw [decide_eq_true this]
            · rw [if_neg e, HF.out j hj]
              have : ((j : Int) ∈ xs.take (k + 1)) ↔ ((j : Int) ∈ xs.take k) := by
                rw [K7.out k hlt, ← HX.out]
                constructor
                · rintro (h | h)
                  · omega
                  · exact h
                · exact .inr
              simp only [this]
          case measure => simp [intOf]; omega
      · have R := Lib.hid (K3.out k hlt (by omega) (by rw [← hx]; omega))
        rw [← hx] at hck
        clear hx hf hrow
        rcases (show x < 1 ∨ N < x by omega) with hr' | hr'
        · clear hr
          go_wp2
          go_ret
          exact ⟨ret_int R.out.symm, H.out.1⟩
        · clear hr
          have hd : decide ((x : Int) < 1) = false := by simp; omega
          go_wp2
          go_ret
          exact ⟨ret_int R.out.symm, H.out.1⟩
    · obtain rfl : k = N := by omega
      go_wp2
      go_ret
      exact ⟨ret_int (K5.out H0.out (by omega) H.out.2.2.1 H.out.2.2.2).symm, H.out.1⟩
end Go.Proofs.Ytpcbadagffeehaa
