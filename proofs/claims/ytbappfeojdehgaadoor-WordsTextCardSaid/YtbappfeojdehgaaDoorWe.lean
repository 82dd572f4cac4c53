/- Contracts of the law's helpers same and reduced. -/
import Derived.Test.YtbappfeojdehgaaDoorWd
namespace Go.Proofs.YtbappfeojdehgaaDoor
set_option linter.unusedVariables false
set_option linter.unusedSimpArgs false
set_option maxRecDepth 8000
open Go Go.RowKit

def sameB (xs ys : List Int) : Bool := decide (xs = ys)
theorem sameB_eq (xs : List Int) : sameB xs xs = true := by unfold sameB; simp
theorem sameB_len {xs ys : List Int} (h : xs.length ≠ ys.length) : sameB xs ys = false := by
  unfold sameB; simp; intro e; exact h (by rw [e])
theorem sameB_ne {xs ys : List Int} {i : Nat} (h : gi xs i ≠ gi ys i) : sameB xs ys = false := by
  unfold sameB; simp; intro e; exact h (by rw [e])
theorem sameB_all {xs ys : List Int} (hl : xs.length = ys.length) (h : ∀ i, i < xs.length → gi xs i = gi ys i) : sameB xs ys = true := by
  rw [gi_ext hl h]; exact sameB_eq _

theorem same_calls (v v' : Value) (c c' : Nat) (xs ys : List Int) (w : World) (h : IS .i64 w v c xs) (h' : IS .i64 w v' c' ys) :
    Calls Tryd.prog 9 #[v, v'] w fun e w' => e = .returned (.bool (sameB xs ys)) ∧ ∃ m, w' = w.drewN m := by
  obtain ⟨h1, h2, ao, rfl, hao⟩ := h.open
  obtain ⟨h1', h2', bo, rfl, hbo⟩ := h'.open
  have hlen : xs.length ≠ ys.length → sameB xs ys = false := sameB_len
  have hne : ∀ i, gi xs i ≠ gi ys i → sameB xs ys = false := fun i => sameB_ne
  have hall : xs.length = ys.length → (∀ i, i < xs.length → gi xs i = gi ys i) → sameB xs ys = true := sameB_all
  obtain ⟨N, hN⟩ : ∃ N, N = xs.length := ⟨_, rfl⟩
  obtain ⟨M, hM⟩ : ∃ M, M = ys.length := ⟨_, rfl⟩
  rw [← hN] at hao h1 hlen hall ⊢
  rw [← hM] at hbo h1' hlen hall ⊢
  clear h h' hN hM
  have Hlen := Lib.hid hlen; have Hne := Lib.hid hne; have Hall := Lib.hid hall
  clear hlen hne hall
  unfold maxLen at h2 h2'
  by_cases hNM : N = M
  · subst hNM
    go_enter Tryd.func9, Tryd.ntmps9
    go_wp2
    go_loopw [5] (fun i wr => ∃ k m : Nat, k ≤ N ∧ i = .int .i64 k ∧ wr = w.drewN m ∧ ∀ i, i < k → gi xs i = gi ys i) (fun i _ => N - (intOf i).toNat)
    case atStart => exact ⟨0, 0, Nat.zero_le _, rfl, rfl, fun i h => by omega⟩
    case round =>
      obtain ⟨k, m, hk, rfl, rfl, hs⟩ := hrel
      have Hs := Lib.hid hs; clear hs
      by_cases hlt : k < N
      · obtain ⟨b, o, rfl, hc⟩ : ∃ b o, ao = some ⟨b, o, none⟩ ∧ ∀ i, i < N → w.cell? ⟨b, o + i, none⟩ = some (.int .i64 (gi xs i)) := by
          rcases hao with ⟨_, h0, _⟩ | h
          · omega
          · exact h
        obtain ⟨b', o', rfl, hc'⟩ : ∃ b o, bo = some ⟨b, o, none⟩ ∧ ∀ i, i < N → w.cell? ⟨b, o + i, none⟩ = some (.int .i64 (gi ys i)) := by
          rcases hbo with ⟨_, h0, _⟩ | h
          · omega
          · exact h
        have hck := hc k hlt
        have hck' := hc' k hlt
        clear hc hc' hao hbo
        by_cases he : gi xs k = gi ys k
        · have he' : (gi xs k != gi ys k) = false := by simp [he]
          have He := Lib.hid he; clear he
          go_wp2
          go_quiet (fail)
          go_wp2
          go_roundw
          case rel => exact ⟨k + 1, _, by omega, by go_num, rfl, fun i hi => by
            by_cases e : i = k
            · subst e; exact He.out
            · exact Hs.out i (by omega)⟩
          case measure => simp [intOf]; omega
        · have he' : (gi xs k != gi ys k) = true := by simp [he]
          have He := Lib.hid (Hne.out k he); clear he
          go_wp2
          go_quiet (fail)
          go_wp2
          go_ret
          exact ⟨ret_bool He.out.symm, _, World.drewN_drewN ..⟩
      · obtain rfl : k = N := by omega
        have He := Lib.hid (Hall.out (by simp) Hs.out)
        go_wp2
        go_ret
        exact ⟨ret_bool He.out.symm, _, rfl⟩
  · have hne' : ((N : Int) != (M : Int)) = true := by simp; omega
    have He := Lib.hid (Hlen.out hNM); clear hNM
    go_enter Tryd.func9, Tryd.ntmps9
    go_wp2
    go_ret
    exact ⟨ret_bool He.out.symm, 0, rfl⟩


/-- Two reslicings of one slice, as a walk writes them. -/
theorem cut_lo {k : IntKind} {w : World} {b o n c : Nat} {xs : List Int} (h : IS k w (.slice (some ⟨b, o, none⟩) n c) c xs) (i : Nat) (hi : i ≤ n) :
    IS k w (.slice (some ⟨b, o, none⟩) i i) i (xs.take i) := by
  obtain ⟨h1, h2, ao, hv, hao⟩ := h.open
  simp only [Value.slice.injEq] at hv
  obtain ⟨rfl, rfl, _⟩ := hv
  rcases hao with ⟨_, h0, h9⟩ | ⟨b', o', he, hc⟩
  · exact IS.mk (by simp; omega) (Nat.le_refl _) (by omega) fun j hj => by omega
  · simp only [Option.some.injEq, Addr.mk.injEq, and_true] at he
    obtain ⟨rfl, rfl⟩ := he
    exact IS.mk (by simp; omega) (Nat.le_refl _) (by omega) fun j hj => by rw [gi_take hj]; exact hc j (by omega)

theorem cut_hi {k : IntKind} {w : World} {b o n c : Nat} {xs : List Int} (h : IS k w (.slice (some ⟨b, o, none⟩) n c) c xs) (i : Nat) (hi : i ≤ n) :
    IS k w (.slice (if c = i then some ⟨b, o, none⟩ else some ⟨b, o + i, none⟩) (n - i) (c - i)) (c - i) (xs.drop i) := by
  obtain ⟨h1, h2, ao, hv, hao⟩ := h.open
  simp only [Value.slice.injEq] at hv
  obtain ⟨rfl, rfl, _⟩ := hv
  rcases hao with ⟨_, h0, h9⟩ | ⟨b', o', he, hc⟩
  · split <;> exact IS.mk (by simp) (by omega) (by omega) fun j hj => by omega
  · simp only [Option.some.injEq, Addr.mk.injEq, and_true] at he
    obtain ⟨rfl, rfl⟩ := he
    split
    · exact IS.mk (by simp) (by omega) (by omega) fun j hj => by omega
    · exact IS.mk (by simp) (by omega) (by omega) fun j hj => by rw [gi_drop, Nat.add_assoc]; exact hc (i + j) (by omega)

def lenV : Value → Nat | .slice _ n _ => n | _ => 0

theorem lenV_of {k : IntKind} {w : World} {v : Value} {c : Nat} {xs : List Int} (h : IS k w v c xs) : lenV v = xs.length := by
  obtain ⟨_, _, ao, rfl, _⟩ := h.open; rfl

end Go.Proofs.YtbappfeojdehgaaDoor
