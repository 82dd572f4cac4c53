/- Contract of the law's helper all. -/
import Derived.Test.YtbappfeojdehgaaWe
namespace Go.Proofs.Ytbappfeojdehgaa
set_option linter.unusedVariables false
set_option linter.unusedSimpArgs false
set_option maxRecDepth 8000
open Go Go.RowKit

def allB (xs ys : List (List Int)) : Bool := decide (xs = ys)
theorem allB_eq (xs : List (List Int)) : allB xs xs = true := by unfold allB; simp
theorem allB_len {xs ys : List (List Int)} (h : xs.length ≠ ys.length) : allB xs ys = false := by
  unfold allB; simp; intro e; exact h (by rw [e])
theorem allB_ne {xs ys : List (List Int)} {i : Nat} (h : sameB (ri xs i) (ri ys i) = false) : allB xs ys = false := by
  unfold allB; simp; intro e; rw [e, sameB_eq] at h; cases h
theorem allB_all {xs ys : List (List Int)} (hl : xs.length = ys.length) (h : ∀ i, i < xs.length → sameB (ri xs i) (ri ys i) = true) : allB xs ys = true := by
  rw [ri_ext hl (fun i hi => by have := h i hi; unfold sameB at this; simpa using this)]; exact allB_eq _

theorem all_calls (v v' : Value) (c c' : Nat) (xs ys : List (List Int)) (w : World) (h : ISS .i64 w v c xs) (h' : ISS .i64 w v' c' ys) :
    Calls Try.prog 19 #[v, v'] w fun e w' => e = .returned (.bool (allB xs ys)) ∧ ∃ m, w' = w.drewN m := by
  obtain ⟨vs, caps, h⟩ := h
  obtain ⟨vs', caps', h'⟩ := h'
  obtain ⟨h1, h2, ao, rfl, hao⟩ := h.open
  obtain ⟨h1', h2', bo, rfl, hbo⟩ := h'.open
  have hr := h.2
  have hr' := h'.2
  have hlen : xs.length ≠ ys.length → allB xs ys = false := allB_len
  have hne : ∀ i, sameB (ri xs i) (ri ys i) = false → allB xs ys = false := fun i => allB_ne
  have hall : xs.length = ys.length → (∀ i, i < xs.length → sameB (ri xs i) (ri ys i) = true) → allB xs ys = true := allB_all
  obtain ⟨N, hN⟩ : ∃ N, N = xs.length := ⟨_, rfl⟩
  obtain ⟨M, hM⟩ : ∃ M, M = ys.length := ⟨_, rfl⟩
  rw [← hN] at hao h1 hlen hall hr ⊢
  rw [← hM] at hbo h1' hlen hall hr' ⊢
  clear h h' hN hM
  have Hlen := Lib.hid hlen; have Hne := Lib.hid hne; have Hall := Lib.hid hall; have Hr := Lib.hid hr; have Hr' := Lib.hid hr'
  clear hlen hne hall hr hr'
  unfold maxLen at h2 h2'
  by_cases hNM : N = M
  · subst hNM
    go_enter Try.func19, Try.ntmps19
    go_wp2
    go_loopw [5] (fun i wr => ∃ k m : Nat, k ≤ N ∧ i = .int .i64 k ∧ wr = w.drewN m ∧ Hid (∀ i, i < k → sameB (ri xs i) (ri ys i) = true)) (fun i _ => N - (intOf i).toNat)
    case atStart => exact ⟨0, 0, Nat.zero_le _, rfl, rfl, fun i h => by omega⟩
    case round =>
      obtain ⟨k, m, hk, rfl, rfl, Hs⟩ := hrel
      by_cases hlt : k < N
      · obtain ⟨b, o, rfl, hc⟩ : ∃ b o, ao = some ⟨b, o, none⟩ ∧ ∀ i, i < N → w.cell? ⟨b, o + i, none⟩ = some (vs i) := by
          rcases hao with ⟨_, h0, _⟩ | h
          · omega
          · exact h
        obtain ⟨b', o', rfl, hc'⟩ : ∃ b o, bo = some ⟨b, o, none⟩ ∧ ∀ i, i < N → w.cell? ⟨b, o + i, none⟩ = some (vs' i) := by
          rcases hbo with ⟨_, h0, _⟩ | h
          · omega
          · exact h
        have hck := hc k hlt
        have hck' := hc' k hlt
        have HA := Lib.hid (Hr.out k hlt)
        have HB := Lib.hid (Hr'.out k hlt)
        clear hc hc' hao hbo
        have e1 : (k : Int) < N := by omega
        have e2 : (0 : Int) ≤ k := by omega
        by_cases he : sameB (ri xs k) (ri ys k) = true
        · have He := Lib.hid he
          go_wp2
          go_quiet ((go_at_call 14; exact quiet_add (same_calls _ _ _ _ _ _ _ (HA.out.ext ((Ext.refl _).drewN _)) (HB.out.ext ((Ext.refl _).drewN _)))))
          go_wp2
          go_roundw
          case rel => exact ⟨k + 1, _, by omega, by go_num, rfl, fun i hi => by
            by_cases e : i = k
            · subst e; exact He.out
            · exact Hs.out i (by omega)⟩
          case measure => simp [intOf]; omega
        · have he' : sameB (ri xs k) (ri ys k) = false := by simpa using he
          have He := Lib.hid (Hne.out k he'); clear he
          go_wp2
          go_quiet ((go_at_call 14; exact quiet_add (same_calls _ _ _ _ _ _ _ (HA.out.ext ((Ext.refl _).drewN _)) (HB.out.ext ((Ext.refl _).drewN _)))))
          go_wp2
          go_ret
          exact ⟨ret_bool He.out.symm, _, World.drewN_drewN ..⟩
      · obtain rfl : k = N := by omega
        have He := Lib.hid (Hall.out (by simp) Hs.out)
        go_wp2
        go_ret
        exact ⟨ret_bool He.out.symm, _, rfl⟩
  · have hne' : ((N : Int) != (M : Int)) = true := by simp; omega
    have He := Lib.hid (Hlen.out hNM); clear hNM
    go_enter Try.func19, Try.ntmps19
    go_wp2
    go_ret
    exact ⟨ret_bool He.out.symm, 0, rfl⟩

end Go.Proofs.Ytbappfeojdehgaa
