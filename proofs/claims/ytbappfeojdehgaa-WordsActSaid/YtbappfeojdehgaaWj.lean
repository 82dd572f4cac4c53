/- Contracts of product and of the law's helpers back and all. -/
import Derived.Test.YtbappfeojdehgaaWe
namespace Go.Proofs.Ytbappfeojdehgaa
set_option linter.unusedVariables false
set_option linter.unusedSimpArgs false
set_option maxRecDepth 8000
open Go Go.RowKit

/-! ### product -/
def canc : List Int → List Int → Nat
  | x :: xs, y :: ys => if x = -y then canc xs ys + 1 else 0
  | _, _ => 0
theorem canc_eq : ∀ (k : Nat) (a b : List Int), k ≤ a.length → k ≤ b.length → (∀ i, i < k → gi a i = - gi b i) → (k = a.length ∨ k = b.length ∨ gi a k ≠ - gi b k) → canc a b = k := by
  intro k
  induction k with
  | zero =>
    intro a b _ _ _ h
    cases a with
    | nil => rfl
    | cons x a =>
      cases b with
      | nil => rfl
      | cons y b =>
        simp [gi_cons_zero] at h
        simp [canc, h]
  | succ k ih =>
    intro a b h1 h2 h3 h4
    cases a with
    | nil => simp at h1
    | cons x a =>
      cases b with
      | nil => simp at h2
      | cons y b =>
        have h0 := h3 0 (by omega)
        rw [gi_cons_zero, gi_cons_zero] at h0
        simp only [canc, h0, if_true]
        have := ih a b (by simpa using h1) (by simpa using h2) (fun i hi => by have := h3 (i + 1) (by omega); rwa [gi_cons_succ, gi_cons_succ] at this)
          (by simpa [gi_cons_succ] using h4)
        rw [this]
theorem canc_le : ∀ (a b : List Int), canc a b ≤ a.length ∧ canc a b ≤ b.length := by
  intro a
  induction a with
  | nil => intro b; simp [canc]
  | cons x a ih =>
    intro b
    cases b with
    | nil => simp [canc]
    | cons y b => have := ih b; simp only [canc]; split <;> simp <;> omega
/-- One list behind the other, what meets and cancels taken away. -/
def prodL (a b : List Int) : List Int := a.take (a.length - canc a.reverse b) ++ b.drop (canc a.reverse b)

theorem prodL_len (a b : List Int) : (prodL a b).length ≤ a.length + b.length := by unfold prodL; simp; omega
theorem prodL_mem (P : Int → Prop) {a b : List Int} (ha : ∀ i, i < a.length → P (gi a i)) (hb : ∀ i, i < b.length → P (gi b i)) : ∀ i, i < (prodL a b).length → P (gi (prodL a b) i) := by
  intro i hi
  have h := canc_le a.reverse b
  simp at h
  unfold prodL at hi ⊢
  by_cases e : i < a.length - canc a.reverse b
  · rw [gi_append_left (by simp; omega), gi_take e]; exact ha i (by omega)
  · rw [gi_append_right (by simp; omega), gi_drop]; simp at hi ⊢; exact hb _ (by omega)

theorem product_calls (v v' : Value) (c c' : Nat) (xs ys : List Int) (w : World) (h : IS .i64 w v c xs) (h' : IS .i64 w v' c' ys) (hv : NN v) (hv' : NN v') (hl : xs.length ≤ 1000000) (hl' : ys.length ≤ 1000000)
    (hb' : ∀ i, i < ys.length → -100 ≤ gi ys i ∧ gi ys i ≤ 100) :
    Calls Try.prog 34 #[v, v'] w (RetN .i64 w (prodL xs ys)) := by
  obtain ⟨h1, h2, b, o, rfl, hc⟩ := h.nn hv
  obtain ⟨h1', h2', b', o', rfl, hc'⟩ := h'.nn hv'
  have HI := Lib.hid h; have HI' := Lib.hid h'
  have hend : ∀ k, k ≤ xs.length → k ≤ ys.length → (∀ i, i < k → gi xs (xs.length - 1 - i) = - gi ys i) → (k = xs.length ∨ k = ys.length ∨ gi xs (xs.length - 1 - k) ≠ - gi ys k) → prodL xs ys = xs.take (xs.length - k) ++ ys.drop k := by
    intro k a b c d
    have : canc xs.reverse ys = k := canc_eq k _ _ (by simpa using a) b (fun i hi => by rw [gi_reverse (by omega)]; exact c i hi) (by
      by_cases e : k < xs.length
      · rw [gi_reverse e]; simpa using d
      · left; simp; omega)
    unfold prodL; rw [this]
  obtain ⟨N, hN⟩ : ∃ N, N = xs.length := ⟨_, rfl⟩
  obtain ⟨M, hM⟩ : ∃ M, M = ys.length := ⟨_, rfl⟩
  rw [← hN] at hc h1 hl hend HI ⊢
  rw [← hM] at hc' h1' hl' hend hb' HI' ⊢
  clear h h' hv hv'
  have HN := Lib.hid hN; have HM := Lib.hid hM
  have Hend := Lib.hid hend; have Hb' := Lib.hid hb'; have Hc := Lib.hid hc; have Hc' := Lib.hid hc'
  clear hend hb' hN hM hc hc'
  unfold maxLen at h2 h2'
  go_enter Try.func34, Try.ntmps34
  go_wp2
  go_loopw [5] (fun i wr => ∃ k m : Nat, k ≤ N ∧ k ≤ M ∧ i = .int .i64 k ∧ wr = w.drewN m ∧ Hid (∀ i, i < k → gi xs (N - 1 - i) = - gi ys i)) (fun i _ => N - (intOf i).toNat)
  case atStart => exact ⟨0, 0, Nat.zero_le _, Nat.zero_le _, rfl, rfl, fun i h => by omega⟩
  case round =>
    obtain ⟨k, m, hk, hk', rfl, rfl, Hs⟩ := hrel
    have f1 : (0 : Int) ≤ (N : Int) - (k : Int) := by omega
    have f2 : (N : Int) - (k : Int) ≤ c := by omega
    have f3 : (k : Int) ≤ M := by omega
    have f4 : (0 : Int) ≤ (k : Int) := by omega
    have f5 : ((N : Int) - (k : Int)).toNat = N - k := by omega
    by_cases hlt : k < N
    · have hd1 : decide ((k : Int) < N) = true := by simp; omega
      by_cases hlt' : k < M
      · have hd2 : decide ((k : Int) < M) = true := by simp; omega
        have hck := Hc.out (N - 1 - k) (by omega)
        have hck' := Hc'.out k hlt'
        obtain ⟨g1, g2⟩ := Hb'.out k hlt'
        have e1 : (0 : Int) ≤ (N : Int) - 1 - (k : Int) := by omega
        have e2 : (N : Int) - 1 - (k : Int) < N := by omega
        have e3 : IntKind.i64.wrap ((N : Int) - 1) = (N : Int) - 1 := IntWalk.i64_in _ ⟨by omega, by omega⟩
        have e4 : IntKind.i64.wrap ((N : Int) - 1 - (k : Int)) = (N : Int) - 1 - (k : Int) := IntWalk.i64_in _ ⟨by omega, by omega⟩
        have e5 : ((N : Int) - 1 - (k : Int)).toNat = N - 1 - k := by omega
        have e6 : (k : Int) < M := by omega
        have e7 : IntKind.i64.wrap (-gi ys k) = -gi ys k := IntWalk.i64_in _ ⟨by omega, by omega⟩
        by_cases he : gi xs (N - 1 - k) = - gi ys k
        · have he' : (gi xs (N - 1 - k) == - gi ys k) = true := by simp [he]
          have He := Lib.hid he; clear he
          clear f1 f2 f3 f4 f5
          go_wp2
          go_quiet (fail)
          clear e3 e4 e5 e7
          go_wp2
          go_roundw
          case rel => exact ⟨k + 1, _, by omega, by omega, by go_num, rfl, fun i hi => by
            by_cases e : i = k
            · subst e; exact He.out
            · exact Hs.out i (by omega)⟩
          case measure => simp [intOf]; omega
        · have he' : (gi xs (N - 1 - k) == - gi ys k) = false := by simp [he]
          have He := Lib.hid (Hend.out k hk hk' Hs.out (.inr (.inr he))); clear he
          go_wp2
          go_quiet (fail)
          clear e3 e4 e5 e7
          go_wp2
          go_still_tail 7, (by kernel_rfl)
          change wpList _ _ _ _ _ ((w.drewN _).drew)
          obtain ⟨w2, hw2⟩ : ∃ w2, w2 = ((w.drewN (m + nq)).drew) := ⟨_, rfl⟩
          have hx2 : Ext w w2 := by rw [hw2]; exact ((Ext.refl w).drewN _).drew
          rw [← hw2]
          clear hw2
          have hlen : ((xs.take (N - k)).map (Value.int .i64)).length = N - k := by simp; rw [← HN.out]; omega
          refine app_full eiInt rfl _ _ rfl _ _ (N - k) rfl ((cut_lo HI.out (N - k) (by omega)).ext hx2) hlen _ _ _ rfl ((cut_hi HI'.out k (by omega)).ext hx2) (onesI _) ?_ ?_ ?_
          · have := HM.out; simp; omega
          · have := HM.out; simp; omega
          clear hlen f1 f2 f3 f4 f5
          intro v2 c2 w3 hv2 hnn hx3
          rw [← List.map_append, ← He.out] at hv2
          have Hv2 := Lib.hid hv2; have Hnn := Lib.hid (hnn ⟨_, _, _, _, rfl⟩); clear hv2 hnn
          go_wp2
          all_goals
            go_ret
            exact RetN.mk Hv2.out Hnn.out (hx2.trans hx3)
      · have hd2 : decide ((k : Int) < M) = false := by simp; omega
        have He := Lib.hid (Hend.out k hk hk' Hs.out (.inr (.inl (by omega))))
        go_wp2
        go_quiet (fail)
        go_wp2
        go_still_tail 7, (by kernel_rfl)
        change wpList _ _ _ _ _ ((w.drewN _).drew)
        obtain ⟨w2, hw2⟩ : ∃ w2, w2 = ((w.drewN (m + nq)).drew) := ⟨_, rfl⟩
        have hx2 : Ext w w2 := by rw [hw2]; exact ((Ext.refl w).drewN _).drew
        rw [← hw2]
        clear hw2
        have hlen : ((xs.take (N - k)).map (Value.int .i64)).length = N - k := by simp; rw [← HN.out]; omega
        refine app_full eiInt rfl _ _ rfl _ _ (N - k) rfl ((cut_lo HI.out (N - k) (by omega)).ext hx2) hlen _ _ _ rfl ((cut_hi HI'.out k (by omega)).ext hx2) (onesI _) ?_ ?_ ?_
        · have := HM.out; simp; omega
        · have := HM.out; simp; omega
        clear hlen f1 f2 f3 f4 f5
        intro v2 c2 w3 hv2 hnn hx3
        rw [← List.map_append, ← He.out] at hv2
        have Hv2 := Lib.hid hv2; have Hnn := Lib.hid (hnn ⟨_, _, _, _, rfl⟩); clear hv2 hnn
        go_wp2
        all_goals
          go_ret
          exact RetN.mk Hv2.out Hnn.out (hx2.trans hx3)
    · have hd1 : decide ((k : Int) < N) = false := by simp; omega
      have He := Lib.hid (Hend.out k hk hk' Hs.out (.inl (by omega)))
      go_wp2
      go_quiet (fail)
      go_wp2
      go_still_tail 7, (by kernel_rfl)
      change wpList _ _ _ _ _ ((w.drewN _).drew)
      obtain ⟨w2, hw2⟩ : ∃ w2, w2 = ((w.drewN (m + nq)).drew) := ⟨_, rfl⟩
      have hx2 : Ext w w2 := by rw [hw2]; exact ((Ext.refl w).drewN _).drew
      rw [← hw2]
      clear hw2
      have hlen : ((xs.take (N - k)).map (Value.int .i64)).length = N - k := by simp; rw [← HN.out]; omega
      refine app_full eiInt rfl _ _ rfl _ _ (N - k) rfl ((cut_lo HI.out (N - k) (by omega)).ext hx2) hlen _ _ _ rfl ((cut_hi HI'.out k (by omega)).ext hx2) (onesI _) ?_ ?_ ?_
      · have := HM.out; simp; omega
      · have := HM.out; simp; omega
      clear hlen f1 f2 f3 f4 f5
      intro v2 c2 w3 hv2 hnn hx3
      rw [← List.map_append, ← He.out] at hv2
      have Hv2 := Lib.hid hv2; have Hnn := Lib.hid (hnn ⟨_, _, _, _, rfl⟩); clear hv2 hnn
      go_wp2
      all_goals
        go_ret
        exact RetN.mk Hv2.out Hnn.out (hx2.trans hx3)
end Go.Proofs.Ytbappfeojdehgaa
