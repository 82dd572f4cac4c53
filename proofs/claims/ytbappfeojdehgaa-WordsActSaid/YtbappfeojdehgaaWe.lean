/- Contracts of the law's helpers same and reduced. -/
import Derived.Test.YtbappfeojdehgaaWd
namespace Go.Proofs.Ytbappfeojdehgaa
set_option linter.unusedVariables false
set_option linter.unusedSimpArgs false
set_option maxRecDepth 8000
open Go Go.RowKit

def sameB (xs ys : List Int) : Bool := decide (xs = ys)
theorem sameB_eq (xs : List Int) : sameB xs xs = true := by unfold sameB; simp
theorem sameB_len {xs ys : List Int} (h : xs.length ≠ ys.length) : sameB xs ys = false := by
  unfold sameB; simp; intro e; exact h (by rw [e])
theorem sameB_ne {xs ys : List Int} {i : Nat} (h : gi xs i ≠ gi ys i) : sameB xs ys = false := by
  unfold sameB; simp; intro e; exact h (by rw [e])
theorem sameB_all {xs ys : List Int} (hl : xs.length = ys.length) (h : ∀ i, i < xs.length → gi xs i = gi ys i) : sameB xs ys = true := by
  rw [gi_ext hl h]; exact sameB_eq _

theorem same_calls (v v' : Value) (c c' : Nat) (xs ys : List Int) (w : World) (h : IS .i64 w v c xs) (h' : IS .i64 w v' c' ys) :
    Calls Try.prog 14 #[v, v'] w fun e w' => e = .returned (.bool (sameB xs ys)) ∧ ∃ m, w' = w.drewN m := by
  obtain ⟨h1, h2, ao, rfl, hao⟩ := h.open
  obtain ⟨h1', h2', bo, rfl, hbo⟩ := h'.open
  have hlen : xs.length ≠ ys.length → sameB xs ys = false := sameB_len
  have hne : ∀ i, gi xs i ≠ gi ys i → sameB xs ys = false := fun i => sameB_ne
  have hall : xs.length = ys.length → (∀ i, i < xs.length → gi xs i = gi ys i) → sameB xs ys = true := sameB_all
  obtain ⟨N, hN⟩ : ∃ N, N = xs.length := ⟨_, rfl⟩
  obtain ⟨M, hM⟩ : ∃ M, M = ys.length := ⟨_, rfl⟩
  rw [← hN] at hao h1 hlen hall ⊢
  rw [← hM] at hbo h1' hlen hall ⊢
  clear h h' hN hM
  have Hlen := Lib.hid hlen; have Hne := Lib.hid hne; have Hall := Lib.hid hall
  clear hlen hne hall
  unfold maxLen at h2 h2'
  by_cases hNM : N = M
  · subst hNM
    go_enter Try.func14, Try.ntmps14
    go_wp2
    go_loopw [5] (fun i wr => ∃ k m : Nat, k ≤ N ∧ i = .int .i64 k ∧ wr = w.drewN m ∧ ∀ i, i < k → gi xs i = gi ys i) (fun i _ => N - (intOf i).toNat)
    case atStart => exact ⟨0, 0, Nat.zero_le _, rfl, rfl, fun i h => by omega⟩
    case round =>
      obtain ⟨k, m, hk, rfl, rfl, hs⟩ := hrel
      have Hs := Lib.hid hs; clear hs
      by_cases hlt : k < N
      · obtain ⟨b, o, rfl, hc⟩ : ∃ b o, ao = some ⟨b, o, none⟩ ∧ ∀ i, i < N → w.cell? ⟨b, o + i, none⟩ = some (.int .i64 (gi xs i)) := by
          rcases hao with ⟨_, h0, _⟩ | h
          · omega
          · exact h
        obtain ⟨b', o', rfl, hc'⟩ : ∃ b o, bo = some ⟨b, o, none⟩ ∧ ∀ i, i < N → w.cell? ⟨b, o + i, none⟩ = some (.int .i64 (gi ys i)) := by
          rcases hbo with ⟨_, h0, _⟩ | h
          · omega
          · exact h
        have hck := hc k hlt
        have hck' := hc' k hlt
        clear hc hc' hao hbo
        by_cases he : gi xs k = gi ys k
        · have he' : (gi xs k != gi ys k) = false := by simp [he]
          have He := Lib.hid he; clear he
          go_wp2
          go_quiet (fail)
          go_wp2
          go_roundw
          case rel => exact ⟨k + 1, _, by omega, by go_num, rfl, fun i hi => by
            by_cases e : i = k
            · subst e; exact He.out
            · exact Hs.out i (by omega)⟩
          case measure => simp [intOf]; omega
        · have he' : (gi xs k != gi ys k) = true := by simp [he]
          have He := Lib.hid (Hne.out k he); clear he
          go_wp2
          go_quiet (fail)
          go_wp2
          go_ret
          exact ⟨ret_bool He.out.symm, _, World.drewN_drewN ..⟩
      · obtain rfl : k = N := by omega
        have He := Lib.hid (Hall.out (by simp) Hs.out)
        go_wp2
        go_ret
        exact ⟨ret_bool He.out.symm, _, rfl⟩
  · have hne' : ((N : Int) != (M : Int)) = true := by simp; omega
    have He := Lib.hid (Hlen.out hNM); clear hNM
    go_enter Try.func14, Try.ntmps14
    go_wp2
    go_ret
    exact ⟨ret_bool He.out.symm, 0, rfl⟩


/-- Two reslicings of one slice, as a walk writes them. -/
theorem cut_lo {k : IntKind} {w : World} {b o n c : Nat} {xs : List Int} (h : IS k w (.slice (some ⟨b, o, none⟩) n c) c xs) (i : Nat) (hi : i ≤ n) :
    IS k w (.slice (some ⟨b, o, none⟩) i i) i (xs.take i) := by
  obtain ⟨h1, h2, ao, hv, hao⟩ := h.open
  simp only [Value.slice.injEq] at hv
  obtain ⟨rfl, rfl, _⟩ := hv
  rcases hao with ⟨_, h0, h9⟩ | ⟨b', o', he, hc⟩
  · exact IS.mk (by simp; omega) (Nat.le_refl _) (by omega) fun j hj => by omega
  · simp only [Option.some.injEq, Addr.mk.injEq, and_true] at he
    obtain ⟨rfl, rfl⟩ := he
    exact IS.mk (by simp; omega) (Nat.le_refl _) (by omega) fun j hj => by rw [gi_take hj]; exact hc j (by omega)

theorem cut_hi {k : IntKind} {w : World} {b o n c : Nat} {xs : List Int} (h : IS k w (.slice (some ⟨b, o, none⟩) n c) c xs) (i : Nat) (hi : i ≤ n) :
    IS k w (.slice (if c = i then some ⟨b, o, none⟩ else some ⟨b, o + i, none⟩) (n - i) (c - i)) (c - i) (xs.drop i) := by
  obtain ⟨h1, h2, ao, hv, hao⟩ := h.open
  simp only [Value.slice.injEq] at hv
  obtain ⟨rfl, rfl, _⟩ := hv
  rcases hao with ⟨_, h0, h9⟩ | ⟨b', o', he, hc⟩
  · split <;> exact IS.mk (by simp) (by omega) (by omega) fun j hj => by omega
  · simp only [Option.some.injEq, Addr.mk.injEq, and_true] at he
    obtain ⟨rfl, rfl⟩ := he
    split
    · exact IS.mk (by simp) (by omega) (by omega) fun j hj => by omega
    · exact IS.mk (by simp) (by omega) (by omega) fun j hj => by rw [gi_drop, Nat.add_assoc]; exact hc (i + j) (by omega)

def lenV : Value → Nat | .slice _ n _ => n | _ => 0

theorem lenV_of {k : IntKind} {w : World} {v : Value} {c : Nat} {xs : List Int} (h : IS k w v c xs) : lenV v = xs.length := by
  obtain ⟨_, _, ao, rfl, _⟩ := h.open; rfl

theorem reduced_calls (v : Value) (c : Nat) (xs : List Int) (w : World) (h : IS .i64 w v c xs) (hl : xs.length ≤ 1000000) (hb : ∀ i, i < xs.length → -100 ≤ gi xs i ∧ gi xs i ≤ 100) :
    Calls Try.prog 15 #[v] w (RetX .i64 w (red xs)) := by
  have hxs := h
  obtain ⟨h1, h2, ao, rfl, hao⟩ := h.open
  clear hao
  go_enter Try.func15, Try.ntmps15
  go_wp2_with (at_builtin; refine app_own eiInt rfl _ _ rfl w.heap.size _ 0 [] rfl (World.ownsRow_made w #[] 0 (Nat.le_refl _) (by unfold maxLen; omega) rfl) _ _ _ rfl (hxs.ext ((Ext.refl w).alloc _)) (onesI _) ?c1 ?c2 ?c3 ?_)
  case c1 => simp; omega
  case c2 => simp; omega
  case c3 => simp
  intro v' w1 hown hb1
  have hext : Ext w w1 := Below.trans ((Ext.refl w).alloc _) hb1
  obtain ⟨c1, hc1⟩ := IS.of_own hown
  have Hxs := Lib.hid hc1
  clear hown hb1 hc1 h hxs
  have Hb := Lib.hid hb; clear hb
  unfold maxLen at h2
  go_wp2
  go_loopw [3, 4] (fun out i wr => ∃ (st : List Int) (k cc : Nat), IS .i64 wr out cc st ∧ i = .int .i64 k ∧ k ≤ st.length ∧ st.length ≤ xs.length ∧ Hid (Redd st (k + 1)) ∧ Hid (rest st k = red xs) ∧ Hid (∀ j, j < st.length → -100 ≤ gi st j ∧ gi st j ≤ 100) ∧ Ext w wr) (fun out i _ => 2 * lenV out + 1 - (intOf i).toNat)
  case atStart => exact ⟨xs, 0, c1, Hxs.out, rfl, Nat.zero_le _, Nat.le_refl _, fun j h1 h2 => by omega, rest_zero xs, Hb.out, hext⟩
  case round =>
    obtain ⟨st, k, cc, hIS, rfl, hk, hsl, Hr, Hrest, Hbd, hext⟩ := hrel
    obtain ⟨g1, g2, bo, rfl, hbo⟩ := hIS.open
    obtain ⟨M, hM⟩ : ∃ M, M = st.length := ⟨_, rfl⟩
    have hIS' := hIS
    rw [← hM] at hIS' hbo g1 hk hsl ⊢
    have HM := Lib.hid hM; clear hM
    have HIS := Lib.hid hIS; have HIS' := Lib.hid hIS'; clear hIS hIS'
    unfold maxLen at g2
    by_cases hlt : k + 1 < M
    · obtain ⟨b, o, rfl, hc⟩ : ∃ b o, bo = some ⟨b, o, none⟩ ∧ ∀ i, i < M → wr.cell? ⟨b, o + i, none⟩ = some (.int .i64 (gi st i)) := by
        rcases hbo with ⟨_, h0, _⟩ | h
        · omega
        · exact h
      have hc1 := hc k (by omega)
      have hc2 := hc (k + 1) hlt
      clear hc hbo
      have hlt' : (k : Int) + 1 < M := by omega
      obtain ⟨hd1, hd2⟩ := Hbd.out (k + 1) (by rw [← HM.out]; exact hlt)
      by_cases he : gi st k = - gi st (k + 1)
      · have he' : (gi st k == - gi st (k + 1)) = true := by simp [he]
        have He := Lib.hid he; clear he
        go_wp2
        go_quiet (fail)
        go_wp2
        have f1 : (k : Int) ≤ (cc : Int) := by omega
        have f2 : (0 : Int) ≤ (k : Int) := by omega
        have f3 : (k : Int) + 2 ≤ (M : Int) := by omega
        have f4 : (0 : Int) ≤ (k : Int) + 2 := by omega
        have f5 : IntKind.i64.wrap ((k : Int) + 2) = (k : Int) + 2 := IntWalk.i64_in _ ⟨by omega, by omega⟩
        have f6 : ((k : Int) + 2).toNat = k + 2 := by omega
        go_still_tail 8, (by kernel_rfl)
        change wpList _ _ _ _ _ ((wr.drewN nq).drew)
        obtain ⟨w2, hw2⟩ : ∃ w2, w2 = ((wr.drewN nq).drew) := ⟨_, rfl⟩
        have hx2 : Ext wr w2 := by rw [hw2]; exact ((Ext.refl wr).drewN nq).drew
        rw [← hw2]
        clear hw2
        have hlen : ((st.take k).map (Value.int .i64)).length = k := by simp; rw [← HM.out]; omega
        refine app_full eiInt rfl _ _ rfl _ _ k rfl ((cut_lo HIS'.out k (by omega)).ext hx2) hlen _ _ _ rfl ((cut_hi HIS'.out (k + 2) (by omega)).ext hx2) (onesI _) ?_ ?_ ?_
        · have := HM.out; simp; omega
        · have := HM.out; simp; omega
        have Hlen := Lib.hid hlen; clear hlen f1 f2 f3 f4 f5 f6
        intro v2 c2 w3 hv2 _ hx3
        rw [← List.map_append] at hv2
        have hs := rest_cut (by rw [← HM.out]; exact hlt) Hr.out He.out
        have hbd2 : ∀ j, j < (st.take k ++ st.drop (k + 2)).length → -100 ≤ gi (st.take k ++ st.drop (k + 2)) j ∧ gi (st.take k ++ st.drop (k + 2)) j ≤ 100 := by
          intro j hj
          have hm := HM.out
          by_cases e : j < k
          · rw [gi_append_left (by simp; omega), gi_take e]; exact Hbd.out j (by omega)
          · rw [gi_append_right (by simp; omega), gi_drop]; simp at hj ⊢; exact Hbd.out _ (by omega)
        obtain ⟨st2, hst2⟩ : ∃ st2, st2 = st.take k ++ st.drop (k + 2) := ⟨_, rfl⟩
        have hl2 : st2.length = M - 2 := by rw [hst2]; simp; have := HM.out; omega
        rw [← hst2] at hs hv2 hbd2
        have Hl2 := Lib.hid hl2; have Hs := Lib.hid hs; have Hv2 := Lib.hid hv2; have Hbd2 := Lib.hid hbd2
        clear hst2 hl2 hs hv2 hbd2 Hlen
        by_cases hk0 : k = 0
        · subst hk0
          go_wp2
          go_roundw
          case rel => exact ⟨st2, 0, c2, Hv2.out, by go_num, Nat.zero_le _, by rw [Hl2.out]; omega, Hs.out.2, Hs.out.1.trans Hrest.out, Hbd2.out, hext.trans (hx2.trans hx3)⟩
          case measure =>
            have := lenV_of (k := .i64) Hv2.out
            rw [this, Hl2.out]; simp [intOf, lenV]; omega
        · go_wp2
          go_roundw
          case rel => exact ⟨st2, k - 1, c2, Hv2.out, by go_num, by rw [Hl2.out]; omega, by rw [Hl2.out]; omega, Hs.out.2, Hs.out.1.trans Hrest.out, Hbd2.out, hext.trans (hx2.trans hx3)⟩
          case measure =>
            have := lenV_of (k := .i64) Hv2.out
            rw [this, Hl2.out]; simp [intOf, lenV]; omega
      · have he' : (gi st k == - gi st (k + 1)) = false := by simp [he]
        have He := Lib.hid he; clear he
        go_wp2
        go_quiet (fail)
        go_wp2
        go_roundw
        case rel => 
          have hs := rest_step (by rw [← HM.out]; exact hlt) Hr.out He.out
          exact ⟨st, k + 1, cc, HIS'.out.ext ((Ext.refl _).drewN _), by go_num, by rw [← HM.out]; omega, by rw [← HM.out]; exact hsl, hs.2, hs.1.trans Hrest.out, Hbd.out, hext.drewN _⟩
        case measure => simp [intOf, lenV]; omega
    · have hfin : st = red xs := by rw [← Hrest.out]; exact (rest_end (by rw [← HM.out]; exact hlt) Hr.out).symm
      have Hfin := Lib.hid hfin; clear hfin
      go_wp2
      go_ret
      rw [← Hfin.out]
      exact ⟨_, _, rfl, HIS'.out, hext⟩

end Go.Proofs.Ytbappfeojdehgaa
