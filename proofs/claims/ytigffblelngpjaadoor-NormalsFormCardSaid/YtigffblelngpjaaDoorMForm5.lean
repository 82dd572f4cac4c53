/- Texts of this claim in one file: libraries and walks. -/
import Derived.Test.YtigffblelngpjaaDoorL4
import Derived.Test.YtigffblelngpjaaDoorMForm3
import Derived.Test.YtigffblelngpjaaDoorMForm4
/- Contracts of normals.Same (slices.EqualFunc, slices.Equal), and of the law's helpers alike and word. -/
namespace Go.Proofs.YtigffblelngpjaaDoor
set_option linter.unusedVariables false
set_option linter.unusedSimpArgs false
set_option maxRecDepth 8000
open Go Go.RowKit

/-! ### slices.Equal -/
theorem SlEqual_calls (v v' : Value) (c c' : Nat) (xs ys : List Int) (w : World) (h : IS .u8 w v c xs) (h' : IS .u8 w v' c' ys) :
    Calls Tryd.prog 44 #[v, v'] w fun e w' => e = .returned (.bool (sameB xs ys)) ∧ Ext w w' := by
  obtain ⟨h1, h2, ao, rfl, hao⟩ := h.open
  obtain ⟨h1', h2', bo, rfl, hbo⟩ := h'.open
  have hlen : xs.length ≠ ys.length → sameB xs ys = false := sameB_len
  have hne : ∀ i, gi xs i ≠ gi ys i → sameB xs ys = false := fun i => sameB_ne
  have hall : xs.length = ys.length → (∀ i, i < xs.length → gi xs i = gi ys i) → sameB xs ys = true := sameB_all
  obtain ⟨N, hN⟩ : ∃ N, N = xs.length := ⟨_, rfl⟩
  obtain ⟨M, hM⟩ : ∃ M, M = ys.length := ⟨_, rfl⟩
  rw [← hN] at hao h1 hlen hall ⊢
  rw [← hM] at hbo h1' hlen hall ⊢
  clear h h' hN hM
  have Hlen := Lib.hid hlen; have Hne := Lib.hid hne; have Hall := Lib.hid hall
  clear hlen hne hall
  unfold maxLen at h2 h2'
  by_cases hNM : N = M
  · subst hNM
    go_enter Tryd.func44, Tryd.ntmps44
    go_wp2
    go_loopw [5, 13] (fun _ i wr => ∃ k m : Nat, k ≤ N ∧ i = .int .i64 k ∧ wr = w.drewN m ∧ Hid (∀ i, i < k → gi xs i = gi ys i)) (fun _ i _ => N - (intOf i).toNat)
    case atStart => exact ⟨0, 0, Nat.zero_le _, rfl, rfl, Lib.hid fun i h => by omega⟩
    case round =>
      obtain ⟨k, m, hk, rfl, rfl, Hs⟩ := hrel
      by_cases hlt : k < N
      · obtain ⟨b, o, rfl, hc⟩ : ∃ b o, ao = some ⟨b, o, none⟩ ∧ ∀ i, i < N → w.cell? ⟨b, o + i, none⟩ = some (.int .u8 (gi xs i)) := by
          rcases hao with ⟨_, h0, _⟩ | h
          · omega
          · exact h
        obtain ⟨b', o', rfl, hc'⟩ : ∃ b o, bo = some ⟨b, o, none⟩ ∧ ∀ i, i < N → w.cell? ⟨b, o + i, none⟩ = some (.int .u8 (gi ys i)) := by
          rcases hbo with ⟨_, h0, _⟩ | h
          · omega
          · exact h
        have hck := hc k hlt
        have hck' := hc' k hlt
        have e1 : (k : Int) < N := by omega
        have e2 : (0 : Int) ≤ k := by omega
        clear hc hc' hao hbo
        by_cases he : gi xs k = gi ys k
        · have he' : (gi xs k != gi ys k) = false := by simp [he]
          have He := Lib.hid he; clear he
          go_wp2
          go_quiet (fail)
          go_wp2
          go_roundw
          case rel => exact ⟨k + 1, _, by omega, by go_num, rfl, Lib.hid fun i hi => by
            by_cases e : i = k
            · subst e; exact He.out
            · exact Hs.out i (by omega)⟩
          case measure => simp [intOf]; omega
        · have he' : (gi xs k != gi ys k) = true := by simp [he]
          have He := Lib.hid (Hne.out k he); clear he
          go_wp2
          go_quiet (fail)
          go_wp2
          go_ret
          exact ⟨ret_bool He.out.symm, ((Ext.refl w).drewN _).drewN _⟩
      · obtain rfl : k = N := by omega
        have He := Lib.hid (Hall.out (by simp) Hs.out)
        go_wp2
        go_ret
        exact ⟨ret_bool He.out.symm, (Ext.refl w).drewN _⟩
  · have hne' : ((N : Int) != (M : Int)) = true := by simp; omega
    have He := Lib.hid (Hlen.out hNM); clear hNM
    go_enter Tryd.func44, Tryd.ntmps44
    go_wp2
    go_ret
    exact ⟨ret_bool He.out.symm, Ext.refl _⟩
def rowsB (xs ys : List (List Int)) : Bool := decide (xs = ys)
set_option maxHeartbeats 4000000 in
theorem EqFunc_calls (v v' : Value) (c c' : Nat) (xs ys : List (List Int)) (w : World) (h : ISS .u8 w v c xs) (h' : ISS .u8 w v' c' ys) :
    Calls Tryd.prog 43 #[v, v', .func (Fn.func 44) #[] #[]] w fun e w' => e = .returned (.bool (rowsB xs ys)) ∧ Ext w w' := by
  obtain ⟨vs, caps, h⟩ := h
  obtain ⟨vs', caps', h'⟩ := h'
  obtain ⟨h1, h2, ao, rfl, hao⟩ := h.open
  obtain ⟨h1', h2', bo, rfl, hbo⟩ := h'.open
  have hr := h.2
  have hr' := h'.2
  have hlen : xs.length ≠ ys.length → rowsB xs ys = false := fun hh => decide_eq_false fun e => hh (by rw [e])
  have hne : ∀ i, sameB (ri xs i) (ri ys i) = false → rowsB xs ys = false := fun i hi => decide_eq_false fun e => by rw [e, sameB_eq] at hi; cases hi
  have hall : xs.length = ys.length → (∀ i, i < xs.length → sameB (ri xs i) (ri ys i) = true) → rowsB xs ys = true := fun hl hh => decide_eq_true (ri_ext hl (fun i hi => by have := hh i hi; unfold sameB at this; simpa using this))
  obtain ⟨N, hN⟩ : ∃ N, N = xs.length := ⟨_, rfl⟩
  obtain ⟨M, hM⟩ : ∃ M, M = ys.length := ⟨_, rfl⟩
  rw [← hN] at hao h1 hlen hall hr ⊢
  rw [← hM] at hbo h1' hlen hall hr' ⊢
  clear h h' hN hM
  have Hlen := Lib.hid hlen; have Hne := Lib.hid hne; have Hall := Lib.hid hall; have Hr := Lib.hid hr; have Hr' := Lib.hid hr'
  clear hlen hne hall hr hr'
  unfold maxLen at h2 h2'
  by_cases hNM : N = M
  · subst hNM
    go_enter Tryd.func43, Tryd.ntmps43
    go_wp2
    go_loopw [7, 8, 9, 17] (fun _ _ _ i wr => ∃ k : Nat, k ≤ N ∧ i = .int .i64 k ∧ Hid (Ext w wr) ∧ Hid (∀ i, i < k → sameB (ri xs i) (ri ys i) = true)) (fun _ _ _ i _ => N - (intOf i).toNat)
    case atStart => exact ⟨0, Nat.zero_le _, rfl, Lib.hid (Ext.refl _), Lib.hid fun i h => by omega⟩
    case round =>
      obtain ⟨k, hk, rfl, X, Hs⟩ := hrel
      by_cases hlt : k < N
      · obtain ⟨b, o, rfl, hc⟩ : ∃ b o, ao = some ⟨b, o, none⟩ ∧ ∀ i, i < N → w.cell? ⟨b, o + i, none⟩ = some (vs i) := by
          rcases hao with ⟨_, h0, _⟩ | h
          · omega
          · exact h
        obtain ⟨b', o', rfl, hc'⟩ : ∃ b o, bo = some ⟨b, o, none⟩ ∧ ∀ i, i < N → w.cell? ⟨b, o + i, none⟩ = some (vs' i) := by
          rcases hbo with ⟨_, h0, _⟩ | h
          · omega
          · exact h
        have hck := X.out.cell (hc k hlt)
        have hck' := X.out.cell (hc' k hlt)
        have HQ := Lib.hid (SlEqual_calls _ _ _ _ _ _ wr ((Hr.out k hlt).ext X.out) ((Hr'.out k hlt).ext X.out))
        generalize vs k = u at hck HQ
        generalize vs' k = u' at hck' HQ
        clear hc hc' hao hbo
        have e1 : (k : Int) < N := by omega
        have e2 : (0 : Int) ≤ k := by omega
        go_wp2_with fail
        refine HQ.out.mono ?_
        rintro e w2 ⟨rfl, x⟩
        have X2 := Lib.hid (X.out.trans x)
        clear x HQ
        by_cases he : sameB (ri xs k) (ri ys k) = true
        · have He := Lib.hid he
          rw [he]
          clear he
          go_wp2
          go_roundw
          case rel => exact ⟨k + 1, by omega, by go_num, X2, Lib.hid fun i hi => by
            by_cases e : i = k
            · subst e; exact He.out
            · exact Hs.out i (by omega)⟩
          case measure => simp [intOf]; omega
        · have he' : sameB (ri xs k) (ri ys k) = false := by simpa using he
          have He := Lib.hid (Hne.out k he')
          rw [he']
          clear he he'
          go_wp2
          go_ret
          exact ⟨ret_bool He.out.symm, X2.out⟩
      · obtain rfl : k = N := by omega
        have He := Lib.hid (Hall.out (by simp) Hs.out)
        go_wp2
        go_ret
        exact ⟨ret_bool He.out.symm, X.out⟩
  · have hne' : ((N : Int) != (M : Int)) = true := by simp; omega
    have He := Lib.hid (Hlen.out hNM); clear hNM
    go_enter Tryd.func43, Tryd.ntmps43
    go_wp2
    go_ret
    exact ⟨ret_bool He.out.symm, Ext.refl _⟩
set_option maxHeartbeats 4000000 in
theorem NSame2_calls (v v' : Value) (N p q : Int) (xs ys : List (List Int)) (w : World) (h : NS w v N p xs) (h' : NS w v' N q ys) :
    Calls Tryd.prog 17 #[v, v'] w fun e w' => e = .returned (.bool (nsame N N p q xs ys)) ∧ Ext w w' := by
  obtain ⟨a, c, rfl, h⟩ := h
  obtain ⟨a', c', rfl, h'⟩ := h'
  obtain ⟨W, hW⟩ : ∃ W, W = (w.alloc (.cells #[.int .i64 N, .int .i64 p, .slice a xs.length c] 30)).alloc (.cells #[.int .i64 N, .int .i64 q, .slice a' ys.length c'] 30) := ⟨_, rfl⟩
  have xW : Ext w W := by rw [hW]; exact ((Ext.refl w).alloc _).alloc _
  have b1 : B3 W w.heap.size (.int .i64 N) (.int .i64 p) (.slice a xs.length c) 30 := by
    rw [hW]; exact ((Ext.refl _).alloc _).block (B3.new w _ _ _ _)
  have b2 : B3 W (w.heap.size + 1) (.int .i64 N) (.int .i64 q) (.slice a' ys.length c') 30 := by
    rw [hW]
    have := B3.new (w.alloc (.cells #[.int .i64 N, .int .i64 p, .slice a xs.length c] 30)) (.int .i64 N) (.int .i64 q) (.slice a' ys.length c') 30
    simpa using this
  have hE := EqFunc_calls _ _ _ _ _ _ W (h.ext xW) (h'.ext xW)
  have hno : p ≠ q → nsame N N p q xs ys = false := fun hh => decide_eq_false fun ⟨_, b, _⟩ => hh b
  have hyes : p = q → nsame N N p q xs ys = rowsB xs ys := fun hh => by
    subst hh
    unfold nsame rowsB
    simp
  obtain ⟨n, hn⟩ : ∃ n, n = xs.length := ⟨_, rfl⟩
  obtain ⟨m, hm⟩ : ∃ m, m = ys.length := ⟨_, rfl⟩
  obtain ⟨R, hR⟩ : ∃ R, R = nsame N N p q xs ys := ⟨_, rfl⟩
  rw [← hn] at hE hW b1 ⊢
  rw [← hm] at hE hW b2 ⊢
  rw [← hR] at hno hyes ⊢
  have c0 := b1.c0; have c1 := b1.c1; have c2 := b1.c2; have d0 := b2.c0; have d1 := b2.c1; have d2 := b2.c2
  have HE := Lib.hid hE; have HW := Lib.hid hW; have XW := Lib.hid xW; have Hno := Lib.hid hno; have Hyes := Lib.hid hyes
  rw [hW] at c0 c1 c2 d0 d1 d2
  clear hE hW xW hno hyes hn hm hR h h' b1 b2
  go_enter Tryd.func17, Tryd.ntmps17
  by_cases hpq : p = q
  · have e1 : (p == q) = true := by simp [hpq]
    have He := Lib.hid (Hyes.out hpq)
    clear hpq
    go_wp2_with fail
    rw [← HW.out]
    refine HE.out.mono ?_
    rintro e w2 ⟨rfl, x⟩
    rw [← He.out]
    have X2 := Lib.hid (XW.out.trans x)
    clear x
    go_wp2
    go_ret
    exact ⟨rfl, X2.out⟩
  · have e1 : (p == q) = false := by simp [hpq]
    have He := Lib.hid (Hno.out hpq)
    clear hpq
    go_wp2
    rw [← HW.out]
    go_ret
    exact ⟨ret_bool He.out.symm, XW.out⟩

/-! ### alike -/
set_option maxHeartbeats 4000000 in
theorem Alike_calls (v v' : Value) (c c' : Nat) (xs ys : List (List Int)) (w : World) (h : ISS .i64 w v c xs) (h' : ISS .i64 w v' c' ys) :
    Calls Tryd.prog 16 #[v, v'] w fun e w' => e = .returned (.bool (rowsB xs ys)) ∧ Ext w w' := by
  obtain ⟨vs, caps, h⟩ := h
  obtain ⟨vs', caps', h'⟩ := h'
  obtain ⟨h1, h2, ao, rfl, hao⟩ := h.open
  obtain ⟨h1', h2', bo, rfl, hbo⟩ := h'.open
  have hr := h.2
  have hr' := h'.2
  have hlen : xs.length ≠ ys.length → rowsB xs ys = false := fun hh => decide_eq_false fun e => hh (by rw [e])
  have hne : ∀ i, ri xs i ≠ ri ys i → rowsB xs ys = false := fun i hi => decide_eq_false fun e => hi (by rw [e])
  have hall : xs.length = ys.length → (∀ i, i < xs.length → ri xs i = ri ys i) → rowsB xs ys = true := fun hl hh => decide_eq_true (ri_ext hl hh)
  obtain ⟨N, hN⟩ : ∃ N, N = xs.length := ⟨_, rfl⟩
  obtain ⟨M, hM⟩ : ∃ M, M = ys.length := ⟨_, rfl⟩
  rw [← hN] at hao h1 hlen hall hr ⊢
  rw [← hM] at hbo h1' hlen hall hr' ⊢
  clear h h' hN hM
  have Hlen := Lib.hid hlen; have Hne := Lib.hid hne; have Hall := Lib.hid hall; have Hr := Lib.hid hr; have Hr' := Lib.hid hr'
  clear hlen hne hall hr hr'
  unfold maxLen at h2 h2'
  by_cases hNM : N = M
  · subst hNM
    have Hao := Lib.hid (fun i hi => (hao.resolve_left (fun ⟨_, h0, _⟩ => by omega) : ∃ b o, ao = some ⟨b, o, none⟩ ∧ ∀ i, i < N → w.cell? ⟨b, o + i, none⟩ = some (vs i)) : ∀ i, i < N → _)
    have Hbo := Lib.hid (fun i hi => (hbo.resolve_left (fun ⟨_, h0, _⟩ => by omega) : ∃ b o, bo = some ⟨b, o, none⟩ ∧ ∀ i, i < N → w.cell? ⟨b, o + i, none⟩ = some (vs' i)) : ∀ i, i < N → _)
    clear hao hbo
    go_enter Tryd.func16, Tryd.ntmps16
    go_wp2
    go_loopw [5, 6] (fun i _ wr => ∃ k m : Nat, k ≤ N ∧ i = .int .i64 k ∧ wr = w.drewN m ∧ Hid (∀ i, i < k → ri xs i = ri ys i)) (fun i _ _ => N - (intOf i).toNat)
    case atStart => exact ⟨0, 0, Nat.zero_le _, rfl, rfl, Lib.hid fun i h => by omega⟩
    case round =>
      obtain ⟨k, m, hk, rfl, rfl, Hs⟩ := hrel
      by_cases hlt : k < N
      · obtain ⟨b, o, rfl, hc⟩ := Hao.out k hlt
        obtain ⟨b', o', rfl, hc'⟩ := Hbo.out k hlt
        have hck := hc k hlt
        have hck' := hc' k hlt
        have e1 : (k : Int) < N := by omega
        have e2 : (0 : Int) ≤ k := by omega
        obtain ⟨q1, q2, av, hv, hav⟩ := (Hr.out k hlt).open
        obtain ⟨q1', q2', av', hv', hav'⟩ := (Hr'.out k hlt).open
        rw [hv] at hck
        rw [hv'] at hck'
        generalize caps k = cp at hck q1 q2 hav
        generalize caps' k = cp' at hck' q1' q2' hav'
        have hnk := Hne.out k
        have hgl : (ri xs k).length ≠ (ri ys k).length → ri xs k ≠ ri ys k := fun hh e => hh (by rw [e])
        have hge : ∀ j, gi (ri xs k) j ≠ gi (ri ys k) j → ri xs k ≠ ri ys k := fun j hh e => hh (by rw [e])
        have hgx : (ri xs k).length = (ri ys k).length → (∀ j, j < (ri xs k).length → gi (ri xs k) j = gi (ri ys k) j) → ri xs k = ri ys k := fun a b => gi_ext a b
        obtain ⟨P, hP⟩ : ∃ P, P = (ri xs k).length := ⟨_, rfl⟩
        obtain ⟨Q, hQ⟩ : ∃ Q, Q = (ri ys k).length := ⟨_, rfl⟩
        rw [← hP] at hck hgl hgx hav q1
        rw [← hQ] at hck' hgl hgx hav' q1'
        unfold maxLen at q2 q2'
        clear hc hc' hv hv' hP hQ
        have Hnk := Lib.hid hnk; have Hge := Lib.hid hge; have Hgl := Lib.hid hgl; have Hgx := Lib.hid hgx
        clear hnk hge hgl hgx
        by_cases hPQ : P = Q
        · subst hPQ
          have Hav := Lib.hid (fun i hi => (hav.resolve_left (fun ⟨_, h0, _⟩ => by omega) : ∃ b o, av = some ⟨b, o, none⟩ ∧ ∀ i, i < P → w.cell? ⟨b, o + i, none⟩ = some (.int .i64 (gi (ri xs k) i))) : ∀ i, i < P → _)
          have Hav' := Lib.hid (fun i hi => (hav'.resolve_left (fun ⟨_, h0, _⟩ => by omega) : ∃ b o, av' = some ⟨b, o, none⟩ ∧ ∀ i, i < P → w.cell? ⟨b, o + i, none⟩ = some (.int .i64 (gi (ri ys k) i))) : ∀ i, i < P → _)
          clear hav hav'
          go_wp2
          go_quiet (fail)
          obtain ⟨m1, hm1⟩ : ∃ m1, (w.drewN m).drewN nq = w.drewN m1 := ⟨_, World.drewN_drewN ..⟩
          go_wp2
          rw [hm1]
          go_loopw [6] (fun i wr => ∃ j m2 : Nat, j ≤ P ∧ i = .int .i64 j ∧ wr = w.drewN m2 ∧ Hid (∀ i, i < j → gi (ri xs k) i = gi (ri ys k) i)) (fun i _ => P - (intOf i).toNat)
          case atStart => exact ⟨0, m1, Nat.zero_le _, rfl, rfl, Lib.hid fun i h => by omega⟩
          case round =>
            obtain ⟨j, m2, hj, rfl, rfl, Hj⟩ := hrel
            by_cases hjt : j < P
            · obtain ⟨p, r, rfl, hd⟩ := Hav.out j hjt
              obtain ⟨p', r', rfl, hd'⟩ := Hav'.out j hjt
              have hdk := hd j hjt
              have hdk' := hd' j hjt
              have f1 : (j : Int) < P := by omega
              have f2 : (0 : Int) ≤ j := by omega
              clear hd hd'
              by_cases he : gi (ri xs k) j = gi (ri ys k) j
              · have he' : (gi (ri xs k) j != gi (ri ys k) j) = false := by simp [he]
                have He := Lib.hid he; clear he
                go_wp2
                go_quiet (fail)
                go_wp2
                go_roundw
                case rel => exact ⟨j + 1, _, by omega, by go_num, rfl, Lib.hid fun i hi => by
                  by_cases e : i = j
                  · subst e; exact He.out
                  · exact Hj.out i (by omega)⟩
                case measure => simp [intOf]; omega
              · have he' : (gi (ri xs k) j != gi (ri ys k) j) = true := by simp [he]
                have He := Lib.hid (Hnk.out (Hge.out j he)); clear he
                go_wp2
                go_quiet (fail)
                go_wp2
                go_ret
                exact ⟨ret_bool He.out.symm, ((Ext.refl w).drewN _).drewN _⟩
            · obtain rfl : j = P := by omega
              have He := Lib.hid (Hgx.out (by simp) Hj.out)
              go_wp2
              go_roundw
              case rel => exact ⟨k + 1, m2, by omega, by go_num, rfl, Lib.hid fun i hi => by
                by_cases e : i = k
                · subst e; exact He.out
                · exact Hs.out i (by omega)⟩
              case measure => simp [intOf]; omega
        · have hne' : ((P : Int) != (Q : Int)) = true := by simp; omega
          have He := Lib.hid (Hnk.out (Hgl.out hPQ))
          clear hPQ hav hav'
          go_wp2
          go_quiet (fail)
          go_wp2
          go_ret
          exact ⟨ret_bool He.out.symm, ((Ext.refl w).drewN _).drewN _⟩
      · obtain rfl : k = N := by omega
        have He := Lib.hid (Hall.out (by simp) Hs.out)
        go_wp2
        go_ret
        exact ⟨ret_bool He.out.symm, (Ext.refl w).drewN _⟩
  · have hne' : ((N : Int) != (M : Int)) = true := by simp; omega
    have He := Lib.hid (Hlen.out hNM); clear hNM
    go_enter Tryd.func16, Tryd.ntmps16
    go_wp2
    go_ret
    exact ⟨ret_bool He.out.symm, Ext.refl _⟩

/-! ### word -/
set_option maxHeartbeats 2000000 in
theorem Word12_calls (m : Int) (v : Value) (c : Nat) (xs : List Int) (w : World) (h : IS .u8 w v c xs) (hb : ∀ i, i < xs.length → 0 ≤ gi xs i ∧ gi xs i ≤ 255) (hn : 1 ≤ m ∧ m ≤ 8) :
    Calls Tryd.prog 14 #[.int .i64 m, v, .int .i64 12] w fun e w' => ∃ a n c, e = .returned (.slice a n c) ∧ IS .i64 w' (.slice a n c) c ((wordOf m xs).take 12) ∧ Ext w w' := by
  have HO := Lib.hid (WOf_calls m v c xs w h hb hn)
  obtain ⟨a1, n1, c1, rfl, hq, rfl, hq2⟩ := h.out
  have hl24 := wordOf_24 m xs
  generalize wordOf m xs = U at HO hl24 ⊢
  clear h hb hn hq hq2
  go_enter Tryd.func14, Tryd.ntmps14
  go_wp2_with fail
  refine HO.out.mono ?_
  intro e w2 hr
  obtain ⟨a3, n3, c3, rfl, hn3, h3, x⟩ := hr.open
  obtain ⟨L, hL⟩ : ∃ L, L = min n3 12 := ⟨_, rfl⟩
  have hmin : (if (12 : Int) < (n3 : Int) then (12 : Int) else (n3 : Int)) = (L : Int) := by split <;> omega
  have hmin2 : min (n3 : Int) 12 = (L : Int) := by omega
  have hnc := h3.len.2.2
  have hcut : IS .i64 w2 (.slice a3 L c3) c3 (U.take 12) := by
    have := h3.upto (m := L) (by omega)
    have e : U.take L = U.take 12 := by
      by_cases h12 : n3 ≤ 12
      · rw [List.take_of_length_le (by omega), List.take_of_length_le (by omega)]
      · rw [show L = 12 by omega]
    rwa [e] at this
  have e1 : (L : Int) ≤ c3 := by omega
  have e2 : (0 : Int) ≤ (L : Int) := by omega
  have HC := Lib.hid hcut; have X := Lib.hid x
  clear hr hn3 h3 x hL hnc hcut HO
  go_wp2
  go_ret
  exact ⟨_, _, _, rfl, HC.out, X.out⟩
end Go.Proofs.YtigffblelngpjaaDoor
/- The law NormalsEqual: its walk (printed by gen_l25c.py). -/
namespace Go.Proofs.YtigffblelngpjaaDoor
set_option linter.unusedVariables false
set_option linter.unusedSimpArgs false
set_option maxRecDepth 100000
open Go Go.RowKit

theorem qv_br {n : Nat} {w v : List Int} (hw : Val n w) (hv : Val n v) (h : Qv n (raw n w) (raw n v)) : Br n w v := (nw_raw hw).symm.trans (h.br.trans (nw_raw hv))
theorem law_eq {n : Nat} {w v : List Int} {qa qb : Int} {la lb : List (List Int)} (n1 : 1 ≤ n) (hw : Val n w) (hv : Val n v) (ha : Qv n (raw n w) (qa, pms n la)) (hb : Qv n (raw n v) (qb, pms n lb)) (oa : NFo n qa la) (ob : NFo n qb lb) :
    rowsB (actRows n w) (actRows n v) = nsame n n qa qb la lb := by
  unfold rowsB nsame
  rw [Bool.eq_iff_iff, decide_eq_true_iff, decide_eq_true_iff, act_br n1 hw hv]
  constructor
  · intro h
    have := nf_br hw hv h oa ha ob hb
    exact ⟨rfl, this.1, this.2⟩
  · rintro ⟨_, rfl, rfl⟩
    exact qv_br hw hv (ha.trans hb.symm)
theorem take_val {n : Int} {w : List Int} (h : Val n w) (k : Nat) : Val n (w.take k) := fun x hx => h x (List.mem_of_mem_take hx)
set_option maxHeartbeats 32000000 in
theorem NormalsEqual_walk (n : Int) (va vb : Value) (ca cb : Nat) (xs ys : List Int) (w : World) (hn : 0 ≤ n ∧ n ≤ 255) (h : IS .u8 w va ca xs) (h' : IS .u8 w vb cb ys) (hb : ∀ i, i < xs.length → 0 ≤ gi xs i ∧ gi xs i ≤ 255) (hb' : ∀ i, i < ys.length → 0 ≤ gi ys i ∧ gi ys i ≤ 255) (ht : PTab w) :
    Calls Tryd.prog 4 #[.int .u8 n, va, vb] w fun e w' => e = .returned (.bool true) ∧ Ext w w' := by
  obtain ⟨m, hm⟩ : ∃ m : Nat, (m : Int) = 1 + n % 6 := ⟨(1 + n % 6).toNat, by omega⟩
  have m1 : 1 ≤ m := by omega
  have m6 : m ≤ 6 := by omega
  have hStr := fun w => Strands_m n m w hn hm
  obtain ⟨a1, n1, c1, rfl, hn1, rfl, h1⟩ := h.out
  obtain ⟨a2, n2, c2, rfl, hn2, rfl, h2⟩ := h'.out
  have hOf := fun w' (x : Ext w w') => Word12_calls m (.slice a1 n1 c1) c1 xs w' (h1.ext x) hb ⟨by omega, by omega⟩
  have hOf' := fun w' (x : Ext w w') => Word12_calls m (.slice a2 n2 c2) c2 ys w' (h2.ext x) hb' ⟨by omega, by omega⟩
  have hv : Val m ((wordOf m xs).take 12) := take_val (wordOf_val (by omega) hb) 12
  have hv' : Val m ((wordOf m ys).take 12) := take_val (wordOf_val (by omega) hb') 12
  have hl12 : ((wordOf m xs).take 12).length ≤ 12 := by simp; omega
  have hl12' : ((wordOf m ys).take 12).length ≤ 12 := by simp; omega
  obtain ⟨W, hW⟩ : ∃ W, W = (wordOf m xs).take 12 := ⟨_, rfl⟩
  obtain ⟨V, hV⟩ : ∃ V, V = (wordOf m ys).take 12 := ⟨_, rfl⟩
  rw [← hW] at hOf hv hl12
  rw [← hV] at hOf' hv' hl12'
  have hcW := wcheck_val (n := m) (by omega) (by omega) (by omega) hv
  have hcV := wcheck_val (n := m) (by omega) (by omega) (by omega) hv'
  have hnW := fun v c w' (hi : IS .i64 w' v c W) => NOf2_calls m v c W w' hi hcW hv m1 (by omega) (by omega)
  have hnV := fun v c w' (hi : IS .i64 w' v c V) => NOf2_calls m v c V w' hi hcV hv' m1 (by omega) (by omega)
  have hAW := fun v c w' (hi : IS .i64 w' v c W) => Act_calls m v c W w' hi hcW (fits12 hv.at m1 hl12)
  have hAV := fun v c w' (hi : IS .i64 w' v c V) => Act_calls m v c V w' hi hcV (fits12 hv'.at m1 hl12')
  have hLe := fun qa qb la lb => @law_eq m W V qa qb la lb m1 hv hv'
  have HS := Lib.hid hStr; have HOf := Lib.hid hOf; have HOf' := Lib.hid hOf'; have HnW := Lib.hid hnW; have HnV := Lib.hid hnV; have HAW := Lib.hid hAW; have HAV := Lib.hid hAV; have HLe := Lib.hid hLe; have hT := Lib.hid ht
  clear hStr hOf hOf' hnW hnV hAW hAV hLe ht hv hv' hl12 hl12' hcW hcV hW hV hm hb hb' h h' h1 h2 hn1 hn2
  have hX := Lib.hid (Ext.refl w)
  go_enter Tryd.func4, Tryd.ntmps4
  go_wp2_with fail
  refine (HS.out _).mono ?_
  rintro e w1 ⟨rfl, rfl⟩
  go_wp2_with fail
  refine (HOf.out _ hX.out).mono ?_
  rintro e w2 ⟨sW, nW, cW, rfl, hW, x⟩
  have xx : Ext w w2 := Ext.trans (Ext.refl w) x
  replace hX := Lib.hid (Ext.trans hX.out xx)
  replace hT := Lib.hid (hT.out.ext xx)
  clear xx x
  have iW := Lib.hid hW
  clear hW
  go_wp2_with fail
  refine (HOf'.out _ hX.out).mono ?_
  rintro e w3 ⟨sV, nV, cV, rfl, hV, x⟩
  have xx : Ext w2 w3 := Ext.trans (Ext.refl w2) x
  replace hX := Lib.hid (Ext.trans hX.out xx)
  replace hT := Lib.hid (hT.out.ext xx)
  replace iW := Lib.hid (iW.out.ext xx)
  clear xx x
  have iV := Lib.hid hV
  clear hV
  go_wp2_with fail
  refine (HnW.out _ _ _ iW.out).mono ?_
  rintro e w4 hr
  obtain ⟨va, qa, la, rfl, hx, ho, hq, b1, b2, b3, x⟩ := hr
  obtain ⟨pa, ma, rfl, hx⟩ := hx.v
  have haN := Lib.hid hx; have haO := Lib.hid ho; have haQ := Lib.hid hq
  clear hx ho hq b1 b2 b3
  have xx : Ext w3 w4 := Ext.trans (Ext.refl w3) x
  replace hX := Lib.hid (Ext.trans hX.out xx)
  replace hT := Lib.hid (hT.out.ext xx)
  replace iW := Lib.hid (iW.out.ext xx)
  replace iV := Lib.hid (iV.out.ext xx)
  clear xx x
  go_wp2_with fail
  refine (HnV.out _ _ _ (iV.out.ext ((Ext.refl w4).alloc (.cells #[.int .i64 (m : Int), .int .i64 qa, .slice pa ma ma] 30)))).mono ?_
  rintro e w5 hr
  obtain ⟨vb, qb, lb, rfl, hx, ho, hq, b1, b2, b3, x⟩ := hr
  obtain ⟨pb, mb, rfl, hx⟩ := hx.v
  have hbN := Lib.hid hx; have hbO := Lib.hid ho; have hbQ := Lib.hid hq
  clear hx ho hq b1 b2 b3
  have haB := Lib.hid (show B3 w5 (w4.heap.size) (.int .i64 (m : Int)) (.int .i64 qa) (.slice pa ma ma) 30 from Ext.block x (show B3 (w4.alloc (.cells #[.int .i64 (m : Int), .int .i64 qa, .slice pa ma ma] 30)) (w4.heap.size) (.int .i64 (m : Int)) (.int .i64 qa) (.slice pa ma ma) 30 from B3.new _ _ _ _ _))
  have xx : Ext w4 w5 := Ext.trans ((Ext.refl w4).alloc (.cells #[.int .i64 (m : Int), .int .i64 qa, .slice pa ma ma] 30)) x
  replace hX := Lib.hid (Ext.trans hX.out xx)
  replace hT := Lib.hid (hT.out.ext xx)
  replace iW := Lib.hid (iW.out.ext xx)
  replace iV := Lib.hid (iV.out.ext xx)
  replace haN := Lib.hid (haN.out.ext xx)
  clear xx x
  go_wp2_with fail
  refine (HAW.out _ _ _ (iW.out.ext ((Ext.refl w5).alloc (.cells #[.int .i64 (m : Int), .int .i64 qb, .slice pb mb mb] 30)))).mono ?_
  rintro e w6 ⟨vP, rfl, hP, x⟩
  have hbB := Lib.hid (show B3 w6 (w5.heap.size) (.int .i64 (m : Int)) (.int .i64 qb) (.slice pb mb mb) 30 from Ext.block x (show B3 (w5.alloc (.cells #[.int .i64 (m : Int), .int .i64 qb, .slice pb mb mb] 30)) (w5.heap.size) (.int .i64 (m : Int)) (.int .i64 qb) (.slice pb mb mb) 30 from B3.new _ _ _ _ _))
  have xx : Ext w5 w6 := Ext.trans ((Ext.refl w5).alloc (.cells #[.int .i64 (m : Int), .int .i64 qb, .slice pb mb mb] 30)) x
  replace hX := Lib.hid (Ext.trans hX.out xx)
  replace hT := Lib.hid (hT.out.ext xx)
  replace iW := Lib.hid (iW.out.ext xx)
  replace iV := Lib.hid (iV.out.ext xx)
  replace haN := Lib.hid (haN.out.ext xx)
  replace haB := Lib.hid (show B3 w6 (w4.heap.size) (.int .i64 (m : Int)) (.int .i64 qa) (.slice pa ma ma) 30 from Ext.block xx haB.out)
  replace hbN := Lib.hid (hbN.out.ext xx)
  clear xx x
  have iP := Lib.hid hP.iss
  clear hP
  go_wp2_with fail
  refine (HAV.out _ _ _ iV.out).mono ?_
  rintro e w7 ⟨vQ, rfl, hQ, x⟩
  have xx : Ext w6 w7 := Ext.trans (Ext.refl w6) x
  replace hX := Lib.hid (Ext.trans hX.out xx)
  replace hT := Lib.hid (hT.out.ext xx)
  replace iW := Lib.hid (iW.out.ext xx)
  replace iV := Lib.hid (iV.out.ext xx)
  replace haN := Lib.hid (haN.out.ext xx)
  replace haB := Lib.hid (show B3 w7 (w4.heap.size) (.int .i64 (m : Int)) (.int .i64 qa) (.slice pa ma ma) 30 from Ext.block xx haB.out)
  replace hbN := Lib.hid (hbN.out.ext xx)
  replace hbB := Lib.hid (show B3 w7 (w5.heap.size) (.int .i64 (m : Int)) (.int .i64 qb) (.slice pb mb mb) 30 from Ext.block xx hbB.out)
  replace iP := Lib.hid (iP.out.ext xx)
  clear xx x
  have iQ := Lib.hid hQ.iss
  clear hQ
  have hle := HLe.out _ _ _ _ haQ.out hbQ.out haO.out hbO.out
  obtain ⟨R, hR⟩ : ∃ R, R = nsame (m : Int) m qa qb la lb := ⟨_, rfl⟩
  rw [← hR] at hle
  have hSame : ∀ W, Ext w7 W → Calls Tryd.prog 12 #[.agg #[.int .i64 (m : Int), .int .i64 qa, .slice pa ma ma], .agg #[.int .i64 (m : Int), .int .i64 qb, .slice pb mb mb]] W fun e w' => e = .returned (.bool R) ∧ Ext W w' := fun W x => by rw [hR]; exact NSame_calls _ _ m m qa qb la lb W (haN.out.ext x).ns (hbN.out.ext x).ns (haO.out.pl.byt haO.out.n8) (hbO.out.pl.byt hbO.out.n8)
  have hSame2 : ∀ W, Ext w7 W → Calls Tryd.prog 17 #[.agg #[.int .i64 (m : Int), .int .i64 qa, .slice pa ma ma], .agg #[.int .i64 (m : Int), .int .i64 qb, .slice pb mb mb]] W fun e w' => e = .returned (.bool R) ∧ Ext W w' := fun W x => by rw [hR]; exact NSame2_calls _ _ m qa qb la lb W (haN.out.ext x).ns (hbN.out.ext x).ns
  have hSame3 : ∀ W, Ext w7 W → Calls Tryd.prog 17 #[.agg #[.int .i64 (m : Int), .int .i64 qa, .slice pa ma ma], .agg #[.int .i64 (m : Int), .int .i64 qa, .slice pa ma ma]] W fun e w' => e = .returned (.bool true) ∧ Ext W w' := fun W x => by have := NSame2_calls _ _ m qa qa la la W (haN.out.ext x).ns (haN.out.ext x).ns; rwa [show nsame (m : Int) m qa qa la la = true from decide_eq_true ⟨rfl, rfl, rfl⟩] at this
  have hAl : ∀ W, Ext w7 W → Calls Tryd.prog 16 #[vP, vQ] W fun e w' => e = .returned (.bool R) ∧ Ext W w' := fun W x => by rw [← hle]; exact Alike_calls _ _ _ _ _ _ W (iP.out.ext x) (iQ.out.ext x)
  have hLv : ∀ W, Ext w7 W → Calls Tryd.prog 13 #[] W fun e w' => e = .returned (.bool true) ∧ Ext W w' := fun W x => Lives_calls W (hT.out.ext x)
  have HSame := Lib.hid hSame; have HSame2 := Lib.hid hSame2; have HSame3 := Lib.hid hSame3; have HAl := Lib.hid hAl; have HLv := Lib.hid hLv
  have q0_1 := B3.c0 haB.out; have q0_2 := B3.c1 haB.out; have q0_3 := B3.c2 haB.out; have q0_4 := B3.c0 hbB.out; have q0_5 := B3.c1 hbB.out; have q0_6 := B3.c2 hbB.out
  clear hSame hSame2 hSame3 hAl hLv hle hR
  go_wp2
  go_region_held3 (fun w' => w'.cell? ⟨w4.heap.size, 0, Option.none⟩ = some (.int .i64 (m : Int)) ∧ w'.cell? ⟨w4.heap.size, 1, Option.none⟩ = some (.int .i64 qa) ∧ w'.cell? ⟨w4.heap.size, 2, Option.none⟩ = some (.slice pa ma ma) ∧ w'.cell? ⟨w5.heap.size, 0, Option.none⟩ = some (.int .i64 (m : Int)) ∧ w'.cell? ⟨w5.heap.size, 1, Option.none⟩ = some (.int .i64 qb) ∧ w'.cell? ⟨w5.heap.size, 2, Option.none⟩ = some (.slice pb mb mb)) (first | (with_reducible exact ⟨q0_1, q0_2, q0_3, q0_4, q0_5, q0_6⟩) | (with_reducible exact ⟨q1_1, q1_2, q1_3, q1_4, q1_5, q1_6⟩) | (with_reducible exact ⟨q2_1, q2_2, q2_3, q2_4, q2_5, q2_6⟩) | (with_reducible exact ⟨q3_1, q3_2, q3_3, q3_4, q3_5, q3_6⟩) | (with_reducible exact ⟨q4_1, q4_2, q4_3, q4_4, q4_5, q4_6⟩) | (with_reducible exact ⟨q5_1, q5_2, q5_3, q5_4, q5_5, q5_6⟩) | go_keep) (first
    | (go_at_call 12; (refine (HSame.out _ ?_).mono ?_); (focus (first|((focus (repeat (first | (with_reducible exact Ext.refl _) | (with_reducible apply Ext.drew) | (with_reducible apply Ext.drewN) | (with_reducible apply Ext.alloc)))); done)|(refine Ext.trans Xa.out ?_; (focus (repeat (first | (with_reducible exact Ext.refl _) | (with_reducible apply Ext.drew) | (with_reducible apply Ext.drewN) | (with_reducible apply Ext.alloc)))); done))); intro e wa hh; obtain ⟨rfl, x⟩ := hh; have Xa_n : Hid (Ext w7 wa) := (by first | exact Lib.hid x | (refine Lib.hid (Ext.trans ?_ x); (repeat (first | (with_reducible exact Ext.refl _) | (with_reducible apply Ext.drew) | (with_reducible apply Ext.drewN) | (with_reducible apply Ext.alloc))); done) | exact Lib.hid (Xa.out.trans x) | (refine Lib.hid (Ext.trans (Ext.trans Xa.out ?_) x); (repeat (first | (with_reducible exact Ext.refl _) | (with_reducible apply Ext.drew) | (with_reducible apply Ext.drewN) | (with_reducible apply Ext.alloc))); done)); have Xa := Xa_n; clear Xa_n; have q1_1 := Xa.out.cell q0_1; have q1_2 := Xa.out.cell q0_2; have q1_3 := Xa.out.cell q0_3; have q1_4 := Xa.out.cell q0_4; have q1_5 := Xa.out.cell q0_5; have q1_6 := Xa.out.cell q0_6; clear x)
    | (go_at_call 16; (refine (HAl.out _ ?_).mono ?_); (focus (first|((focus (repeat (first | (with_reducible exact Ext.refl _) | (with_reducible apply Ext.drew) | (with_reducible apply Ext.drewN) | (with_reducible apply Ext.alloc)))); done)|(refine Ext.trans Xa.out ?_; (focus (repeat (first | (with_reducible exact Ext.refl _) | (with_reducible apply Ext.drew) | (with_reducible apply Ext.drewN) | (with_reducible apply Ext.alloc)))); done))); intro e wa hh; obtain ⟨rfl, x⟩ := hh; have Xa_n : Hid (Ext w7 wa) := (by first | exact Lib.hid x | (refine Lib.hid (Ext.trans ?_ x); (repeat (first | (with_reducible exact Ext.refl _) | (with_reducible apply Ext.drew) | (with_reducible apply Ext.drewN) | (with_reducible apply Ext.alloc))); done) | exact Lib.hid (Xa.out.trans x) | (refine Lib.hid (Ext.trans (Ext.trans Xa.out ?_) x); (repeat (first | (with_reducible exact Ext.refl _) | (with_reducible apply Ext.drew) | (with_reducible apply Ext.drewN) | (with_reducible apply Ext.alloc))); done)); have Xa := Xa_n; clear Xa_n; have q2_1 := Xa.out.cell q0_1; have q2_2 := Xa.out.cell q0_2; have q2_3 := Xa.out.cell q0_3; have q2_4 := Xa.out.cell q0_4; have q2_5 := Xa.out.cell q0_5; have q2_6 := Xa.out.cell q0_6; clear x)
    | (go_at_call_of 17 (Value.agg #[.int .i64 (m : Int), .int .i64 qb, .slice pb mb mb]); (refine (HSame2.out _ ?_).mono ?_); (focus (first|((focus (repeat (first | (with_reducible exact Ext.refl _) | (with_reducible apply Ext.drew) | (with_reducible apply Ext.drewN) | (with_reducible apply Ext.alloc)))); done)|(refine Ext.trans Xa.out ?_; (focus (repeat (first | (with_reducible exact Ext.refl _) | (with_reducible apply Ext.drew) | (with_reducible apply Ext.drewN) | (with_reducible apply Ext.alloc)))); done))); intro e wa hh; obtain ⟨rfl, x⟩ := hh; have Xa_n : Hid (Ext w7 wa) := (by first | exact Lib.hid x | (refine Lib.hid (Ext.trans ?_ x); (repeat (first | (with_reducible exact Ext.refl _) | (with_reducible apply Ext.drew) | (with_reducible apply Ext.drewN) | (with_reducible apply Ext.alloc))); done) | exact Lib.hid (Xa.out.trans x) | (refine Lib.hid (Ext.trans (Ext.trans Xa.out ?_) x); (repeat (first | (with_reducible exact Ext.refl _) | (with_reducible apply Ext.drew) | (with_reducible apply Ext.drewN) | (with_reducible apply Ext.alloc))); done)); have Xa := Xa_n; clear Xa_n; have q3_1 := Xa.out.cell q0_1; have q3_2 := Xa.out.cell q0_2; have q3_3 := Xa.out.cell q0_3; have q3_4 := Xa.out.cell q0_4; have q3_5 := Xa.out.cell q0_5; have q3_6 := Xa.out.cell q0_6; clear x)
    | (go_at_call 17; (refine (HSame3.out _ ?_).mono ?_); (focus (first|((focus (repeat (first | (with_reducible exact Ext.refl _) | (with_reducible apply Ext.drew) | (with_reducible apply Ext.drewN) | (with_reducible apply Ext.alloc)))); done)|(refine Ext.trans Xa.out ?_; (focus (repeat (first | (with_reducible exact Ext.refl _) | (with_reducible apply Ext.drew) | (with_reducible apply Ext.drewN) | (with_reducible apply Ext.alloc)))); done))); intro e wa hh; obtain ⟨rfl, x⟩ := hh; have Xa_n : Hid (Ext w7 wa) := (by first | exact Lib.hid x | (refine Lib.hid (Ext.trans ?_ x); (repeat (first | (with_reducible exact Ext.refl _) | (with_reducible apply Ext.drew) | (with_reducible apply Ext.drewN) | (with_reducible apply Ext.alloc))); done) | exact Lib.hid (Xa.out.trans x) | (refine Lib.hid (Ext.trans (Ext.trans Xa.out ?_) x); (repeat (first | (with_reducible exact Ext.refl _) | (with_reducible apply Ext.drew) | (with_reducible apply Ext.drewN) | (with_reducible apply Ext.alloc))); done)); have Xa := Xa_n; clear Xa_n; have q4_1 := Xa.out.cell q0_1; have q4_2 := Xa.out.cell q0_2; have q4_3 := Xa.out.cell q0_3; have q4_4 := Xa.out.cell q0_4; have q4_5 := Xa.out.cell q0_5; have q4_6 := Xa.out.cell q0_6; clear x)
    | (go_at_call 13; (refine (HLv.out _ ?_).mono ?_); (focus (first|((focus (repeat (first | (with_reducible exact Ext.refl _) | (with_reducible apply Ext.drew) | (with_reducible apply Ext.drewN) | (with_reducible apply Ext.alloc)))); done)|(refine Ext.trans Xa.out ?_; (focus (repeat (first | (with_reducible exact Ext.refl _) | (with_reducible apply Ext.drew) | (with_reducible apply Ext.drewN) | (with_reducible apply Ext.alloc)))); done))); intro e wa hh; obtain ⟨rfl, x⟩ := hh; have Xa_n : Hid (Ext w7 wa) := (by first | exact Lib.hid x | (refine Lib.hid (Ext.trans ?_ x); (repeat (first | (with_reducible exact Ext.refl _) | (with_reducible apply Ext.drew) | (with_reducible apply Ext.drewN) | (with_reducible apply Ext.alloc))); done) | exact Lib.hid (Xa.out.trans x) | (refine Lib.hid (Ext.trans (Ext.trans Xa.out ?_) x); (repeat (first | (with_reducible exact Ext.refl _) | (with_reducible apply Ext.drew) | (with_reducible apply Ext.drewN) | (with_reducible apply Ext.alloc))); done)); have Xa := Xa_n; clear Xa_n; have q5_1 := Xa.out.cell q0_1; have q5_2 := Xa.out.cell q0_2; have q5_3 := Xa.out.cell q0_3; have q5_4 := Xa.out.cell q0_4; have q5_5 := Xa.out.cell q0_5; have q5_6 := Xa.out.cell q0_6; clear x))
  all_goals (try go_wp2)
  all_goals (go_ret; exact ⟨rfl, hX.out.trans Xa.out⟩)
end Go.Proofs.YtigffblelngpjaaDoor
/- Contracts of the law's helpers crossings, crosses, back and formed. -/
namespace Go.Proofs.YtigffblelngpjaaDoor
set_option linter.unusedVariables false
set_option linter.unusedSimpArgs false
set_option maxRecDepth 8000
open Go Go.RowKit

/-! ### crossings -/
/-- Those of the first j places that the strand at place a crosses. -/
def crp (xs : List Int) (a j : Nat) : Int := sm j fun b => tf (decide (a < b) && crB xs a b)
def crs (xs : List Int) (k : Nat) : Int := sm k fun a => crp xs a xs.length
theorem crs_all (xs : List Int) : crs xs xs.length = invs xs := rfl
theorem crp_zero (xs : List Int) (a : Nat) : crp xs a a = 0 := sm_zero fun j _ hj => by rw [decide_eq_false (show ¬ a < j by omega)]; rfl
theorem crp_succ (xs : List Int) (a j : Nat) : crp xs a (j + 1) = crp xs a j + tf (decide (a < j + 1) && crB xs a (j + 1)) := rfl
theorem crs_succ (xs : List Int) (k : Nat) : crs xs (k + 1) = crs xs k + crp xs (k + 1) xs.length := rfl
set_option maxHeartbeats 4000000 in
theorem Crossings_calls (v : Value) (c : Nat) (xs : List Int) (w : World) (h : IS .u8 w v c xs) (h8 : xs.length ≤ 8) :
    Calls Tryd.prog 29 #[v] w fun e w' => e = .returned (.int .i64 (invs xs)) ∧ Ext w w' := by
  obtain ⟨h1, h2, ao, rfl, hao⟩ := h.open
  have hend := crs_all xs
  have hs : ∀ k, crs xs (k + 1) = crs xs k + crp xs (k + 1) xs.length := crs_succ xs
  have hp : ∀ k j, k < j → crp xs (k + 1) (j + 1) = crp xs (k + 1) j + tf (decide (gi xs j < gi xs k)) := fun k j hj => by
    rw [crp_succ, decide_eq_true (show k + 1 < j + 1 by omega)]; rfl
  have hc0 : crs xs 0 = 0 := rfl
  obtain ⟨N, hN⟩ : ∃ N, N = xs.length := ⟨_, rfl⟩
  rw [← hN] at hao h1 h8 hend hs ⊢
  have Hs := Lib.hid hs; have Hp := Lib.hid hp; have Hend := Lib.hid hend; have Hc0 := Lib.hid hc0
  have Hao := Lib.hid (fun i hi => (hao.resolve_left (fun ⟨_, h0, _⟩ => by omega) : ∃ b o, ao = some ⟨b, o, none⟩ ∧ ∀ i, i < N → w.cell? ⟨b, o + i, none⟩ = some (.int .u8 (gi xs i))) : ∀ i, i < N → _)
  clear hao hs hp hend hc0 h hN
  unfold maxLen at h2
  go_enter Tryd.func29, Tryd.ntmps29
  go_wp2
  go_loopw [3, 4, 5] (fun z i _ wr => ∃ (k m : Nat) (t : Int), k ≤ N ∧ i = .int .i64 k ∧ z = .int .i64 t ∧ wr = w.drewN m ∧ Hid (t = crs xs k) ∧ 0 ≤ t ∧ t ≤ 8 * k) (fun _ i _ _ => N - (intOf i).toNat)
  case atStart => exact ⟨0, 0, 0, Nat.zero_le _, rfl, rfl, rfl, Lib.hid Hc0.out.symm, by omega, by omega⟩
  case round =>
    obtain ⟨k, m, t, hk, rfl, rfl, rfl, Ht, t0, t8⟩ := hrel
    by_cases hlt : k < N
    · have e1 : (k : Int) < N := by omega
      have e2 : (0 : Int) ≤ k := by omega
      have e3 : IntKind.i64.wrap ((k : Int) + 1) = ((k + 1 : Nat) : Int) := by rw [show (k : Int) + 1 = ((k + 1 : Nat) : Int) by omega]; exact IntWalk.i64_in _ ⟨by omega, by omega⟩
      obtain ⟨b, o, rfl, hc⟩ := Hao.out k hlt
      have hck := hc k hlt
      have Hc := Lib.hid hc
      clear hc
      go_wp2
      go_loopw [3, 5] (fun z i wr => ∃ (j m : Nat) (u : Int), k + 1 ≤ j ∧ j ≤ N ∧ i = .int .i64 j ∧ z = .int .i64 u ∧ wr = w.drewN m ∧ Hid (u = crs xs k + crp xs (k + 1) j) ∧ 0 ≤ u ∧ u ≤ 8 * k + (j - k - 1)) (fun _ i _ => N - (intOf i).toNat)
      case atStart => exact ⟨k + 1, m, t, by omega, by omega, rfl, rfl, rfl, Lib.hid (by rw [crp_zero, Ht.out]; omega), by omega, by omega⟩
      case round =>
        obtain ⟨j, m2, u, hj1, hj, rfl, rfl, rfl, Hu, u0, u8⟩ := hrel
        by_cases hjt : j < N
        · have f1 : (j : Int) < N := by omega
          have f2 : (0 : Int) ≤ j := by omega
          have f3 : IntKind.i64.wrap (u + 1) = u + 1 := IntWalk.i64_in _ ⟨by omega, by omega⟩
          have hcj := Hc.out j hjt
          have hpj := Hp.out k j (by omega)
          by_cases he : gi xs j < gi xs k
          · have hd : decide (gi xs j < gi xs k) = true := decide_eq_true he
            rw [hd] at hpj
            have HP := Lib.hid hpj
            clear hpj
            go_wp2
            go_quiet (fail)
            go_wp2
            go_roundw
            case rel => exact ⟨j + 1, _, u + 1, by omega, by omega, by go_num, rfl, rfl, Lib.hid (by rw [HP.out, Hu.out]; simp only [tf, if_true]; omega), by omega, by omega⟩
            case measure => simp [intOf]; omega
          · have hd : decide (gi xs j < gi xs k) = false := decide_eq_false he
            rw [hd] at hpj
            have HP := Lib.hid hpj
            clear hpj
            go_wp2
            go_quiet (fail)
            go_wp2
            go_roundw
            case rel => exact ⟨j + 1, _, u, by omega, by omega, by go_num, rfl, rfl, Lib.hid (by rw [HP.out, Hu.out]; simp [tf]), by omega, by omega⟩
            case measure => simp [intOf]; omega
        · obtain rfl : j = N := by omega
          have HS := Lib.hid (Hs.out k)
          go_wp2
          go_roundw
          case rel => exact ⟨k + 1, m2, u, by omega, by go_num, rfl, rfl, Lib.hid (by rw [HS.out, Hu.out]), by omega, by omega⟩
          case measure => simp [intOf]; omega
    · obtain rfl : k = N := by omega
      go_wp2
      go_ret
      exact ⟨ret_int (by rw [Ht.out, Hend.out]), (Ext.refl w).drewN _⟩

/-! ### crosses, back -/
set_option maxHeartbeats 2000000 in
theorem Crosses_calls (v : Value) (c k : Nat) (xs : List Int) (w : World) (h : IS .u8 w v c xs) (h8 : xs.length ≤ 8) (h1 : 1 ≤ k) (h2 : k < xs.length) :
    Calls Tryd.prog 57 #[v, .int .i64 (k : Int)] w fun e w' => e = .returned (.bool (fallB xs k)) ∧ Ext w w' := by
  obtain ⟨_, _, ao, rfl, hao⟩ := h.open
  obtain ⟨b, o, rfl, hc⟩ : ∃ b o, ao = some ⟨b, o, none⟩ ∧ ∀ i, i < xs.length → w.cell? ⟨b, o + i, none⟩ = some (.int .u8 (gi xs i)) := by
    rcases hao with ⟨_, h0, _⟩ | hh
    · omega
    · exact hh
  obtain ⟨j, rfl⟩ : ∃ j, k = j + 1 := ⟨k - 1, by omega⟩
  have c1 := hc j (by omega)
  have c2 := hc (j + 1) h2
  have hf : fallB xs (j + 1) = decide (gi xs (j + 1) < gi xs j) := by unfold fallB; rw [Nat.add_sub_cancel]
  rw [hf]
  generalize gi xs (j + 1) = y at c2
  generalize gi xs j = x at c1
  obtain ⟨N, hN⟩ : ∃ N, N = xs.length := ⟨_, rfl⟩
  rw [← hN] at h8 h2 ⊢
  have e1 : IntKind.i64.wrap (((j + 1 : Nat) : Int) - 1) = (j : Int) := by rw [show ((j + 1 : Nat) : Int) - 1 = (j : Int) by omega]; exact IntWalk.i64_in _ ⟨by omega, by omega⟩
  have e2 : (j : Int) < N := by omega
  have e3 : (0 : Int) ≤ j := by omega
  have e4 : ((j + 1 : Nat) : Int) < N := by omega
  have e5 : (0 : Int) ≤ ((j + 1 : Nat) : Int) := by omega
  clear hc hao h hN hf
  go_enter Tryd.func57, Tryd.ntmps57
  go_wp2
  go_quiet (fail)
  go_wp2
  go_ret
  exact ⟨rfl, (Ext.refl w).drewN _⟩
set_option maxHeartbeats 2000000 in
theorem Back_calls (v : Value) (c : Nat) (xs : List Int) (w : World) (h : IS .u8 w v c xs) (hl : xs.length ≤ 8) (hr : inR xs xs.length) :
    Calls Tryd.prog 58 #[v] w (RetI .u8 w xs.length (invL xs)) := by
  obtain ⟨h1, h2, ao, rfl, hao⟩ := h.open
  have hb := fun i hi => hr i hi
  have hfin : ∀ wr, URow w wr xs.length (fun k => (gi xs k - 1).toNat) (fun k => (k : Int) + 1) xs.length → IS .u8 wr (.slice (some ⟨w.heap.size, 0, none⟩) xs.length xs.length) xs.length (invL xs) := fun wr hu => hu.ret (by omega)
  obtain ⟨N, hN⟩ : ∃ N, N = xs.length := ⟨_, rfl⟩
  rw [← hN] at hao h1 hl hb hfin ⊢
  have Hb := Lib.hid hb; have HF := Lib.hid hfin
  have Hao := Lib.hid (fun i hi => (hao.resolve_left (fun ⟨_, h0, _⟩ => by omega) : ∃ b o, ao = some ⟨b, o, none⟩ ∧ ∀ i, i < N → w.cell? ⟨b, o + i, none⟩ = some (.int .u8 (gi xs i))) : ∀ i, i < N → _)
  clear hN hr hb hfin h hao
  unfold maxLen at h2
  have hmk := run_make_row' (P := Tryd.prog) 22 5 (.int .u8 0) 1 Tryd.underlying22 (by kernel_rfl) rfl .i64 .i64 N (by omega) (by omega)
  go_enter Tryd.func58, Tryd.ntmps58
  go_wp2
  go_loopw [4] (fun i wr => ∃ k : Nat, k ≤ N ∧ i = .int .i64 k ∧ Hid (URow w wr N (fun k => (gi xs k - 1).toNat) (fun k => (k : Int) + 1) k)) (fun i _ => N - (intOf i).toNat)
  case atStart => exact ⟨0, Nat.zero_le _, rfl, Lib.hid (URow.start w N _ _)⟩
  case round =>
    obtain ⟨k, hk, rfl, H⟩ := hrel
    by_cases hlt : k < N
    · obtain ⟨b, o, rfl, hc⟩ := Hao.out k hlt
      have hck := H.out.1.cell ((hc k hlt))
      obtain ⟨b1, b2⟩ := Hb.out k hlt
      have hnx := H.out.next
      obtain ⟨_, f, hrow, hf⟩ := H.out
      obtain ⟨y, hy⟩ : ∃ y : Nat, gi xs k = (y : Int) + 1 := ⟨(gi xs k - 1).toNat, by omega⟩
      have hyN : y < N := by omega
      have hst := hrow.cell (i := y) hyN
      have hfz := hrow.frozen y
      rw [hf y] at hst
      rw [hy] at hck b1 b2
      simp only [hy, Int.add_sub_cancel, Int.toNat_natCast] at hnx
      have HNX := Lib.hid hnx
      have e1 : (k : Int) < N := by omega
      have e2 : (0 : Int) ≤ k := by omega
      clear hy hnx
      clear hc hrow hf
      go_wp2
      go_roundw
      case rel => exact ⟨k + 1, by omega, by go_num, HNX.out⟩
      case measure => simp [intOf]; omega
    · obtain rfl : k = N := by omega
      go_wp2
      go_ret
      exact ⟨_, rfl, HF.out _ H.out, H.out.1, NN.mk⟩

/-! ### formed -/
/-- All pairs. -/
def prs (n : Nat) : Int := sm n fun a => sm n fun b => tf (decide (a < b))
theorem prs_eq {n : Nat} (h8 : n ≤ 8) : prs n = (n : Int) * ((n : Int) - 1) / 2 := by
  rcases (show n = 0 ∨ n = 1 ∨ n = 2 ∨ n = 3 ∨ n = 4 ∨ n = 5 ∨ n = 6 ∨ n = 7 ∨ n = 8 by omega) with rfl | rfl | rfl | rfl | rfl | rfl | rfl | rfl | rfl <;> decide
theorem invs_le (n : Nat) {xs : List Int} (hl : xs.length = n) : invs xs ≤ prs n := by
  subst hl
  refine sm_le fun a _ _ => sm_le fun b _ _ => ?_
  cases h1 : decide (a < b) <;> cases h2 : crB xs a b <;> simp [tf]
theorem invs_full {n : Nat} {xs : List Int} (h : PM n xs) (hne : pm n xs ≠ Pm.dl n) : invs xs < prs n := by
  obtain ⟨k, hk⟩ := Classical.not_forall.1 fun hall => hne (h.spt.all hall)
  obtain ⟨k1, hk⟩ := Classical.not_imp.1 hk
  obtain ⟨k2, hk⟩ := Classical.not_imp.1 hk
  have hl := h.len
  unfold invs prs
  rw [hl]
  have key : ∀ a b : Nat, tf (decide (a < b) && crB xs a b) ≤ tf (decide (a < b)) := fun a b => by
    cases h1 : decide (a < b) <;> cases h2 : crB xs a b <;> simp [tf]
  refine sm_lt (i := k) (fun a _ _ => sm_le fun b _ _ => key a b) k1 (by omega) ?_
  refine sm_lt (i := k + 1) (fun b _ _ => key k b) (by omega) (by omega) ?_
  have hc : crB xs k (k + 1) = false := by
    unfold crB
    rw [Nat.add_sub_cancel]
    exact decide_eq_false fun hh => hk ((h.St k1 k2).2 hh)
  rw [hc, decide_eq_true (show k < k + 1 by omega)]
  simp [tf]
theorem invs_zero {n : Nat} {xs : List Int} (h : PM n xs) (hne : pm n xs ≠ Pm.one) : invs xs ≠ 0 := fun e => hne (by
  have := sorted_id h.ok e
  rw [h.len] at this
  rw [this]; exact (PM.idL n).2)
theorem NFo.two {n : Nat} {q : Int} {ls : List (List Int)} (h : NFo n q ls) {i : Nat} (hi : i < ls.length) : invs (ri ls i) ≠ 0 ∧ invs (ri ls i) < prs n ∧ 0 ≤ invs (ri ls i) := by
  obtain ⟨hP, h1, h2, _⟩ := h.at hi
  refine ⟨invs_zero hP fun e => h1 (setN_zero.2 fun k k1 k2 => ?_), invs_full hP fun e => h2 ((dl_all hP h.n1).2 e), sm_nonneg fun _ _ _ => sm_nonneg fun _ _ _ => (tf_bd _).1⟩
  have : ¬ (pm n (ri ls i)).St k := by rw [e]; exact one_St k
  have := fun hh => this ((hP.St k1 (by omega)).2 hh)
  unfold fallB; exact decide_eq_false this
set_option maxHeartbeats 8000000 in
theorem Formed_calls (a : Option Addr) (n m : Nat) (q : Int) (ls : List (List Int)) (w : World) (h : NX w (.agg #[.int .i64 (n : Int), .int .i64 q, .slice a m m]) n q ls) (ho : NFo n q ls) :
    Calls Tryd.prog 25 #[.int .i64 (n : Int), .slice a m m] w fun e w' => e = .returned (.bool true) ∧ Ext w w' := by
  obtain ⟨b0, e0, hX⟩ := h
  simp at e0
  obtain ⟨rfl, rfl⟩ := e0
  obtain ⟨vs, hat, his⟩ := hX.at rfl
  have hat2 := fun i (hi : i < ls.length) => ho.at hi
  have hin := fun i (hi : i < ls.length) => ho.two hi
  have hnx := fun i (hi : i + 1 < ls.length) => ho.next hi
  have n1 := ho.n1; have n8 := ho.n8; have hlb := ho.lb
  obtain ⟨D, hD⟩ : ∃ D, D = prs n := ⟨_, rfl⟩
  have hDe := prs_eq n8
  rw [← hD] at hin hDe
  have hnn : (0 : Int) ≤ (n : Int) * ((n : Int) - 1) ∧ (n : Int) * ((n : Int) - 1) ≤ 56 := by
    rcases (show n = 1 ∨ n = 2 ∨ n = 3 ∨ n = 4 ∨ n = 5 ∨ n = 6 ∨ n = 7 ∨ n = 8 by omega) with rfl | rfl | rfl | rfl | rfl | rfl | rfl | rfl <;> decide
  have g1 : IntKind.i64.wrap ((n : Int) - 1) = (n : Int) - 1 := IntWalk.i64_in _ ⟨by omega, by omega⟩
  have g2 : IntKind.i64.wrap ((n : Int) * ((n : Int) - 1)) = (n : Int) * ((n : Int) - 1) := IntWalk.i64_in _ ⟨by omega, by omega⟩
  have g3 : ((n : Int) * ((n : Int) - 1)).tdiv 2 = D := by rw [hDe, Int.tdiv_eq_ediv_of_nonneg hnn.1]
  have hDb : 0 ≤ D ∧ D ≤ 28 := by omega
  have g4 : IntKind.i64.wrap D = D := IntWalk.i64_in _ ⟨by omega, by omega⟩
  obtain ⟨m, hm⟩ : ∃ m, m = ls.length := ⟨_, rfl⟩
  rw [← hm] at hat his hat2 hin hnx hlb ⊢
  have Hat := Lib.hid hat; have His := Lib.hid his; have HA2 := Lib.hid hat2; have Hin := Lib.hid hin; have Hnx := Lib.hid hnx
  clear hat his hat2 hin hnx hm hX ho hD hDe hnn hDb
  go_enter Tryd.func25, Tryd.ntmps25
  go_wp2
  go_loopw [5, 6, 7] (fun i _ _ wr => ∃ k : Nat, k ≤ m ∧ i = .int .i64 k ∧ Hid (Ext w wr)) (fun i _ _ _ => m - (intOf i).toNat)
  case atStart => exact ⟨0, Nat.zero_le _, rfl, Lib.hid (Ext.refl _)⟩
  case round =>
    obtain ⟨k, hk, rfl, X⟩ := hrel
    by_cases hlt : k < m
    · obtain ⟨b, o, rfl, hc⟩ := Hat.out k hlt
      have hck := X.out.cell hc
      obtain ⟨hP, _, _, n2⟩ := HA2.out k hlt
      have hI := (His.out k hlt).ext X.out
      obtain ⟨_, _, av, hv, _⟩ := hI.open
      rw [hP.len] at hv hI
      rw [hv] at hck hI
      obtain ⟨i1, i2, i3⟩ := Hin.out k hlt
      have HC := Lib.hid (Crossings_calls _ _ _ wr hI (by rw [hP.len]; exact n8))
      have HIw := Lib.hid ((His.out k hlt)); have HP := Lib.hid hP
      have e1 : (k : Int) < m := by omega
      have e2 : (0 : Int) ≤ k := by omega
      have HI := Lib.hid hI
      obtain ⟨I, hIe⟩ : ∃ I, I = invs (ri ls k) := ⟨_, rfl⟩
      rw [← hIe] at HC i1 i2 i3
      have j1 : (I == 0) = false := by simp [i1]
      have j2 : (I == D) = false := by simp; omega
      clear hc hP hI hv hIe i1 i2 i3
      go_wp2_with fail
      refine HC.out.mono ?_
      rintro e w2 ⟨rfl, x2⟩
      have X2 := Lib.hid x2
      clear x2
      have hcl : ∀ i, i < m → w2.cell? ⟨b, o + i, none⟩ = some (vs i) := fun i hi => by
        obtain ⟨b', o', e, hc'⟩ := Hat.out i hi
        obtain ⟨rfl, rfl⟩ : b = b' ∧ o = o' := by simpa using e
        exact X2.out.cell (X.out.cell hc')
      have Hcl := Lib.hid hcl
      have hcv := X2.out.cell hck
      clear hcl hck
      go_wp2
      go_loopw [7] (fun i wr => ∃ r : Nat, 1 ≤ r ∧ r ≤ n ∧ i = .int .i64 r ∧ Hid (Ext w2 wr)) (fun i _ => n - (intOf i).toNat)
      case atStart => exact ⟨1, by omega, n1, rfl, Lib.hid (Ext.refl _)⟩
      case round =>
        obtain ⟨r, hr1, hrn, rfl, Y⟩ := hrel
        have f0 : (r : Int) ≤ n := by omega
        by_cases hgo : r < n ∧ 0 < k
        · obtain ⟨hrt, hk0⟩ := hgo
          have f1 : (r : Int) < n := by omega
          have f2 : (0 : Int) < k := by omega
          have hcy := Y.out.cell hcv
          have HX2 := Lib.hid (Crosses_calls _ _ r _ wr ((HI.out.ext X2.out).ext Y.out) (by rw [HP.out.len]; exact n8) hr1 (by rw [HP.out.len]; exact hrt))
          go_wp2_with fail
          refine HX2.out.mono ?_
          rintro e w3 ⟨rfl, x3⟩
          have X3 := Lib.hid (Y.out.trans x3)
          clear x3 hcy
          obtain ⟨j, hj⟩ : ∃ j, k = j + 1 := ⟨k - 1, by omega⟩
          have hjm : j + 1 < m := by omega
          have f3 : IntKind.i64.wrap ((k : Int) - 1) = (j : Int) := by rw [show (k : Int) - 1 = (j : Int) by omega]; exact IntWalk.i64_in _ ⟨by omega, by omega⟩
          have hnz := Hnx.out j hjm
          rw [← hj] at hnz
          have Hnz := Lib.hid hnz
          clear hj hnz
          by_cases hf : fallB (ri ls k) r = true
          · have hcj := X3.out.cell (Hcl.out j (by omega))
            have hPj := (HA2.out j (by omega)).1
            have hIj := (((His.out j (by omega)).ext X.out).ext X2.out).ext X3.out
            obtain ⟨_, _, aj, hvj, _⟩ := hIj.open
            rw [hPj.len] at hvj hIj
            rw [hvj] at hcj hIj
            have HBk := Lib.hid (Back_calls _ _ _ w3 hIj (by rw [hPj.len]; exact n8) (pok_inR hPj.ok))
            have HPj := Lib.hid hPj
            have hz := setN_zero.1 Hnz.out r hr1 (by omega)
            rw [hf] at hz
            have hfi : fallB (invL (ri ls j)) r = true := by simpa using hz
            have Hfi := Lib.hid hfi
            rw [hf]
            have f4 : (j : Int) < m := by omega
            have f5 : (0 : Int) ≤ j := by omega
            clear hf hPj hIj hvj hz hfi
            go_wp2_with fail
            refine HBk.out.mono ?_
            intro e w4 hr
            obtain ⟨v4, rfl, h4, x4, _⟩ := hr
            obtain ⟨a4, m4, c4, rfl, hm4, rfl, h4⟩ := h4.out
            have X4 := Lib.hid (X3.out.trans x4)
            have HX5 := Lib.hid (Crosses_calls _ _ r _ w4 h4 (by rw [HPj.out.inv.len]; exact n8) hr1 (by rw [HPj.out.inv.len]; exact hrt))
            clear h4 x4 hm4
            go_wp2_with fail
            refine HX5.out.mono ?_
            rintro e w5 ⟨rfl, x5⟩
            have X5 := Lib.hid (X4.out.trans x5)
            rw [Hfi.out]
            clear x5
            go_wp2
            go_roundw
            case rel => exact ⟨r + 1, by omega, by omega, by go_num, X5⟩
            case measure => simp [intOf]; omega
          · have hf' : fallB (ri ls k) r = false := by simpa using hf
            rw [hf']
            clear hf hf'
            go_wp2
            go_roundw
            case rel => exact ⟨r + 1, by omega, by omega, by go_num, X3⟩
            case measure => simp [intOf]; omega
        · by_cases hrt : r < n
          · have hk0 : k = 0 := by omega
            subst hk0
            have f1 : (r : Int) < n := by omega
            clear hgo
            go_wp2
            go_roundw
            case rel => exact ⟨0 + 1, by omega, by go_num, Lib.hid ((X.out.trans X2.out).trans Y.out)⟩
            case measure => simp [intOf]; omega
          · have f1 : ¬ (r : Int) < n := by omega
            clear hgo
            go_wp2
            go_roundw
            case rel => exact ⟨k + 1, by omega, by go_num, Lib.hid ((X.out.trans X2.out).trans Y.out)⟩
            case measure => simp [intOf]; omega
    · obtain rfl : k = m := by omega
      go_wp2
      go_ret
      exact ⟨rfl, X.out⟩
end Go.Proofs.YtigffblelngpjaaDoor
