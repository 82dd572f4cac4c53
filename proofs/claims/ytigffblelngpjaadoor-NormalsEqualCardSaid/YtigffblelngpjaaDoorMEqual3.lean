/- Texts of this claim in one file: libraries and walks. -/
import Derived.Test.YtigffblelngpjaaDoorL4
import Derived.Test.YtigffblelngpjaaDoorMEqual1
import Derived.Test.YtigffblelngpjaaDoorMEqual2
/- Contracts of normals.Same (slices.EqualFunc, slices.Equal), and of the law's helpers alike and word. -/
namespace Go.Proofs.YtigffblelngpjaaDoor
set_option linter.unusedVariables false
set_option linter.unusedSimpArgs false
set_option maxRecDepth 8000
open Go Go.RowKit

/-! ### slices.Equal -/
theorem SlEqual_calls (v v' : Value) (c c' : Nat) (xs ys : List Int) (w : World) (h : IS .u8 w v c xs) (h' : IS .u8 w v' c' ys) :
    Calls Tryd.prog 44 #[v, v'] w fun e w' => e = .returned (.bool (sameB xs ys)) ∧ Ext w w' := by
  obtain ⟨h1, h2, ao, rfl, hao⟩ := h.open
  obtain ⟨h1', h2', bo, rfl, hbo⟩ := h'.open
  have hlen : xs.length ≠ ys.length → sameB xs ys = false := sameB_len
  have hne : ∀ i, gi xs i ≠ gi ys i → sameB xs ys = false := fun i => sameB_ne
  have hall : xs.length = ys.length → (∀ i, i < xs.length → gi xs i = gi ys i) → sameB xs ys = true := sameB_all
  obtain ⟨N, hN⟩ : ∃ N, N = xs.length := ⟨_, rfl⟩
  obtain ⟨M, hM⟩ : ∃ M, M = ys.length := ⟨_, rfl⟩
  rw [← hN] at hao h1 hlen hall ⊢
  rw [← hM] at hbo h1' hlen hall ⊢
  clear h h' hN hM
  have Hlen := Lib.hid hlen; have Hne := Lib.hid hne; have Hall := Lib.hid hall
  clear hlen hne hall
  unfold maxLen at h2 h2'
  by_cases hNM : N = M
  · subst hNM
    go_enter Tryd.func44, Tryd.ntmps44
    go_wp2
    go_loopw [5, 13] (fun _ i wr => ∃ k m : Nat, k ≤ N ∧ i = .int .i64 k ∧ wr = w.drewN m ∧ Hid (∀ i, i < k → gi xs i = gi ys i)) (fun _ i _ => N - (intOf i).toNat)
    case atStart => exact ⟨0, 0, Nat.zero_le _, rfl, rfl, Lib.hid fun i h => by omega⟩
    case round =>
      obtain ⟨k, m, hk, rfl, rfl, Hs⟩ := hrel
      by_cases hlt : k < N
      · obtain ⟨b, o, rfl, hc⟩ : ∃ b o, ao = some ⟨b, o, none⟩ ∧ ∀ i, i < N → w.cell? ⟨b, o + i, none⟩ = some (.int .u8 (gi xs i)) := by
          rcases hao with ⟨_, h0, _⟩ | h
          · omega
          · exact h
        obtain ⟨b', o', rfl, hc'⟩ : ∃ b o, bo = some ⟨b, o, none⟩ ∧ ∀ i, i < N → w.cell? ⟨b, o + i, none⟩ = some (.int .u8 (gi ys i)) := by
          rcases hbo with ⟨_, h0, _⟩ | h
          · omega
          · exact h
        have hck := hc k hlt
        have hck' := hc' k hlt
        have e1 : (k : Int) < N := by omega
        have e2 : (0 : Int) ≤ k := by omega
        clear hc hc' hao hbo
        by_cases he : gi xs k = gi ys k
        · have he' : (gi xs k != gi ys k) = false := by simp [he]
          have He := Lib.hid he; clear he
          go_wp2
          go_quiet (fail)
          go_wp2
          go_roundw
          case rel => exact ⟨k + 1, _, by omega, by go_num, rfl, Lib.hid fun i hi => by
            by_cases e : i = k
            · subst e; exact He.out
            · exact Hs.out i (by omega)⟩
          case measure => simp [intOf]; omega
        · have he' : (gi xs k != gi ys k) = true := by simp [he]
          have He := Lib.hid (Hne.out k he); clear he
          go_wp2
          go_quiet (fail)
          go_wp2
          go_ret
          exact ⟨ret_bool He.out.symm, ((Ext.refl w).drewN _).drewN _⟩
      · obtain rfl : k = N := by omega
        have He := Lib.hid (Hall.out (by simp) Hs.out)
        go_wp2
        go_ret
        exact ⟨ret_bool He.out.symm, (Ext.refl w).drewN _⟩
  · have hne' : ((N : Int) != (M : Int)) = true := by simp; omega
    have He := Lib.hid (Hlen.out hNM); clear hNM
    go_enter Tryd.func44, Tryd.ntmps44
    go_wp2
    go_ret
    exact ⟨ret_bool He.out.symm, Ext.refl _⟩
def rowsB (xs ys : List (List Int)) : Bool := decide (xs = ys)
set_option maxHeartbeats 4000000 in
theorem EqFunc_calls (v v' : Value) (c c' : Nat) (xs ys : List (List Int)) (w : World) (h : ISS .u8 w v c xs) (h' : ISS .u8 w v' c' ys) :
    Calls Tryd.prog 43 #[v, v', .func (Fn.func 44) #[] #[]] w fun e w' => e = .returned (.bool (rowsB xs ys)) ∧ Ext w w' := by
  obtain ⟨vs, caps, h⟩ := h
  obtain ⟨vs', caps', h'⟩ := h'
  obtain ⟨h1, h2, ao, rfl, hao⟩ := h.open
  obtain ⟨h1', h2', bo, rfl, hbo⟩ := h'.open
  have hr := h.2
  have hr' := h'.2
  have hlen : xs.length ≠ ys.length → rowsB xs ys = false := fun hh => decide_eq_false fun e => hh (by rw [e])
  have hne : ∀ i, sameB (ri xs i) (ri ys i) = false → rowsB xs ys = false := fun i hi => decide_eq_false fun e => by rw [e, sameB_eq] at hi; cases hi
  have hall : xs.length = ys.length → (∀ i, i < xs.length → sameB (ri xs i) (ri ys i) = true) → rowsB xs ys = true := fun hl hh => decide_eq_true (ri_ext hl (fun i hi => by have := hh i hi; unfold sameB at this; simpa using this))
  obtain ⟨N, hN⟩ : ∃ N, N = xs.length := ⟨_, rfl⟩
  obtain ⟨M, hM⟩ : ∃ M, M = ys.length := ⟨_, rfl⟩
  rw [← hN] at hao h1 hlen hall hr ⊢
  rw [← hM] at hbo h1' hlen hall hr' ⊢
  clear h h' hN hM
  have Hlen := Lib.hid hlen; have Hne := Lib.hid hne; have Hall := Lib.hid hall; have Hr := Lib.hid hr; have Hr' := Lib.hid hr'
  clear hlen hne hall hr hr'
  unfold maxLen at h2 h2'
  by_cases hNM : N = M
  · subst hNM
    go_enter Tryd.func43, Tryd.ntmps43
    go_wp2
    go_loopw [7, 8, 9, 17] (fun _ _ _ i wr => ∃ k : Nat, k ≤ N ∧ i = .int .i64 k ∧ Hid (Ext w wr) ∧ Hid (∀ i, i < k → sameB (ri xs i) (ri ys i) = true)) (fun _ _ _ i _ => N - (intOf i).toNat)
    case atStart => exact ⟨0, Nat.zero_le _, rfl, Lib.hid (Ext.refl _), Lib.hid fun i h => by omega⟩
    case round =>
      obtain ⟨k, hk, rfl, X, Hs⟩ := hrel
      by_cases hlt : k < N
      · obtain ⟨b, o, rfl, hc⟩ : ∃ b o, ao = some ⟨b, o, none⟩ ∧ ∀ i, i < N → w.cell? ⟨b, o + i, none⟩ = some (vs i) := by
          rcases hao with ⟨_, h0, _⟩ | h
          · omega
          · exact h
        obtain ⟨b', o', rfl, hc'⟩ : ∃ b o, bo = some ⟨b, o, none⟩ ∧ ∀ i, i < N → w.cell? ⟨b, o + i, none⟩ = some (vs' i) := by
          rcases hbo with ⟨_, h0, _⟩ | h
          · omega
          · exact h
        have hck := X.out.cell (hc k hlt)
        have hck' := X.out.cell (hc' k hlt)
        have HQ := Lib.hid (SlEqual_calls _ _ _ _ _ _ wr ((Hr.out k hlt).ext X.out) ((Hr'.out k hlt).ext X.out))
        generalize vs k = u at hck HQ
        generalize vs' k = u' at hck' HQ
        clear hc hc' hao hbo
        have e1 : (k : Int) < N := by omega
        have e2 : (0 : Int) ≤ k := by omega
        go_wp2_with fail
        refine HQ.out.mono ?_
        rintro e w2 ⟨rfl, x⟩
        have X2 := Lib.hid (X.out.trans x)
        clear x HQ
        by_cases he : sameB (ri xs k) (ri ys k) = true
        · have He := Lib.hid he
          rw [he]
          clear he
          go_wp2
          go_roundw
          case rel => exact ⟨k + 1, by omega, by go_num, X2, Lib.hid fun i hi => by
            by_cases e : i = k
            · subst e; exact He.out
            · exact Hs.out i (by omega)⟩
          case measure => simp [intOf]; omega
        · have he' : sameB (ri xs k) (ri ys k) = false := by simpa using he
          have He := Lib.hid (Hne.out k he')
          rw [he']
          clear he he'
          go_wp2
          go_ret
          exact ⟨ret_bool He.out.symm, X2.out⟩
      · obtain rfl : k = N := by omega
        have He := Lib.hid (Hall.out (by simp) Hs.out)
        go_wp2
        go_ret
        exact ⟨ret_bool He.out.symm, X.out⟩
  · have hne' : ((N : Int) != (M : Int)) = true := by simp; omega
    have He := Lib.hid (Hlen.out hNM); clear hNM
    go_enter Tryd.func43, Tryd.ntmps43
    go_wp2
    go_ret
    exact ⟨ret_bool He.out.symm, Ext.refl _⟩
set_option maxHeartbeats 4000000 in
theorem NSame2_calls (v v' : Value) (N p q : Int) (xs ys : List (List Int)) (w : World) (h : NS w v N p xs) (h' : NS w v' N q ys) :
    Calls Tryd.prog 17 #[v, v'] w fun e w' => e = .returned (.bool (nsame N N p q xs ys)) ∧ Ext w w' := by
  obtain ⟨a, c, rfl, h⟩ := h
  obtain ⟨a', c', rfl, h'⟩ := h'
  obtain ⟨W, hW⟩ : ∃ W, W = (w.alloc (.cells #[.int .i64 N, .int .i64 p, .slice a xs.length c] 30)).alloc (.cells #[.int .i64 N, .int .i64 q, .slice a' ys.length c'] 30) := ⟨_, rfl⟩
  have xW : Ext w W := by rw [hW]; exact ((Ext.refl w).alloc _).alloc _
  have b1 : B3 W w.heap.size (.int .i64 N) (.int .i64 p) (.slice a xs.length c) 30 := by
    rw [hW]; exact ((Ext.refl _).alloc _).block (B3.new w _ _ _ _)
  have b2 : B3 W (w.heap.size + 1) (.int .i64 N) (.int .i64 q) (.slice a' ys.length c') 30 := by
    rw [hW]
    have := B3.new (w.alloc (.cells #[.int .i64 N, .int .i64 p, .slice a xs.length c] 30)) (.int .i64 N) (.int .i64 q) (.slice a' ys.length c') 30
    simpa using this
  have hE := EqFunc_calls _ _ _ _ _ _ W (h.ext xW) (h'.ext xW)
  have hno : p ≠ q → nsame N N p q xs ys = false := fun hh => decide_eq_false fun ⟨_, b, _⟩ => hh b
  have hyes : p = q → nsame N N p q xs ys = rowsB xs ys := fun hh => by
    subst hh
    unfold nsame rowsB
    simp
  obtain ⟨n, hn⟩ : ∃ n, n = xs.length := ⟨_, rfl⟩
  obtain ⟨m, hm⟩ : ∃ m, m = ys.length := ⟨_, rfl⟩
  obtain ⟨R, hR⟩ : ∃ R, R = nsame N N p q xs ys := ⟨_, rfl⟩
  rw [← hn] at hE hW b1 ⊢
  rw [← hm] at hE hW b2 ⊢
  rw [← hR] at hno hyes ⊢
  have c0 := b1.c0; have c1 := b1.c1; have c2 := b1.c2; have d0 := b2.c0; have d1 := b2.c1; have d2 := b2.c2
  have HE := Lib.hid hE; have HW := Lib.hid hW; have XW := Lib.hid xW; have Hno := Lib.hid hno; have Hyes := Lib.hid hyes
  rw [hW] at c0 c1 c2 d0 d1 d2
  clear hE hW xW hno hyes hn hm hR h h' b1 b2
  go_enter Tryd.func17, Tryd.ntmps17
  by_cases hpq : p = q
  · have e1 : (p == q) = true := by simp [hpq]
    have He := Lib.hid (Hyes.out hpq)
    clear hpq
    go_wp2_with fail
    rw [← HW.out]
    refine HE.out.mono ?_
    rintro e w2 ⟨rfl, x⟩
    rw [← He.out]
    have X2 := Lib.hid (XW.out.trans x)
    clear x
    go_wp2
    go_ret
    exact ⟨rfl, X2.out⟩
  · have e1 : (p == q) = false := by simp [hpq]
    have He := Lib.hid (Hno.out hpq)
    clear hpq
    go_wp2
    rw [← HW.out]
    go_ret
    exact ⟨ret_bool He.out.symm, XW.out⟩

/-! ### alike -/
set_option maxHeartbeats 4000000 in
theorem Alike_calls (v v' : Value) (c c' : Nat) (xs ys : List (List Int)) (w : World) (h : ISS .i64 w v c xs) (h' : ISS .i64 w v' c' ys) :
    Calls Tryd.prog 16 #[v, v'] w fun e w' => e = .returned (.bool (rowsB xs ys)) ∧ Ext w w' := by
  obtain ⟨vs, caps, h⟩ := h
  obtain ⟨vs', caps', h'⟩ := h'
  obtain ⟨h1, h2, ao, rfl, hao⟩ := h.open
  obtain ⟨h1', h2', bo, rfl, hbo⟩ := h'.open
  have hr := h.2
  have hr' := h'.2
  have hlen : xs.length ≠ ys.length → rowsB xs ys = false := fun hh => decide_eq_false fun e => hh (by rw [e])
  have hne : ∀ i, ri xs i ≠ ri ys i → rowsB xs ys = false := fun i hi => decide_eq_false fun e => hi (by rw [e])
  have hall : xs.length = ys.length → (∀ i, i < xs.length → ri xs i = ri ys i) → rowsB xs ys = true := fun hl hh => decide_eq_true (ri_ext hl hh)
  obtain ⟨N, hN⟩ : ∃ N, N = xs.length := ⟨_, rfl⟩
  obtain ⟨M, hM⟩ : ∃ M, M = ys.length := ⟨_, rfl⟩
  rw [← hN] at hao h1 hlen hall hr ⊢
  rw [← hM] at hbo h1' hlen hall hr' ⊢
  clear h h' hN hM
  have Hlen := Lib.hid hlen; have Hne := Lib.hid hne; have Hall := Lib.hid hall; have Hr := Lib.hid hr; have Hr' := Lib.hid hr'
  clear hlen hne hall hr hr'
  unfold maxLen at h2 h2'
  by_cases hNM : N = M
  · subst hNM
    have Hao := Lib.hid (fun i hi => (hao.resolve_left (fun ⟨_, h0, _⟩ => by omega) : ∃ b o, ao = some ⟨b, o, none⟩ ∧ ∀ i, i < N → w.cell? ⟨b, o + i, none⟩ = some (vs i)) : ∀ i, i < N → _)
    have Hbo := Lib.hid (fun i hi => (hbo.resolve_left (fun ⟨_, h0, _⟩ => by omega) : ∃ b o, bo = some ⟨b, o, none⟩ ∧ ∀ i, i < N → w.cell? ⟨b, o + i, none⟩ = some (vs' i)) : ∀ i, i < N → _)
    clear hao hbo
    go_enter Tryd.func16, Tryd.ntmps16
    go_wp2
    go_loopw [5, 6] (fun i _ wr => ∃ k m : Nat, k ≤ N ∧ i = .int .i64 k ∧ wr = w.drewN m ∧ Hid (∀ i, i < k → ri xs i = ri ys i)) (fun i _ _ => N - (intOf i).toNat)
    case atStart => exact ⟨0, 0, Nat.zero_le _, rfl, rfl, Lib.hid fun i h => by omega⟩
    case round =>
      obtain ⟨k, m, hk, rfl, rfl, Hs⟩ := hrel
      by_cases hlt : k < N
      · obtain ⟨b, o, rfl, hc⟩ := Hao.out k hlt
        obtain ⟨b', o', rfl, hc'⟩ := Hbo.out k hlt
        have hck := hc k hlt
        have hck' := hc' k hlt
        have e1 : (k : Int) < N := by omega
        have e2 : (0 : Int) ≤ k := by omega
        obtain ⟨q1, q2, av, hv, hav⟩ := (Hr.out k hlt).open
        obtain ⟨q1', q2', av', hv', hav'⟩ := (Hr'.out k hlt).open
        rw [hv] at hck
        rw [hv'] at hck'
        generalize caps k = cp at hck q1 q2 hav
        generalize caps' k = cp' at hck' q1' q2' hav'
        have hnk := Hne.out k
        have hgl : (ri xs k).length ≠ (ri ys k).length → ri xs k ≠ ri ys k := fun hh e => hh (by rw [e])
        have hge : ∀ j, gi (ri xs k) j ≠ gi (ri ys k) j → ri xs k ≠ ri ys k := fun j hh e => hh (by rw [e])
        have hgx : (ri xs k).length = (ri ys k).length → (∀ j, j < (ri xs k).length → gi (ri xs k) j = gi (ri ys k) j) → ri xs k = ri ys k := fun a b => gi_ext a b
        obtain ⟨P, hP⟩ : ∃ P, P = (ri xs k).length := ⟨_, rfl⟩
        obtain ⟨Q, hQ⟩ : ∃ Q, Q = (ri ys k).length := ⟨_, rfl⟩
        rw [← hP] at hck hgl hgx hav q1
        rw [← hQ] at hck' hgl hgx hav' q1'
        unfold maxLen at q2 q2'
        clear hc hc' hv hv' hP hQ
        have Hnk := Lib.hid hnk; have Hge := Lib.hid hge; have Hgl := Lib.hid hgl; have Hgx := Lib.hid hgx
        clear hnk hge hgl hgx
        by_cases hPQ : P = Q
        · subst hPQ
          have Hav := Lib.hid (fun i hi => (hav.resolve_left (fun ⟨_, h0, _⟩ => by omega) : ∃ b o, av = some ⟨b, o, none⟩ ∧ ∀ i, i < P → w.cell? ⟨b, o + i, none⟩ = some (.int .i64 (gi (ri xs k) i))) : ∀ i, i < P → _)
          have Hav' := Lib.hid (fun i hi => (hav'.resolve_left (fun ⟨_, h0, _⟩ => by omega) : ∃ b o, av' = some ⟨b, o, none⟩ ∧ ∀ i, i < P → w.cell? ⟨b, o + i, none⟩ = some (.int .i64 (gi (ri ys k) i))) : ∀ i, i < P → _)
          clear hav hav'
          go_wp2
          go_quiet (fail)
          obtain ⟨m1, hm1⟩ : ∃ m1, (w.drewN m).drewN nq = w.drewN m1 := ⟨_, World.drewN_drewN ..⟩
          go_wp2
          rw [hm1]
          go_loopw [6] (fun i wr => ∃ j m2 : Nat, j ≤ P ∧ i = .int .i64 j ∧ wr = w.drewN m2 ∧ Hid (∀ i, i < j → gi (ri xs k) i = gi (ri ys k) i)) (fun i _ => P - (intOf i).toNat)
          case atStart => exact ⟨0, m1, Nat.zero_le _, rfl, rfl, Lib.hid fun i h => by omega⟩
          case round =>
            obtain ⟨j, m2, hj, rfl, rfl, Hj⟩ := hrel
            by_cases hjt : j < P
            · obtain ⟨p, r, rfl, hd⟩ := Hav.out j hjt
              obtain ⟨p', r', rfl, hd'⟩ := Hav'.out j hjt
              have hdk := hd j hjt
              have hdk' := hd' j hjt
              have f1 : (j : Int) < P := by omega
              have f2 : (0 : Int) ≤ j := by omega
              clear hd hd'
              by_cases he : gi (ri xs k) j = gi (ri ys k) j
              · have he' : (gi (ri xs k) j != gi (ri ys k) j) = false := by simp [he]
                have He := Lib.hid he; clear he
                go_wp2
                go_quiet (fail)
                go_wp2
                go_roundw
                case rel => exact ⟨j + 1, _, by omega, by go_num, rfl, Lib.hid fun i hi => by
                  by_cases e : i = j
                  · subst e; exact He.out
                  · exact Hj.out i (by omega)⟩
                case measure => simp [intOf]; omega
              · have he' : (gi (ri xs k) j != gi (ri ys k) j) = true := by simp [he]
                have He := Lib.hid (Hnk.out (Hge.out j he)); clear he
                go_wp2
                go_quiet (fail)
                go_wp2
                go_ret
                exact ⟨ret_bool He.out.symm, ((Ext.refl w).drewN _).drewN _⟩
            · obtain rfl : j = P := by omega
              have He := Lib.hid (Hgx.out (by simp) Hj.out)
              go_wp2
              go_roundw
              case rel => exact ⟨k + 1, m2, by omega, by go_num, rfl, Lib.hid fun i hi => by
                by_cases e : i = k
                · subst e; exact He.out
                · exact Hs.out i (by omega)⟩
              case measure => simp [intOf]; omega
        · have hne' : ((P : Int) != (Q : Int)) = true := by simp; omega
          have He := Lib.hid (Hnk.out (Hgl.out hPQ))
          clear hPQ hav hav'
          go_wp2
          go_quiet (fail)
          go_wp2
          go_ret
          exact ⟨ret_bool He.out.symm, ((Ext.refl w).drewN _).drewN _⟩
      · obtain rfl : k = N := by omega
        have He := Lib.hid (Hall.out (by simp) Hs.out)
        go_wp2
        go_ret
        exact ⟨ret_bool He.out.symm, (Ext.refl w).drewN _⟩
  · have hne' : ((N : Int) != (M : Int)) = true := by simp; omega
    have He := Lib.hid (Hlen.out hNM); clear hNM
    go_enter Tryd.func16, Tryd.ntmps16
    go_wp2
    go_ret
    exact ⟨ret_bool He.out.symm, Ext.refl _⟩

/-! ### word -/
set_option maxHeartbeats 2000000 in
theorem Word12_calls (m : Int) (v : Value) (c : Nat) (xs : List Int) (w : World) (h : IS .u8 w v c xs) (hb : ∀ i, i < xs.length → 0 ≤ gi xs i ∧ gi xs i ≤ 255) (hn : 1 ≤ m ∧ m ≤ 8) :
    Calls Tryd.prog 14 #[.int .i64 m, v, .int .i64 12] w fun e w' => ∃ a n c, e = .returned (.slice a n c) ∧ IS .i64 w' (.slice a n c) c ((wordOf m xs).take 12) ∧ Ext w w' := by
  have HO := Lib.hid (WOf_calls m v c xs w h hb hn)
  obtain ⟨a1, n1, c1, rfl, hq, rfl, hq2⟩ := h.out
  have hl24 := wordOf_24 m xs
  generalize wordOf m xs = U at HO hl24 ⊢
  clear h hb hn hq hq2
  go_enter Tryd.func14, Tryd.ntmps14
  go_wp2_with fail
  refine HO.out.mono ?_
  intro e w2 hr
  obtain ⟨a3, n3, c3, rfl, hn3, h3, x⟩ := hr.open
  obtain ⟨L, hL⟩ : ∃ L, L = min n3 12 := ⟨_, rfl⟩
  have hmin : (if (12 : Int) < (n3 : Int) then (12 : Int) else (n3 : Int)) = (L : Int) := by split <;> omega
  have hmin2 : min (n3 : Int) 12 = (L : Int) := by omega
  have hnc := h3.len.2.2
  have hcut : IS .i64 w2 (.slice a3 L c3) c3 (U.take 12) := by
    have := h3.upto (m := L) (by omega)
    have e : U.take L = U.take 12 := by
      by_cases h12 : n3 ≤ 12
      · rw [List.take_of_length_le (by omega), List.take_of_length_le (by omega)]
      · rw [show L = 12 by omega]
    rwa [e] at this
  have e1 : (L : Int) ≤ c3 := by omega
  have e2 : (0 : Int) ≤ (L : Int) := by omega
  have HC := Lib.hid hcut; have X := Lib.hid x
  clear hr hn3 h3 x hL hnc hcut HO
  go_wp2
  go_ret
  exact ⟨_, _, _, rfl, HC.out, X.out⟩
end Go.Proofs.YtigffblelngpjaaDoor
/- The law NormalsEqual: its walk (printed by gen_l25c.py). -/
namespace Go.Proofs.YtigffblelngpjaaDoor
set_option linter.unusedVariables false
set_option linter.unusedSimpArgs false
set_option maxRecDepth 100000
open Go Go.RowKit

theorem qv_br {n : Nat} {w v : List Int} (hw : Val n w) (hv : Val n v) (h : Qv n (raw n w) (raw n v)) : Br n w v := (nw_raw hw).symm.trans (h.br.trans (nw_raw hv))
theorem law_eq {n : Nat} {w v : List Int} {qa qb : Int} {la lb : List (List Int)} (n1 : 1 ≤ n) (hw : Val n w) (hv : Val n v) (ha : Qv n (raw n w) (qa, pms n la)) (hb : Qv n (raw n v) (qb, pms n lb)) (oa : NFo n qa la) (ob : NFo n qb lb) :
    rowsB (actRows n w) (actRows n v) = nsame n n qa qb la lb := by
  unfold rowsB nsame
  rw [Bool.eq_iff_iff, decide_eq_true_iff, decide_eq_true_iff, act_br n1 hw hv]
  constructor
  · intro h
    have := nf_br hw hv h oa ha ob hb
    exact ⟨rfl, this.1, this.2⟩
  · rintro ⟨_, rfl, rfl⟩
    exact qv_br hw hv (ha.trans hb.symm)
theorem take_val {n : Int} {w : List Int} (h : Val n w) (k : Nat) : Val n (w.take k) := fun x hx => h x (List.mem_of_mem_take hx)
set_option maxHeartbeats 32000000 in
theorem NormalsEqual_walk (n : Int) (va vb : Value) (ca cb : Nat) (xs ys : List Int) (w : World) (hn : 0 ≤ n ∧ n ≤ 255) (h : IS .u8 w va ca xs) (h' : IS .u8 w vb cb ys) (hb : ∀ i, i < xs.length → 0 ≤ gi xs i ∧ gi xs i ≤ 255) (hb' : ∀ i, i < ys.length → 0 ≤ gi ys i ∧ gi ys i ≤ 255) (ht : PTab w) :
    Calls Tryd.prog 4 #[.int .u8 n, va, vb] w fun e w' => e = .returned (.bool true) ∧ Ext w w' := by
  obtain ⟨m, hm⟩ : ∃ m : Nat, (m : Int) = 1 + n % 6 := ⟨(1 + n % 6).toNat, by omega⟩
  have m1 : 1 ≤ m := by omega
  have m6 : m ≤ 6 := by omega
  have hStr := fun w => Strands_m n m w hn hm
  obtain ⟨a1, n1, c1, rfl, hn1, rfl, h1⟩ := h.out
  obtain ⟨a2, n2, c2, rfl, hn2, rfl, h2⟩ := h'.out
  have hOf := fun w' (x : Ext w w') => Word12_calls m (.slice a1 n1 c1) c1 xs w' (h1.ext x) hb ⟨by omega, by omega⟩
  have hOf' := fun w' (x : Ext w w') => Word12_calls m (.slice a2 n2 c2) c2 ys w' (h2.ext x) hb' ⟨by omega, by omega⟩
  have hv : Val m ((wordOf m xs).take 12) := take_val (wordOf_val (by omega) hb) 12
  have hv' : Val m ((wordOf m ys).take 12) := take_val (wordOf_val (by omega) hb') 12
  have hl12 : ((wordOf m xs).take 12).length ≤ 12 := by simp; omega
  have hl12' : ((wordOf m ys).take 12).length ≤ 12 := by simp; omega
  obtain ⟨W, hW⟩ : ∃ W, W = (wordOf m xs).take 12 := ⟨_, rfl⟩
  obtain ⟨V, hV⟩ : ∃ V, V = (wordOf m ys).take 12 := ⟨_, rfl⟩
  rw [← hW] at hOf hv hl12
  rw [← hV] at hOf' hv' hl12'
  have hcW := wcheck_val (n := m) (by omega) (by omega) (by omega) hv
  have hcV := wcheck_val (n := m) (by omega) (by omega) (by omega) hv'
  have hnW := fun v c w' (hi : IS .i64 w' v c W) => NOf2_calls m v c W w' hi hcW hv m1 (by omega) (by omega)
  have hnV := fun v c w' (hi : IS .i64 w' v c V) => NOf2_calls m v c V w' hi hcV hv' m1 (by omega) (by omega)
  have hAW := fun v c w' (hi : IS .i64 w' v c W) => Act_calls m v c W w' hi hcW (fits12 hv.at m1 hl12)
  have hAV := fun v c w' (hi : IS .i64 w' v c V) => Act_calls m v c V w' hi hcV (fits12 hv'.at m1 hl12')
  have hLe := fun qa qb la lb => @law_eq m W V qa qb la lb m1 hv hv'
  have HS := Lib.hid hStr; have HOf := Lib.hid hOf; have HOf' := Lib.hid hOf'; have HnW := Lib.hid hnW; have HnV := Lib.hid hnV; have HAW := Lib.hid hAW; have HAV := Lib.hid hAV; have HLe := Lib.hid hLe; have hT := Lib.hid ht
  clear hStr hOf hOf' hnW hnV hAW hAV hLe ht hv hv' hl12 hl12' hcW hcV hW hV hm hb hb' h h' h1 h2 hn1 hn2
  have hX := Lib.hid (Ext.refl w)
  go_enter Tryd.func4, Tryd.ntmps4
  go_wp2_with fail
  refine (HS.out _).mono ?_
  rintro e w1 ⟨rfl, rfl⟩
  go_wp2_with fail
  refine (HOf.out _ hX.out).mono ?_
  rintro e w2 ⟨sW, nW, cW, rfl, hW, x⟩
  have xx : Ext w w2 := Ext.trans (Ext.refl w) x
  replace hX := Lib.hid (Ext.trans hX.out xx)
  replace hT := Lib.hid (hT.out.ext xx)
  clear xx x
  have iW := Lib.hid hW
  clear hW
  go_wp2_with fail
  refine (HOf'.out _ hX.out).mono ?_
  rintro e w3 ⟨sV, nV, cV, rfl, hV, x⟩
  have xx : Ext w2 w3 := Ext.trans (Ext.refl w2) x
  replace hX := Lib.hid (Ext.trans hX.out xx)
  replace hT := Lib.hid (hT.out.ext xx)
  replace iW := Lib.hid (iW.out.ext xx)
  clear xx x
  have iV := Lib.hid hV
  clear hV
  go_wp2_with fail
  refine (HnW.out _ _ _ iW.out).mono ?_
  rintro e w4 hr
  obtain ⟨va, qa, la, rfl, hx, ho, hq, b1, b2, b3, x⟩ := hr
  obtain ⟨pa, ma, rfl, hx⟩ := hx.v
  have haN := Lib.hid hx; have haO := Lib.hid ho; have haQ := Lib.hid hq
  clear hx ho hq b1 b2 b3
  have xx : Ext w3 w4 := Ext.trans (Ext.refl w3) x
  replace hX := Lib.hid (Ext.trans hX.out xx)
  replace hT := Lib.hid (hT.out.ext xx)
  replace iW := Lib.hid (iW.out.ext xx)
  replace iV := Lib.hid (iV.out.ext xx)
  clear xx x
  go_wp2_with fail
  refine (HnV.out _ _ _ (iV.out.ext ((Ext.refl w4).alloc (.cells #[.int .i64 (m : Int), .int .i64 qa, .slice pa ma ma] 30)))).mono ?_
  rintro e w5 hr
  obtain ⟨vb, qb, lb, rfl, hx, ho, hq, b1, b2, b3, x⟩ := hr
  obtain ⟨pb, mb, rfl, hx⟩ := hx.v
  have hbN := Lib.hid hx; have hbO := Lib.hid ho; have hbQ := Lib.hid hq
  clear hx ho hq b1 b2 b3
  have haB := Lib.hid (show B3 w5 (w4.heap.size) (.int .i64 (m : Int)) (.int .i64 qa) (.slice pa ma ma) 30 from Ext.block x (show B3 (w4.alloc (.cells #[.int .i64 (m : Int), .int .i64 qa, .slice pa ma ma] 30)) (w4.heap.size) (.int .i64 (m : Int)) (.int .i64 qa) (.slice pa ma ma) 30 from B3.new _ _ _ _ _))
  have xx : Ext w4 w5 := Ext.trans ((Ext.refl w4).alloc (.cells #[.int .i64 (m : Int), .int .i64 qa, .slice pa ma ma] 30)) x
  replace hX := Lib.hid (Ext.trans hX.out xx)
  replace hT := Lib.hid (hT.out.ext xx)
  replace iW := Lib.hid (iW.out.ext xx)
  replace iV := Lib.hid (iV.out.ext xx)
  replace haN := Lib.hid (haN.out.ext xx)
  clear xx x
  go_wp2_with fail
  refine (HAW.out _ _ _ (iW.out.ext ((Ext.refl w5).alloc (.cells #[.int .i64 (m : Int), .int .i64 qb, .slice pb mb mb] 30)))).mono ?_
  rintro e w6 ⟨vP, rfl, hP, x⟩
  have hbB := Lib.hid (show B3 w6 (w5.heap.size) (.int .i64 (m : Int)) (.int .i64 qb) (.slice pb mb mb) 30 from Ext.block x (show B3 (w5.alloc (.cells #[.int .i64 (m : Int), .int .i64 qb, .slice pb mb mb] 30)) (w5.heap.size) (.int .i64 (m : Int)) (.int .i64 qb) (.slice pb mb mb) 30 from B3.new _ _ _ _ _))
  have xx : Ext w5 w6 := Ext.trans ((Ext.refl w5).alloc (.cells #[.int .i64 (m : Int), .int .i64 qb, .slice pb mb mb] 30)) x
  replace hX := Lib.hid (Ext.trans hX.out xx)
  replace hT := Lib.hid (hT.out.ext xx)
  replace iW := Lib.hid (iW.out.ext xx)
  replace iV := Lib.hid (iV.out.ext xx)
  replace haN := Lib.hid (haN.out.ext xx)
  replace haB := Lib.hid (show B3 w6 (w4.heap.size) (.int .i64 (m : Int)) (.int .i64 qa) (.slice pa ma ma) 30 from Ext.block xx haB.out)
  replace hbN := Lib.hid (hbN.out.ext xx)
  clear xx x
  have iP := Lib.hid hP.iss
  clear hP
  go_wp2_with fail
  refine (HAV.out _ _ _ iV.out).mono ?_
  rintro e w7 ⟨vQ, rfl, hQ, x⟩
  have xx : Ext w6 w7 := Ext.trans (Ext.refl w6) x
  replace hX := Lib.hid (Ext.trans hX.out xx)
  replace hT := Lib.hid (hT.out.ext xx)
  replace iW := Lib.hid (iW.out.ext xx)
  replace iV := Lib.hid (iV.out.ext xx)
  replace haN := Lib.hid (haN.out.ext xx)
  replace haB := Lib.hid (show B3 w7 (w4.heap.size) (.int .i64 (m : Int)) (.int .i64 qa) (.slice pa ma ma) 30 from Ext.block xx haB.out)
  replace hbN := Lib.hid (hbN.out.ext xx)
  replace hbB := Lib.hid (show B3 w7 (w5.heap.size) (.int .i64 (m : Int)) (.int .i64 qb) (.slice pb mb mb) 30 from Ext.block xx hbB.out)
  replace iP := Lib.hid (iP.out.ext xx)
  clear xx x
  have iQ := Lib.hid hQ.iss
  clear hQ
  have hle := HLe.out _ _ _ _ haQ.out hbQ.out haO.out hbO.out
  obtain ⟨R, hR⟩ : ∃ R, R = nsame (m : Int) m qa qb la lb := ⟨_, rfl⟩
  rw [← hR] at hle
  have hSame : ∀ W, Ext w7 W → Calls Tryd.prog 12 #[.agg #[.int .i64 (m : Int), .int .i64 qa, .slice pa ma ma], .agg #[.int .i64 (m : Int), .int .i64 qb, .slice pb mb mb]] W fun e w' => e = .returned (.bool R) ∧ Ext W w' := fun W x => by rw [hR]; exact NSame_calls _ _ m m qa qb la lb W (haN.out.ext x).ns (hbN.out.ext x).ns (haO.out.pl.byt haO.out.n8) (hbO.out.pl.byt hbO.out.n8)
  have hSame2 : ∀ W, Ext w7 W → Calls Tryd.prog 17 #[.agg #[.int .i64 (m : Int), .int .i64 qa, .slice pa ma ma], .agg #[.int .i64 (m : Int), .int .i64 qb, .slice pb mb mb]] W fun e w' => e = .returned (.bool R) ∧ Ext W w' := fun W x => by rw [hR]; exact NSame2_calls _ _ m qa qb la lb W (haN.out.ext x).ns (hbN.out.ext x).ns
  have hSame3 : ∀ W, Ext w7 W → Calls Tryd.prog 17 #[.agg #[.int .i64 (m : Int), .int .i64 qa, .slice pa ma ma], .agg #[.int .i64 (m : Int), .int .i64 qa, .slice pa ma ma]] W fun e w' => e = .returned (.bool true) ∧ Ext W w' := fun W x => by have := NSame2_calls _ _ m qa qa la la W (haN.out.ext x).ns (haN.out.ext x).ns; rwa [show nsame (m : Int) m qa qa la la = true from decide_eq_true ⟨rfl, rfl, rfl⟩] at this
  have hAl : ∀ W, Ext w7 W → Calls Tryd.prog 16 #[vP, vQ] W fun e w' => e = .returned (.bool R) ∧ Ext W w' := fun W x => by rw [← hle]; exact Alike_calls _ _ _ _ _ _ W (iP.out.ext x) (iQ.out.ext x)
  have hLv : ∀ W, Ext w7 W → Calls Tryd.prog 13 #[] W fun e w' => e = .returned (.bool true) ∧ Ext W w' := fun W x => Lives_calls W (hT.out.ext x)
  have HSame := Lib.hid hSame; have HSame2 := Lib.hid hSame2; have HSame3 := Lib.hid hSame3; have HAl := Lib.hid hAl; have HLv := Lib.hid hLv
  have q0_1 := B3.c0 haB.out; have q0_2 := B3.c1 haB.out; have q0_3 := B3.c2 haB.out; have q0_4 := B3.c0 hbB.out; have q0_5 := B3.c1 hbB.out; have q0_6 := B3.c2 hbB.out
  clear hSame hSame2 hSame3 hAl hLv hle hR
  go_wp2
  go_region_held3 (fun w' => w'.cell? ⟨w4.heap.size, 0, Option.none⟩ = some (.int .i64 (m : Int)) ∧ w'.cell? ⟨w4.heap.size, 1, Option.none⟩ = some (.int .i64 qa) ∧ w'.cell? ⟨w4.heap.size, 2, Option.none⟩ = some (.slice pa ma ma) ∧ w'.cell? ⟨w5.heap.size, 0, Option.none⟩ = some (.int .i64 (m : Int)) ∧ w'.cell? ⟨w5.heap.size, 1, Option.none⟩ = some (.int .i64 qb) ∧ w'.cell? ⟨w5.heap.size, 2, Option.none⟩ = some (.slice pb mb mb)) (first | (with_reducible exact ⟨q0_1, q0_2, q0_3, q0_4, q0_5, q0_6⟩) | (with_reducible exact ⟨q1_1, q1_2, q1_3, q1_4, q1_5, q1_6⟩) | (with_reducible exact ⟨q2_1, q2_2, q2_3, q2_4, q2_5, q2_6⟩) | (with_reducible exact ⟨q3_1, q3_2, q3_3, q3_4, q3_5, q3_6⟩) | (with_reducible exact ⟨q4_1, q4_2, q4_3, q4_4, q4_5, q4_6⟩) | (with_reducible exact ⟨q5_1, q5_2, q5_3, q5_4, q5_5, q5_6⟩) | go_keep) (first
    | (go_at_call 12; (refine (HSame.out _ ?_).mono ?_); (focus (first|((focus (repeat (first | (with_reducible exact Ext.refl _) | (with_reducible apply Ext.drew) | (with_reducible apply Ext.drewN) | (with_reducible apply Ext.alloc)))); done)|(refine Ext.trans Xa.out ?_; (focus (repeat (first | (with_reducible exact Ext.refl _) | (with_reducible apply Ext.drew) | (with_reducible apply Ext.drewN) | (with_reducible apply Ext.alloc)))); done))); intro e wa hh; obtain ⟨rfl, x⟩ := hh; have Xa_n : Hid (Ext w7 wa) := (by first | exact Lib.hid x | (refine Lib.hid (Ext.trans ?_ x); (repeat (first | (with_reducible exact Ext.refl _) | (with_reducible apply Ext.drew) | (with_reducible apply Ext.drewN) | (with_reducible apply Ext.alloc))); done) | exact Lib.hid (Xa.out.trans x) | (refine Lib.hid (Ext.trans (Ext.trans Xa.out ?_) x); (repeat (first | (with_reducible exact Ext.refl _) | (with_reducible apply Ext.drew) | (with_reducible apply Ext.drewN) | (with_reducible apply Ext.alloc))); done)); have Xa := Xa_n; clear Xa_n; have q1_1 := Xa.out.cell q0_1; have q1_2 := Xa.out.cell q0_2; have q1_3 := Xa.out.cell q0_3; have q1_4 := Xa.out.cell q0_4; have q1_5 := Xa.out.cell q0_5; have q1_6 := Xa.out.cell q0_6; clear x)
    | (go_at_call 16; (refine (HAl.out _ ?_).mono ?_); (focus (first|((focus (repeat (first | (with_reducible exact Ext.refl _) | (with_reducible apply Ext.drew) | (with_reducible apply Ext.drewN) | (with_reducible apply Ext.alloc)))); done)|(refine Ext.trans Xa.out ?_; (focus (repeat (first | (with_reducible exact Ext.refl _) | (with_reducible apply Ext.drew) | (with_reducible apply Ext.drewN) | (with_reducible apply Ext.alloc)))); done))); intro e wa hh; obtain ⟨rfl, x⟩ := hh; have Xa_n : Hid (Ext w7 wa) := (by first | exact Lib.hid x | (refine Lib.hid (Ext.trans ?_ x); (repeat (first | (with_reducible exact Ext.refl _) | (with_reducible apply Ext.drew) | (with_reducible apply Ext.drewN) | (with_reducible apply Ext.alloc))); done) | exact Lib.hid (Xa.out.trans x) | (refine Lib.hid (Ext.trans (Ext.trans Xa.out ?_) x); (repeat (first | (with_reducible exact Ext.refl _) | (with_reducible apply Ext.drew) | (with_reducible apply Ext.drewN) | (with_reducible apply Ext.alloc))); done)); have Xa := Xa_n; clear Xa_n; have q2_1 := Xa.out.cell q0_1; have q2_2 := Xa.out.cell q0_2; have q2_3 := Xa.out.cell q0_3; have q2_4 := Xa.out.cell q0_4; have q2_5 := Xa.out.cell q0_5; have q2_6 := Xa.out.cell q0_6; clear x)
    | (go_at_call_of 17 (Value.agg #[.int .i64 (m : Int), .int .i64 qb, .slice pb mb mb]); (refine (HSame2.out _ ?_).mono ?_); (focus (first|((focus (repeat (first | (with_reducible exact Ext.refl _) | (with_reducible apply Ext.drew) | (with_reducible apply Ext.drewN) | (with_reducible apply Ext.alloc)))); done)|(refine Ext.trans Xa.out ?_; (focus (repeat (first | (with_reducible exact Ext.refl _) | (with_reducible apply Ext.drew) | (with_reducible apply Ext.drewN) | (with_reducible apply Ext.alloc)))); done))); intro e wa hh; obtain ⟨rfl, x⟩ := hh; have Xa_n : Hid (Ext w7 wa) := (by first | exact Lib.hid x | (refine Lib.hid (Ext.trans ?_ x); (repeat (first | (with_reducible exact Ext.refl _) | (with_reducible apply Ext.drew) | (with_reducible apply Ext.drewN) | (with_reducible apply Ext.alloc))); done) | exact Lib.hid (Xa.out.trans x) | (refine Lib.hid (Ext.trans (Ext.trans Xa.out ?_) x); (repeat (first | (with_reducible exact Ext.refl _) | (with_reducible apply Ext.drew) | (with_reducible apply Ext.drewN) | (with_reducible apply Ext.alloc))); done)); have Xa := Xa_n; clear Xa_n; have q3_1 := Xa.out.cell q0_1; have q3_2 := Xa.out.cell q0_2; have q3_3 := Xa.out.cell q0_3; have q3_4 := Xa.out.cell q0_4; have q3_5 := Xa.out.cell q0_5; have q3_6 := Xa.out.cell q0_6; clear x)
    | (go_at_call 17; (refine (HSame3.out _ ?_).mono ?_); (focus (first|((focus (repeat (first | (with_reducible exact Ext.refl _) | (with_reducible apply Ext.drew) | (with_reducible apply Ext.drewN) | (with_reducible apply Ext.alloc)))); done)|(refine Ext.trans Xa.out ?_; (focus (repeat (first | (with_reducible exact Ext.refl _) | (with_reducible apply Ext.drew) | (with_reducible apply Ext.drewN) | (with_reducible apply Ext.alloc)))); done))); intro e wa hh; obtain ⟨rfl, x⟩ := hh; have Xa_n : Hid (Ext w7 wa) := (by first | exact Lib.hid x | (refine Lib.hid (Ext.trans ?_ x); (repeat (first | (with_reducible exact Ext.refl _) | (with_reducible apply Ext.drew) | (with_reducible apply Ext.drewN) | (with_reducible apply Ext.alloc))); done) | exact Lib.hid (Xa.out.trans x) | (refine Lib.hid (Ext.trans (Ext.trans Xa.out ?_) x); (repeat (first | (with_reducible exact Ext.refl _) | (with_reducible apply Ext.drew) | (with_reducible apply Ext.drewN) | (with_reducible apply Ext.alloc))); done)); have Xa := Xa_n; clear Xa_n; have q4_1 := Xa.out.cell q0_1; have q4_2 := Xa.out.cell q0_2; have q4_3 := Xa.out.cell q0_3; have q4_4 := Xa.out.cell q0_4; have q4_5 := Xa.out.cell q0_5; have q4_6 := Xa.out.cell q0_6; clear x)
    | (go_at_call 13; (refine (HLv.out _ ?_).mono ?_); (focus (first|((focus (repeat (first | (with_reducible exact Ext.refl _) | (with_reducible apply Ext.drew) | (with_reducible apply Ext.drewN) | (with_reducible apply Ext.alloc)))); done)|(refine Ext.trans Xa.out ?_; (focus (repeat (first | (with_reducible exact Ext.refl _) | (with_reducible apply Ext.drew) | (with_reducible apply Ext.drewN) | (with_reducible apply Ext.alloc)))); done))); intro e wa hh; obtain ⟨rfl, x⟩ := hh; have Xa_n : Hid (Ext w7 wa) := (by first | exact Lib.hid x | (refine Lib.hid (Ext.trans ?_ x); (repeat (first | (with_reducible exact Ext.refl _) | (with_reducible apply Ext.drew) | (with_reducible apply Ext.drewN) | (with_reducible apply Ext.alloc))); done) | exact Lib.hid (Xa.out.trans x) | (refine Lib.hid (Ext.trans (Ext.trans Xa.out ?_) x); (repeat (first | (with_reducible exact Ext.refl _) | (with_reducible apply Ext.drew) | (with_reducible apply Ext.drewN) | (with_reducible apply Ext.alloc))); done)); have Xa := Xa_n; clear Xa_n; have q5_1 := Xa.out.cell q0_1; have q5_2 := Xa.out.cell q0_2; have q5_3 := Xa.out.cell q0_3; have q5_4 := Xa.out.cell q0_4; have q5_5 := Xa.out.cell q0_5; have q5_6 := Xa.out.cell q0_6; clear x))
  all_goals (try go_wp2)
  all_goals (go_ret; exact ⟨rfl, hX.out.trans Xa.out⟩)
end Go.Proofs.YtigffblelngpjaaDoor
