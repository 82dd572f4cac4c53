/- Texts of this claim in one file: libraries and walks. -/
import Derived.Lib.Join
import Derived.Lib.ItoaNum
import Derived.Lib.SmallJoins
import Derived.Test.YtigffblelngpjaaDoorL6
import Derived.Test.YtigffblelngpjaaDoorL10
import Derived.Test.YtigffblelngpjaaDoorL11
import Derived.Test.YtigffblelngpjaaDoorL18
/- Contracts of the law's helper clipped, and of normals.beyond, limited and Check on normal forms. -/
namespace Go.Proofs.YtigffblelngpjaaDoor
set_option linter.unusedVariables false
set_option linter.unusedSimpArgs false
set_option maxRecDepth 8000
open Go Go.RowKit

/-- A normal form within the limits. -/
structure NFo (n : Nat) (q : Int) (ls : List (List Int)) : Prop where
  n1 : 1 ≤ n
  n8 : n ≤ 8
  pl : PML n ls
  can : Can n (q, pms n ls)
  one : n = 1 → q = 0
  qb : -1024 ≤ q ∧ q ≤ 1024
  lb : ls.length ≤ 256
theorem nf_noone {n : Nat} : ∀ {B : List Pm} {p : Pm}, SptL n (p :: B) → Nf (p :: B) → Lst (p :: B) → p ≠ Pm.one
  | [], p, _, _, hl, e => hl (by rw [e]; rfl)
  | q :: B, p, hs, hn, hl, e => by
    have hq : q = Pm.one := (hs q (by simp)).no fun k hk => by
      have := hn.1 k hk
      rw [e] at this
      unfold Pm.En at this
      have h2 : k + 1 < k := this
      omega
    exact nf_noone (fun x hx => hs x (by simp [hx])) hn.2 hl.tail hq
theorem dl_prev {n : Nat} {a p : Pm} (ha : Spt n a) (h : ∀ k, p.St k → a.En k) (hp : p = Pm.dl n) : a = Pm.dl n := by
  have h1 : a.inv = Pm.dl n := ha.inv.all fun k k1 k2 => by
    have : p.St k := by
      rw [hp]; show dlf n (k + 1) < dlf n k
      rw [dlf_in (by omega) (by omega), dlf_in k1 (by omega)]; omega
    exact h k this
  have h2 : a.inv.inv = (Pm.dl n).inv := by rw [h1]
  exact h2
theorem nf_nodl {n : Nat} : ∀ {A : List Pm} {p : Pm} {B : List Pm}, SptL n (A ++ p :: B) → Nf (A ++ p :: B) → (A ++ p :: B).head? ≠ some (Pm.dl n) → p ≠ Pm.dl n
  | [], p, B, _, _, hh, e => hh (by rw [e]; rfl)
  | [a], p, B, hs, hn, hh, e => hh (by rw [dl_prev (hs a (by simp)) hn.1 e]; rfl)
  | a :: a' :: A, p, B, hs, hn, hh, e => by
    refine nf_nodl (A := a' :: A) (fun x hx => hs x (List.mem_cons_of_mem _ hx)) hn.2 (fun e2 => ?_) e
    have e3 : a' = Pm.dl n := Option.some.inj e2
    exact hh (by rw [dl_prev (hs a (by simp)) hn.1 e3]; rfl)
theorem nf_two : ∀ {A : List Pm} {p q : Pm} {B : List Pm}, Nf (A ++ p :: q :: B) → ∀ k, q.St k → p.En k
  | [], _, _, _, h => h.1
  | [a], _, _, _, h => nf_two (A := []) h.2
  | a :: a' :: A, _, _, _, h => nf_two (A := a' :: A) h.2
theorem split_at {α : Type} {l : List α} {i : Nat} (h : i < l.length) : ∃ A B, l = A ++ l[i] :: B ∧ A.length = i :=
  ⟨l.take i, l.drop (i + 1), by rw [← List.drop_eq_getElem_cons h, List.take_append_drop], by simp; omega⟩
theorem NFo.at {n : Nat} {q : Int} {ls : List (List Int)} (h : NFo n q ls) {i : Nat} (hi : i < ls.length) :
    PM n (ri ls i) ∧ setN (fallB (ri ls i)) (n - 1) ≠ 0 ∧ setN (fallB (ri ls i)) (n - 1) ≠ setN (fun _ => true) (n - 1) ∧ 2 ≤ n := by
  have hP : PM n (ri ls i) := by rw [ri_of_lt hi]; exact h.pl _ (List.getElem_mem _)
  obtain ⟨hs, hn, hl, hd⟩ := h.can
  obtain ⟨A, B, e, _⟩ := split_at hi
  rw [← ri_of_lt hi] at e
  have e2 : pms n ls = pms n A ++ pm n (ri ls i) :: pms n B := by
    conv => lhs; rw [e]
    unfold pms; rw [List.map_append]; rfl
  simp only [e2] at hs hn hl hd
  have ho := nf_noone hs.right hn.right hl.right
  have hd2 := nf_nodl hs hn hd
  have h2 : 2 ≤ n := by
    rcases Nat.lt_or_ge n 2 with hlt | hge
    · exfalso
      apply ho
      exact hP.spt.no fun k hk => by have := hP.spt.St hk; omega
    · exact hge
  refine ⟨hP, fun e3 => ho ?_, fun e3 => hd2 ((dl_all hP h.n1).1 e3), h2⟩
  exact hP.spt.no fun k hk => by
    obtain ⟨k1, k2⟩ := hP.spt.St hk
    have := setN_zero.1 e3 k k1 (by omega)
    have h4 := (hP.St k1 k2).1 hk
    unfold fallB at this
    simp only [decide_eq_false_iff_not] at this
    exact this h4
theorem NFo.next {n : Nat} {q : Int} {ls : List (List Int)} (h : NFo n q ls) {i : Nat} (hi : i + 1 < ls.length) :
    setN (fun k => fallB (ri ls (i + 1)) k && !fallB (invL (ri ls i)) k) (n - 1) = 0 := by
  have hP : PM n (ri ls i) := by rw [ri_of_lt (by omega)]; exact h.pl _ (List.getElem_mem _)
  have hQ : PM n (ri ls (i + 1)) := by rw [ri_of_lt hi]; exact h.pl _ (List.getElem_mem _)
  obtain ⟨hs, hn, hl, hd⟩ := h.can
  obtain ⟨A, x, y, B, e, hA⟩ := two_split hi
  have ex : ri ls i = x := by rw [e]; unfold ri; rw [← hA]; simp
  have ey : ri ls (i + 1) = y := by rw [e]; unfold ri; rw [← hA]; simp
  rw [ex] at hP; rw [ey] at hQ
  rw [ex, ey]
  have e2 : pms n ls = pms n A ++ pm n x :: pm n y :: pms n B := by rw [e]; unfold pms; simp
  simp only [e2] at hn
  have h2 := nf_two hn
  refine setN_zero.2 fun k k1 k2 => ?_
  by_cases hk : fallB y k = true
  · have h3 : (pm n y).St k := (hQ.St k1 (by omega)).2 (by unfold fallB at hk; simpa using hk)
    have h4 := (hP.En k1 (by omega)).1 (h2 k h3)
    have : fallB (invL x) k = true := by unfold fallB; simpa using h4
    rw [hk, this]; rfl
  · have : fallB y k = false := by simpa using hk
    rw [this]; rfl

theorem ISX.at {w : World} {a : Option Addr} {n c : Nat} {ls : List (List Int)} (h : ISX .u8 w (.slice a n c) c ls) (hn : n = ls.length) : ∃ vs : Nat → Value, (∀ i, i < n → ∃ b o, a = some ⟨b, o, none⟩ ∧ w.cell? ⟨b, o + i, none⟩ = some (vs i)) ∧ ∀ i, i < n → IS .u8 w (vs i) (ri ls i).length (ri ls i) := by
  obtain ⟨vs, h⟩ := h
  obtain ⟨_, _, ao, e, hao⟩ := h.open
  simp only [Value.slice.injEq, and_true] at e
  obtain ⟨rfl, e2⟩ := e
  subst hn
  refine ⟨vs, fun i hi => ?_, h.2⟩
  rcases hao with ⟨_, h0, _⟩ | ⟨b, o, rfl, hc⟩
  · omega
  · exact ⟨b, o, rfl, hc i hi⟩
theorem NX.len {w : World} {v : Value} {N q : Int} {ls : List (List Int)} (h : NX w v N q ls) : ls.length ≤ maxLen := by
  obtain ⟨a, _, vs, h⟩ := h
  have := h.open
  omega

set_option maxHeartbeats 4000000 in
theorem Clipped_calls (v : Value) (N q : Int) (ls : List (List Int)) (w : World) (h : NX w v N q ls) :
    Calls Tryd.prog 19 #[v] w fun e w' => e = .returned (.bool true) ∧ Ext w w' := by
  have hle := h.len
  obtain ⟨a, rfl, h⟩ := h
  obtain ⟨vs, hat, his⟩ := h.at rfl
  obtain ⟨W, hW⟩ : ∃ W, W = w.alloc (.cells #[.int .i64 N, .int .i64 q, .slice a ls.length ls.length] 30) := ⟨_, rfl⟩
  have xW : Ext w W := by rw [hW]; exact (Ext.refl w).alloc _
  have b1 : B3 W w.heap.size (.int .i64 N) (.int .i64 q) (.slice a ls.length ls.length) 30 := by rw [hW]; exact B3.new w _ _ _ _
  have hr := fun i hi => (his i hi).ext xW
  obtain ⟨n, hn⟩ : ∃ n, n = ls.length := ⟨_, rfl⟩
  rw [← hn] at hat hr hW b1 hle ⊢
  have c0 := b1.c0; have c1 := b1.c1; have c2 := b1.c2
  have Hr := Lib.hid hr; have HW := Lib.hid hW; have XW := Lib.hid xW; have Hat := Lib.hid hat
  clear hr hW xW hat hn h his b1
  unfold maxLen at hle
  go_enter Tryd.func19, Tryd.ntmps19
  go_wp2
  rw [← HW.out]
  go_loopw [3] (fun i wr => ∃ k m : Nat, k ≤ n ∧ i = .int .i64 k ∧ wr = W.drewN m) (fun i _ => n - (intOf i).toNat)
  case atStart => exact ⟨0, 0, Nat.zero_le _, rfl, rfl⟩
  case round =>
    obtain ⟨k, m, hk, rfl, rfl⟩ := hrel
    by_cases hlt : k < n
    · obtain ⟨b, o, rfl, hc⟩ := Hat.out k hlt
      have hck := XW.out.cell hc
      have e1 : (k : Int) < n := by omega
      have e2 : (0 : Int) ≤ k := by omega
      obtain ⟨_, _, av, hv, _⟩ := (Hr.out k hlt).open
      rw [hv] at hck
      generalize (ri ls k).length = L at hck
      clear hc hv
      go_wp2
      go_quiet (fail)
      go_wp2
      go_roundw
      case rel => exact ⟨k + 1, _, by omega, by go_num, rfl⟩
      case measure => simp [intOf]; omega
    · obtain rfl : k = n := by omega
      go_wp2
      go_ret
      exact ⟨rfl, XW.out.drewN _⟩

set_option maxHeartbeats 4000000 in
theorem Beyond_calls (v : Value) (N q : Int) (ls : List (List Int)) (w : World) (h : NX w v N q ls) (hq : -1024 ≤ q ∧ q ≤ 1024) (hl : ls.length ≤ 256) :
    Calls Tryd.prog 52 #[v] w fun e w' => e = .returned (.bool false) ∧ Ext w w' := by
  obtain ⟨a, rfl, _⟩ := h
  obtain ⟨W, hW⟩ : ∃ W, W = w.alloc (.cells #[.int .i64 N, .int .i64 q, .slice a ls.length ls.length] 30) := ⟨_, rfl⟩
  have xW : Ext w W := by rw [hW]; exact (Ext.refl w).alloc _
  have b1 : B3 W w.heap.size (.int .i64 N) (.int .i64 q) (.slice a ls.length ls.length) 30 := by rw [hW]; exact B3.new w _ _ _ _
  obtain ⟨n, hn⟩ : ∃ n, n = ls.length := ⟨_, rfl⟩
  rw [← hn] at hW b1 hl ⊢
  have c0 := b1.c0; have c1 := b1.c1; have c2 := b1.c2
  have HW := Lib.hid hW; have XW := Lib.hid xW
  clear hW xW hn b1
  have e1 : ¬ q < -1024 := by omega
  have e2 : ¬ 1024 < q := by omega
  have e3 : ¬ (256 : Int) < (n : Int) := by omega
  go_enter Tryd.func52, Tryd.ntmps52
  go_wp2
  rw [← HW.out]
  go_ret
  exact ⟨rfl, XW.out⟩

set_option maxHeartbeats 8000000 in
theorem NCheck_calls (v : Value) (n : Nat) (q : Int) (ls : List (List Int)) (w : World) (h : NX w v n q ls) (ho : NFo n q ls) :
    Calls Tryd.prog 23 #[v] w fun e w' => e = .returned (.int .i64 0) ∧ Ext w w' := by
  have hby := fun w' (x : Ext w w') => Beyond_calls v n q ls w' (h.ext x) ho.qb ho.lb
  have hat2 := fun i (hi : i < ls.length) => ho.at hi
  have hnx := fun i (hi : i + 1 < ls.length) => ho.next hi
  have hl := ho.lb; have n1 := ho.n1; have n8 := ho.n8; have hone := ho.one
  obtain ⟨a, rfl, h⟩ := h
  obtain ⟨vs, hat, his⟩ := h.at rfl
  obtain ⟨W, hW⟩ : ∃ W, W = w.alloc (.cells #[.int .i64 (n : Int), .int .i64 q, .slice a ls.length ls.length] 30) := ⟨_, rfl⟩
  have xW : Ext w W := by rw [hW]; exact (Ext.refl w).alloc _
  have b1 : B3 W w.heap.size (.int .i64 (n : Int)) (.int .i64 q) (.slice a ls.length ls.length) 30 := by rw [hW]; exact B3.new w _ _ _ _
  have hr := fun i hi => (his i hi).ext xW
  obtain ⟨m, hm⟩ : ∃ m, m = ls.length := ⟨_, rfl⟩
  have hm0 : n = 1 → m = 0 := fun e => by
    rcases Nat.eq_zero_or_pos m with h0 | h0
    · exact h0
    · have := (hat2 0 (by omega)).2.2.2; omega
  rw [← hm] at hat hr hW b1 hl hat2 hnx hby ⊢
  have c0 := b1.c0; have c1 := b1.c1; have c2 := b1.c2
  have Hr := Lib.hid hr; have HW := Lib.hid hW; have XW := Lib.hid xW; have Hat := Lib.hid hat; have HBy := Lib.hid hby; have HA2 := Lib.hid hat2; have HNx := Lib.hid hnx; have HB := Lib.hid b1; have Hm0 := Lib.hid hm0; have Hone := Lib.hid hone
  have HLe := Lib.hid (fun W => Letters_calls n W n1 n8)
  clear hr hW xW hat hm h his b1 hby hat2 hnx ho hm0 hone
  have e1 : ¬ (n : Int) < 1 := by omega
  have e2 : ¬ (8 : Int) < n := by omega
  go_enter Tryd.func23, Tryd.ntmps23
  go_wp2_with fail
  rw [← HW.out]
  refine (HBy.out W XW.out).mono ?_
  rintro e w1 ⟨rfl, x1⟩
  have X1 := Lib.hid x1
  replace c0 := x1.cell c0; replace c1 := x1.cell c1; replace c2 := x1.cell c2
  clear x1
  go_wp2
  go_loopw [21] (fun i wr => ∃ k : Nat, k ≤ m ∧ i = .int .i64 k ∧ Hid (Ext w1 wr)) (fun i _ => m - (intOf i).toNat)
  case atStart => exact ⟨0, Nat.zero_le _, rfl, Lib.hid (Ext.refl _)⟩
  case round =>
    obtain ⟨k, hk, rfl, X⟩ := hrel
    have d0 := X.out.cell c0; have d1 := X.out.cell c1; have d2 := X.out.cell c2
    by_cases hlt : k < m
    · obtain ⟨b, o, rfl, hc⟩ := Hat.out k hlt
      have hck := X.out.cell (X1.out.cell (XW.out.cell hc))
      have f1 : (k : Int) < m := by omega
      have f2 : (0 : Int) ≤ k := by omega
      have hI := ((Hr.out k hlt).ext X1.out).ext X.out
      have hP := (HA2.out k hlt).1
      have hL := hP.len
      obtain ⟨_, _, av, hv, _⟩ := hI.open
      rw [hv] at hck hI
      rw [hL] at hck hI
      have hchk := Pcheck_calls _ _ _ wr hI (hP.u8l n8)
      rw [hP.chk n1 n8] at hchk
      have HC := Lib.hid hchk
      clear hc hv hI hP hL hchk
      go_wp2_with fail
      refine HC.out.mono ?_
      rintro e w2 ⟨rfl, x2⟩
      have X2 := Lib.hid (X.out.trans x2)
      clear x2
      go_wp2
      go_roundw
      case rel => exact ⟨k + 1, by omega, by go_num, X2⟩
      case measure => simp [intOf]; omega
    · obtain rfl : k = m := by omega
      have f1 : ¬ (k : Int) < k := by omega
      obtain ⟨wo, hwo⟩ : ∃ wo, wo = wr := ⟨_, rfl⟩
      subst hwo
      have hp : ∀ (Q : Prop), ((n : Int) = 1 → q = 0 ∧ (k : Int) = 0 → Q) → (¬ (n : Int) = 1 → Q) → Q := fun Q a b => by
        by_cases e : (n : Int) = 1
        · have e' : n = 1 := by omega
          exact a e ⟨Hone.out e', by rw [Hm0.out e']; rfl⟩
        · exact b e
      have two : Hid (∀ (k' : Nat) (wr : World), k' < k → Ext wo wr → True) := Lib.hid fun _ _ _ _ => trivial
      by_cases e : n = 1
      · have hk0 := Hm0.out e
        have hq0 := Hone.out e
        subst e
        subst hk0
        subst hq0
        clear hp
        go_wp2
        go_loopw [53] (fun i wr => i = .int .i64 0 ∧ Hid (Ext wo wr)) (fun i _ => 0)
        case atStart => exact ⟨rfl, Lib.hid (Ext.refl _)⟩
        case round =>
          obtain ⟨rfl, Y⟩ := hrel
          go_wp2
          go_ret
          exact ⟨rfl, ((XW.out.trans X1.out).trans X.out).trans Y.out⟩
      · have f3 : ((n : Int) == 1) = false := by simp; omega
        clear hp
        go_wp2
        go_loopw [53] (fun i wr => ∃ k' : Nat, k' ≤ k ∧ i = .int .i64 k' ∧ Hid (Ext wo wr)) (fun i _ => k - (intOf i).toNat)
        case atStart => exact ⟨0, Nat.zero_le _, rfl, Lib.hid (Ext.refl _)⟩
        case round =>
          obtain ⟨j, hj, rfl, Y⟩ := hrel
          have g0 := Y.out.cell d0; have g1 := Y.out.cell d1; have g2 := Y.out.cell d2
          by_cases hlt : j < k
          · obtain ⟨b, o, rfl, hc⟩ := Hat.out j hlt
            have hck := Y.out.cell (X.out.cell (X1.out.cell (XW.out.cell hc)))
            have f1 : (j : Int) < k := by omega
            have f2 : (0 : Int) ≤ j := by omega
            have hI := (((Hr.out j hlt).ext X1.out).ext X.out).ext Y.out
            obtain ⟨hP, hz, ha, _⟩ := HA2.out j hlt
            have hL := hP.len
            obtain ⟨_, _, av, hv, _⟩ := hI.open
            rw [hv] at hck hI
            have hst := Starts8_calls _ _ _ wr hI (by omega) (by omega)
            rw [hL] at hck hI hst
            have HS := Lib.hid hst
            obtain ⟨S, hS⟩ : ∃ S, S = setN (fallB (ri ls j)) (n - 1) := ⟨_, rfl⟩
            obtain ⟨T, hT⟩ : ∃ T, T = setN (fun _ => true) (n - 1) := ⟨_, rfl⟩
            have HT := Lib.hid hT
            rw [← hS] at HS hz ha
            rw [← hT] at ha
            have Hand := Lib.hid (show ∀ (p : Nat → Bool), bits .andNot .u8 (S : Int) ((setN p (n - 1) : Nat) : Int) = ((setN (fun k => fallB (ri ls j) k && !p k) (n - 1) : Nat) : Int) from fun p => by rw [hS]; exact setN_andNot (by omega))
            have z1 : ((S : Int) == 0) = false := by simp; omega
            have z2 : ((S : Int) == (T : Int)) = false := by simp; omega
            clear hc hv hI hP hL hst hS hT hz ha
            go_wp2_with fail
            refine HS.out.mono ?_
            rintro e w2 ⟨rfl, x2⟩
            have X2 := Lib.hid (Y.out.trans x2)
            replace g0 := x2.cell g0; replace g2 := x2.cell g2
            have hcl : ∀ i, i < k → w2.cell? ⟨b, o + i, none⟩ = some (vs i) := fun i hi => by
              obtain ⟨b', o', e, hc'⟩ := Hat.out i hi
              obtain ⟨rfl, rfl⟩ : b = b' ∧ o = o' := by simpa using e
              exact x2.cell (Y.out.cell (X.out.cell (X1.out.cell (XW.out.cell hc'))))
            have Hcl := Lib.hid hcl
            clear x2 hcl
            go_wp2_with fail
            refine (HLe.out w2).mono ?_
            rintro e w3 ⟨rfl, rfl⟩
            rw [← HT.out]
            by_cases j0 : j = 0
            · subst j0
              go_wp2
              go_roundw
              case rel => exact ⟨0 + 1, by omega, by go_num, X2⟩
              case measure => simp [intOf]; omega
            · obtain ⟨i, rfl⟩ : ∃ i, j = i + 1 := ⟨j - 1, by omega⟩
              have hcp := Hcl.out i (by omega)
              have f4 : (0 : Int) < ((i + 1 : Nat) : Int) := by omega
              have f5 : ((i + 1 : Nat) : Int) - 1 = (i : Int) := by omega
              have f6 : IntKind.i64.wrap (((i + 1 : Nat) : Int) - 1) = (i : Int) := by rw [f5]; exact IntWalk.i64_in _ ⟨by omega, by omega⟩
              have f7 : (0 : Int) ≤ i := by omega
              have f8 : (i : Int) < k := by omega
              have hI := (((Hr.out i (by omega)).ext X1.out).ext X.out).ext X2.out
              have hP := (HA2.out i (by omega)).1
              have hL := hP.len
              obtain ⟨_, _, av', hv, _⟩ := hI.open
              rw [hv] at hcp hI
              rw [hL] at hcp hI
              have hen := Ends8_calls n _ _ _ w3 hI hP n1 n8
              have HE := Lib.hid hen
              have han := Hand.out (fallB (invL (ri ls i)))
              rw [HNx.out i (by omega)] at han
              obtain ⟨U, hU⟩ : ∃ U, U = setN (fallB (invL (ri ls i))) (n - 1) := ⟨_, rfl⟩
              rw [← hU] at HE han
              clear hv hI hP hL hen hU f5
              go_wp2_with fail
              refine HE.out.mono ?_
              rintro e w4 ⟨rfl, x4⟩
              have X4 := Lib.hid (X2.out.trans x4)
              clear x4
              go_wp2
              go_roundw
              case rel => exact ⟨i + 1 + 1, by omega, by go_num, X4⟩
              case measure => simp [intOf]; omega
          · obtain rfl : j = k := by omega
            have f1 : ¬ (j : Int) < j := by omega
            go_wp2
            go_ret
            exact ⟨rfl, ((XW.out.trans X1.out).trans X.out).trans Y.out⟩
end Go.Proofs.YtigffblelngpjaaDoor
/- Contract of normals.Text. -/
namespace Go.Proofs.YtigffblelngpjaaDoor
set_option linter.unusedVariables false
set_option linter.unusedSimpArgs false
set_option maxRecDepth 8000
open Go Go.RowKit Go.Sort

/-- The table of powers of ten lies where strconv looks for it. -/
def PTab (w : World) : Prop := Lib.TabIs Tryd.prog w "internal/strconv.uint64pow10" .u64 Lib.pow10Tab
theorem PTab.ext {w w' : World} (h : PTab w) (hx : Ext w w') : PTab w' := by
  unfold PTab Lib.TabIs World.var? at h ⊢
  cases hg : Tryd.prog.globalNamed "internal/strconv.uint64pow10" with
  | none => simp [hg] at h
  | some g =>
    simp only [hg, Option.bind_some] at h ⊢
    have hlt : g < w.heap.size := by
      rcases Nat.lt_or_ge g w.heap.size with h' | h'
      · exact h'
      · rw [Array.getElem?_eq_none h'] at h; cases h
    rw [Below.block hx g hlt]
    exact h
theorem grow_ext (w : World) (k : Nat) (os : Array Obj) : Ext w (grow (w.drewN k) os) :=
  ⟨rfl, rfl, rfl, by show w.heap.size ≤ (w.heap ++ os).size; simp, fun j hj => by show (w.heap ++ os)[j]? = _; rw [Array.getElem?_append_left hj]⟩
theorem Itoa_calls (n : Int) (h : -10000 ≤ n ∧ n ≤ 10000) (w : World) (ht : PTab w) :
    Calls Tryd.prog 70 #[.int .i64 n] w fun e w' => e = .returned (.string ⟨(Lib.itoa n).toArray⟩) ∧ Ext w w' :=
  (Tryd.strconv_Itoa n (by omega) (by omega) w ht).mono fun e w' ⟨he, k, os, hw⟩ => ⟨he, hw ▸ grow_ext w k os⟩
theorem eiStr : EI Tryd.prog 87 9 (.string ⟨#[]⟩) 16 := ⟨Tryd.underlying87, by kernel_rfl, rfl⟩
/-- The pieces of the text. -/
def pcs (n : Nat) (q : Int) (ls : List (List Int)) : List ByteArray := ⟨(Lib.itoa n).toArray⟩ :: ⟨(Lib.itoa q).toArray⟩ :: ls.map fun x => ⟨(textOf x).toArray⟩
theorem pcs_len (n : Nat) (q : Int) (ls : List (List Int)) : (pcs n q ls).length = 2 + ls.length := by simp [pcs]; omega
theorem two_own {w : World} {s t : ByteArray} {e : TypeId} {g : Nat} (h : w.heap[g]? = some (.cells #[.string s, .string t] e (0, 0))) : w.ownsRow g e 1 (.slice (some ⟨g, 0, none⟩) 2 2) 2 [.string s, .string t] := by
  have hr : w.rowIs g e 2 (fun i => if i = 0 then .string s else .string t) := ⟨_, h, rfl, fun i hi => by
    rcases (show i = 0 ∨ i = 1 by omega) with rfl | rfl <;> rfl⟩
  exact own_of_row hr (Nat.le_refl _) (by unfold maxLen; omega)

set_option maxHeartbeats 8000000 in
theorem NText_calls (v : Value) (n : Nat) (q : Int) (ls : List (List Int)) (w : World) (h : NX w v n q ls) (ho : NFo n q ls) (ht : PTab w) (hlen : (Lib.join ((pcs n q ls).map (·.data.toList)) [59, 32]).length ≤ 140737488355328) :
    Calls Tryd.prog 39 #[v] w fun e w' => e = .returned (.string ⟨(Lib.join ((pcs n q ls).map (·.data.toList)) [59, 32]).toArray⟩) ∧ Ext w w' := by
  have hck := fun w' (x : Ext w w') => NCheck_calls v n q ls w' (h.ext x) ho
  have hat2 := fun i (hi : i < ls.length) => (ho.at hi).1
  have hl := ho.lb; have n1 := ho.n1; have n8 := ho.n8; have hqb := ho.qb
  obtain ⟨a, rfl, h⟩ := h
  obtain ⟨vs, hat, his⟩ := h.at rfl
  obtain ⟨W, hW⟩ : ∃ W, W = w.alloc (.cells #[.int .i64 (n : Int), .int .i64 q, .slice a ls.length ls.length] 30) := ⟨_, rfl⟩
  have xW : Ext w W := by rw [hW]; exact (Ext.refl w).alloc _
  have b1 : B3 W w.heap.size (.int .i64 (n : Int)) (.int .i64 q) (.slice a ls.length ls.length) 30 := by rw [hW]; exact B3.new w _ _ _ _
  have hr := fun i hi => (his i hi).ext xW
  obtain ⟨PS, hPS⟩ : ∃ PS, PS = pcs n q ls := ⟨_, rfl⟩
  have hpl := pcs_len n q ls
  have hp0 : PS.take 2 = [⟨(Lib.itoa n).toArray⟩, ⟨(Lib.itoa q).toArray⟩] := by rw [hPS]; rfl
  have hps : ∀ i, i < ls.length → PS.take (2 + (i + 1)) = PS.take (2 + i) ++ [⟨(textOf (ri ls i)).toArray⟩] := fun i hi => by
    have e : PS[2 + i]? = some ⟨(textOf (ri ls i)).toArray⟩ := by
      rw [hPS, show 2 + i = i + 1 + 1 by omega]; unfold pcs
      rw [List.getElem?_cons_succ, List.getElem?_cons_succ, List.getElem?_map, List.getElem?_eq_getElem hi, ri_of_lt hi]; rfl
    rw [show 2 + (i + 1) = (2 + i) + 1 by omega, List.take_add_one, e]; rfl
  rw [← hPS] at hpl hlen ⊢
  obtain ⟨m, hm⟩ : ∃ m, m = ls.length := ⟨_, rfl⟩
  rw [← hm] at hat hr hW b1 hl hat2 hck hps hpl ⊢
  have hall : PS.take (2 + m) = PS := List.take_of_length_le (by omega)
  have c0 := b1.c0; have c1 := b1.c1; have c2 := b1.c2
  have Hr := Lib.hid hr; have HW := Lib.hid hW; have XW := Lib.hid xW; have Hat := Lib.hid hat; have HCk := Lib.hid hck; have HA2 := Lib.hid hat2; have HB := Lib.hid b1; have HT := Lib.hid (ht.ext xW)
  have Hp0 := Lib.hid hp0; have Hps := Lib.hid hps; have Hall := Lib.hid hall; have Hlen := Lib.hid hlen; have Hpl := Lib.hid hpl
  clear hr hW xW hat hm h his b1 hck hat2 ho ht hp0 hps hall hlen hPS hpl
  go_enter Tryd.func39, Tryd.ntmps39
  go_wp2_with fail
  rw [← HW.out]
  refine (HCk.out W XW.out).mono ?_
  rintro e w1 ⟨rfl, x1⟩
  have X1 := Lib.hid x1
  replace c0 := x1.cell c0; replace c1 := x1.cell c1; replace c2 := x1.cell c2
  replace HT := Lib.hid (HT.out.ext x1)
  clear x1
  go_wp2
  have hI : ∀ W (z : Int), Ext w1 W → (z = (n : Int) ∨ z = q) → Calls Tryd.prog 70 #[.int .i64 z] W fun e w' => e = .returned (.string ⟨(Lib.itoa z).toArray⟩) ∧ Ext W w' := fun W z x hz => Itoa_calls z (by omega) W (HT.out.ext x)
  have HI := Lib.hid hI
  clear hI
  have q0_1 := c0; have q0_2 := c1; have q0_3 := c2
  go_region_held3 (fun w' => w'.cell? ⟨w.heap.size, 0, Option.none⟩ = some (.int .i64 (n : Int)) ∧ w'.cell? ⟨w.heap.size, 1, Option.none⟩ = some (.int .i64 q) ∧ w'.cell? ⟨w.heap.size, 2, Option.none⟩ = some (.slice a m m)) (first | (with_reducible exact ⟨q0_1, q0_2, q0_3⟩) | (with_reducible exact ⟨q1_1, q1_2, q1_3⟩) | go_keep) (first
    | (go_at_call 70; (refine (HI.out _ _ ?_ ?_).mono ?_); (focus (first|((focus (repeat (first | (with_reducible exact Ext.refl _) | (with_reducible apply Ext.drew) | (with_reducible apply Ext.drewN) | (with_reducible apply Ext.alloc)))); done)|(refine Ext.trans Xa.out ?_; (focus (repeat (first | (with_reducible exact Ext.refl _) | (with_reducible apply Ext.drew) | (with_reducible apply Ext.drewN) | (with_reducible apply Ext.alloc)))); done))); (focus (first|exact Or.inl rfl|exact Or.inr rfl)); intro e wa hh; obtain ⟨rfl, x⟩ := hh; have Xa_n : Hid (Ext w1 wa) := (by first | exact Lib.hid x | (refine Lib.hid (Ext.trans ?_ x); (repeat (first | (with_reducible exact Ext.refl _) | (with_reducible apply Ext.drew) | (with_reducible apply Ext.drewN) | (with_reducible apply Ext.alloc))); done) | exact Lib.hid (Xa.out.trans x) | (refine Lib.hid (Ext.trans (Ext.trans Xa.out ?_) x); (repeat (first | (with_reducible exact Ext.refl _) | (with_reducible apply Ext.drew) | (with_reducible apply Ext.drewN) | (with_reducible apply Ext.alloc))); done)); have Xa := Xa_n; clear Xa_n; have q1_1 := Xa.out.cell q0_1; have q1_2 := Xa.out.cell q0_2; have q1_3 := Xa.out.cell q0_3; clear x))
  obtain ⟨W3, hW3⟩ : ∃ W3, W3 = wa.alloc (.cells #[.string ⟨(Lib.itoa n).toArray⟩, .string ⟨(Lib.itoa q).toArray⟩] 9) := ⟨_, rfl⟩
  have hb3 : W3.heap[wa.heap.size]? = some (.cells #[.string ⟨(Lib.itoa n).toArray⟩, .string ⟨(Lib.itoa q).toArray⟩] 9 (0, 0)) := by rw [hW3]; exact Deep.blk_alloc_new _ _
  have x3 : Ext w1 W3 := by rw [hW3]; exact Xa.out.alloc _
  have hown : W3.ownsRow w1.heap.size 9 1 (.slice (some ⟨wa.heap.size, 0, none⟩) 2 2) (2 + 0) ((PS.take (2 + 0)).map Value.string) := by
    have := Joins.ownsRow_le (two_own hb3) Xa.out.size
    rw [Hp0.out]; exact this
  rw [← hW3]
  have X3 := Lib.hid x3; have Hown := Lib.hid hown
  have d2 := x3.cell c2
  obtain ⟨g, hg⟩ : ∃ g, g = wa.heap.size := ⟨_, rfl⟩
  rw [← hg] at Hown ⊢
  clear hW3 hb3 x3 hown hg q0_1 q0_2 q0_3 q1_1 q1_2 q1_3 c0 c1 c2 Xa HI
  go_wp2
  go_loopw [3, 19] (fun pv i wr => ∃ k : Nat, k ≤ m ∧ i = .int .i64 k ∧ Hid (Ext w1 wr ∧ wr.ownsRow w1.heap.size 9 1 pv (2 + k) ((PS.take (2 + k)).map Value.string))) (fun _ i _ => m - (intOf i).toNat)
  case atStart => exact ⟨0, Nat.zero_le _, rfl, Lib.hid ⟨X3.out, Hown.out⟩⟩
  case round =>
    obtain ⟨k, hk, rfl, H⟩ := hrel
    obtain ⟨gp, cp, fp, hpv, _, _, _, _, _, _⟩ := own_open H.out.2 (by omega)
    subst hpv
    by_cases hlt : k < m
    · obtain ⟨b, o, rfl, hc⟩ := Hat.out k hlt
      have hck := H.out.1.cell (X1.out.cell (XW.out.cell hc))
      have f1 : (k : Int) < m := by omega
      have f2 : (0 : Int) ≤ k := by omega
      have hI := ((Hr.out k hlt).ext X1.out).ext H.out.1
      have hP := HA2.out k hlt
      have hL := hP.len
      obtain ⟨_, _, av, hv, _⟩ := hI.open
      rw [hv] at hck hI
      rw [hL] at hck hI
      have hchk := PText_calls _ _ _ wr hI (hP.u8l n8)
      have HC := Lib.hid hchk
      have Hnx := Lib.hid (Hps.out k hlt)
      clear hc hv hI hP hL hchk
      go_wp2_with fail
      refine HC.out.mono ?_
      rintro e w4 ⟨rfl, x4⟩
      have HO4 := Lib.hid (own_ext H.out.2 x4)
      have X4 := Lib.hid (H.out.1.trans x4)
      clear x4
      go_wp2_with (at_builtin; refine app_own eiStr rfl _ _ rfl w1.heap.size _ (2 + k) _ rfl (own_ext HO4.out ((Ext.refl w4).alloc _)) _ _ _ rfl (VS.lit (n := 1) (xs := [.string ⟨(textOf (ri ls k)).toArray⟩]) rfl rfl rfl (by omega)) ?d0 ?d1 ?d2 ?d3 ?_)
      case d0 => intro u hu; rw [List.mem_singleton.1 hu]; rfl
      case d1 => simp; omega
      case d2 => simp; omega
      case d3 => exact Nat.le_trans X4.out.size ((Ext.refl w4).alloc _).size
      intro v5 w5 hown5 hb5
      have x5 : Ext w1 w5 := Below.trans (X4.out.alloc _) hb5
      have hown6 : w5.ownsRow w1.heap.size 9 1 v5 (2 + (k + 1)) ((PS.take (2 + (k + 1))).map Value.string) := by
        rw [Hnx.out, List.map_append, List.map_take]
        exact hown5
      have HN := Lib.hid (show Ext w1 w5 ∧ w5.ownsRow w1.heap.size 9 1 v5 (2 + (k + 1)) ((PS.take (2 + (k + 1))).map Value.string) from ⟨x5, hown6⟩)
      clear hown5 hb5 x5 hown6 HO4 X4
      go_wp2
      go_roundw
      case rel => exact ⟨k + 1, by omega, by go_num, HN⟩
      case measure => simp [intOf]; omega
    · obtain rfl : k = m := by omega
      have f1 : ¬ (k : Int) < k := by omega
      obtain ⟨g', cap, f, e1, _, hlt', hc1, hc2, hrow, hf⟩ := own_open H.out.2 (by omega)
      simp only [Value.slice.injEq, Option.some.injEq, Addr.mk.injEq, and_true, true_and] at e1
      obtain ⟨rfl, rfl⟩ := e1
      have hj := Tryd.strings_Join gp 0 cp PS { data := #[59, 32] } wr (fun j x hj => by
        have hj2 := (List.getElem?_eq_some_iff.1 hj).1
        rw [Hpl.out] at hj2
        rw [Nat.zero_add, hrow.cell (by omega), hf j (.string x) (by rw [Hall.out, List.getElem?_map, hj]; rfl)]) hlt' (by rw [Hpl.out]; omega) (by rw [Hpl.out]; omega) Hlen.out
      rw [Hpl.out] at hj
      have HJ := Lib.hid hj
      have Hc := Lib.hid (show ((2 + k : Nat) : Int) = ((2 + k : Nat) : Int) from rfl)
      clear hj hrow hf
      go_wp2_with fail
      refine HJ.out.mono ?_
      rintro e w6 ⟨rfl, x6⟩
      have X6 := Lib.hid x6
      clear x6
      go_wp2
      go_ret
      exact ⟨rfl, ((XW.out.trans X1.out).trans H.out.1).trans X6.out⟩
end Go.Proofs.YtigffblelngpjaaDoor
/- normals.Of: its result is the normal form; the examples of the chapter, in plain Lean. -/
namespace Go.Proofs.YtigffblelngpjaaDoor
set_option linter.unusedVariables false
set_option linter.unusedSimpArgs false
set_option maxRecDepth 8000
open Go Go.RowKit

theorem val_one {ws : List Int} (h : Val ((1 : Nat) : Int) ws) : ws = [] := by
  cases ws with
  | nil => rfl
  | cons k w => have := wb_bd h.head; omega
/-- normals.Of: the normal form of the word. -/
def RetOf (n : Nat) (ws : List Int) (w : World) (e : Ending) (w' : World) : Prop :=
  ∃ v q ls, e = .returned (.tuple #[v, .int .i64 0]) ∧ NX w' v n q ls ∧ NFo n q ls ∧ Qv n (raw n ws) (q, pms n ls) ∧ -(ws.length : Int) ≤ q ∧ q ≤ (ws.length : Int) ∧ ls.length ≤ ws.length ∧ Ext w w'
theorem NOf2_calls (n : Nat) (v : Value) (c : Nat) (ws : List Int) (w : World) (h : IS .i64 w v c ws) (hck : wcheck n ws = 0) (hv : Val n ws) (hn1 : 1 ≤ n) (h8 : n ≤ 8) (hl : ws.length ≤ 64) :
    Calls Tryd.prog 9 #[.int .i64 (n : Int), v] w (RetOf n ws w) := by
  refine (NOf_calls n v c ws w h hv hn1 h8 hl hck).mono ?_
  rintro e w' ⟨q, g, m, ls, rfl, hI, hp, hm, hc, hq, b1, b2, b3, x⟩
  have hng := ngs_bd ws
  refine ⟨_, q, ls, rfl, NX.mk hI hm, ⟨hn1, h8, hp, hc, fun e => ?_, ⟨by omega, by omega⟩, by omega⟩, hq, by omega, by omega, by omega, x⟩
  subst e
  have e0 : ws = [] := val_one hv
  rw [e0] at b1 b2 hng
  simp [ngs] at b1 b2; omega
theorem nf_same {n : Nat} (hn : 2 ≤ n) {ws : List Int} {q p : Int} {ls ms : List (List Int)} (h : NFo n q ls) (hq : Qv n (raw n ws) (q, pms n ls)) (hm : PML n ms) (hc : Can n (p, pms n ms)) (hp : Qv n (raw n ws) (p, pms n ms)) : q = p ∧ ls = ms := by
  have e := Can.unique hn h.can hc (hq.symm.trans hp)
  simp only [Prod.mk.injEq] at e
  exact ⟨e.1, h.pl.eq hm e.2⟩
/-! ### Small ones -/
theorem pm_not {n : Nat} {xs ys : List Int} (h : PM n xs) (k : PM n ys) (e : xs ≠ ys) : pm n xs ≠ pm n ys := fun h2 => e (h.eq k h2)
theorem can_zero (n : Nat) (q : Int) : Can n (q, pms n []) := ⟨SptL.nil n, trivial, Lst.nil, by simp [pms]⟩
theorem can_one {n : Nat} {q : Int} {x : List Int} (h : PM n x) (h1 : x ≠ idL n) (h2 : x ≠ halfL n) : Can n (q, pms n [x]) := by
  refine ⟨SptL.one h.spt, trivial, ?_, ?_⟩
  · show [pm n x].getLast? ≠ some Pm.one
    rw [← (PM.idL n).2]
    simpa using pm_not h (PM.idL n).1 h1
  · show [pm n x].head? ≠ some (Pm.dl n)
    rw [← (PM.halfL n).2]
    simpa using pm_not h (PM.halfL n).1 h2
theorem can_two {n : Nat} {q : Int} {x y : List Int} (h : PM n x) (k : PM n y) (h1 : y ≠ idL n) (h2 : x ≠ halfL n) (hb : setN (canB x y) (n - 1) = 0) : Can n (q, pms n [x, y]) := by
  refine ⟨SptL.cons h.spt (SptL.one k.spt), ⟨fun j hj => ?_, trivial⟩, ?_, ?_⟩
  · obtain ⟨j1, j2⟩ := k.spt.St hj
    have := setN_zero.1 hb j j1 (by omega)
    refine Classical.byContradiction fun he => ?_
    have := (canB_iff h k j1 j2).2 ⟨hj, he⟩
    rw [setN_zero.1 hb j j1 (by omega)] at this; cases this
  · show [pm n x, pm n y].getLast? ≠ some Pm.one
    rw [← (PM.idL n).2]
    simpa using pm_not k (PM.idL n).1 h1
  · show [pm n x, pm n y].head? ≠ some (Pm.dl n)
    rw [← (PM.halfL n).2]
    simpa using pm_not h (PM.halfL n).1 h2
theorem mv_at {n : Nat} {q : Int} (A : List (List Int)) {x y : List Int} (B : List (List Int)) {k : Nat} (hp : PML n (A ++ x :: y :: B)) (h1 : 1 ≤ k) (h2 : k < n) (hc : canB x y k = true) :
    PML n (A ++ vsw x k :: swL y k :: B) ∧ Qv n (q, pms n (A ++ x :: y :: B)) (q, pms n (A ++ vsw x k :: swL y k :: B)) := by
  have hx := hp x (by simp); have hy := hp y (by simp)
  have hx' := hx.vsw h1 h2; have hy' := hy.swL h1 h2
  obtain ⟨a, b⟩ := (canB_iff hx hy h1 h2).1 hc
  refine ⟨fun z hz => ?_, Qv.of ?_⟩
  · rcases List.mem_append.1 hz with hz | hz
    · exact hp z (by simp [hz])
    · rcases List.mem_cons.1 hz with e | hz
      · rw [e]; exact hx'.1
      · rcases List.mem_cons.1 hz with e | hz
        · rw [e]; exact hy'.1
        · exact hp z (by simp [hz])
  · have e1 : pms n (A ++ x :: y :: B) = pms n A ++ pm n x :: pm n y :: pms n B := by unfold pms; simp
    have e2 : pms n (A ++ vsw x k :: swL y k :: B) = pms n A ++ (pm n x).sr k :: Pm.sl k (pm n y) :: pms n B := by unfold pms; simp [hx'.2, hy'.2]
    have hs := hp.spt
    rw [e1] at hs ⊢
    rw [e2]
    exact Eq'.of_star hs (Star.one ((Mv.here _ _ k _ a b).pre _))
theorem PML.init {n : Nat} {A : List (List Int)} {x : List Int} (h : PML n (A ++ [x])) : PML n A := fun z hz => h z (List.mem_append_left _ hz)
theorem drop_id {n : Nat} {q : Int} {A : List (List Int)} (hp : PML n A) : Qv n (q, pms n (A ++ [idL n])) (q, pms n A) := by
  have e : pms n (A ++ [idL n]) = pms n A ++ ones 1 := by unfold pms; rw [List.map_append]; show _ ++ [pm n (idL n)] = _; rw [(PM.idL n).2]; rfl
  rw [e]
  exact Qv.of (Eq'.drop_ones hp.spt 1)
theorem up_half {n : Nat} {q : Int} {A : List (List Int)} (hp : PML n A) : Qv n (q, pms n (halfL n :: A)) (q + 1, pms n A) := by
  have e : pms n (halfL n :: A) = Pm.dl n :: pms n A := by unfold pms; rw [List.map_cons, (PM.halfL n).2]
  rw [e]
  exact Qv.up hp.spt
theorem pml_dec {n : Nat} {ls : List (List Int)} (h : ∀ x ∈ ls, pok x ∧ x.length = n) : PML n ls := fun x hx => ⟨(h x hx).1, (h x hx).2⟩
theorem val_dec {n : Int} {ws : List Int} (h : (ws.all fun k => !wbad n k) = true) : Val n ws := fun x hx => by
  have := List.all_eq_true.1 h x hx; simpa using this
theorem pm3 (a b c : Int) (h : [a, b, c] ∈ [[1, 2, 3], [1, 3, 2], [2, 1, 3], [2, 3, 1], [3, 1, 2], [3, 2, 1]]) : PM 3 [a, b, c] := by
  refine ⟨?_, rfl⟩
  have key : ∀ l ∈ [[1, 2, 3], [1, 3, 2], [2, 1, 3], [2, 3, 1], [3, 1, 2], [(3 : Int), 2, 1]], pok l := by unfold pok; decide
  exact key _ h
theorem e_raw (ws : List Int) (h : (ws.all fun k => !wbad ((3 : Nat) : Int) k) = true) : raw 3 ws = (-(ngs ws), pms 3 (ofL 3 ws)) := raw_ofL (val_dec h)
theorem ex12 : Qv 3 (raw 3 [1, 2]) (0, pms 3 [[3, 1, 2]]) := by
  rw [e_raw _ (by decide)]
  have e : ofL 3 [1, 2] = [] ++ [2, 1, 3] :: [1, 3, 2] :: [] := by decide
  rw [e]
  have p0 : PML 3 ([] ++ [2, 1, 3] :: [1, 3, 2] :: []) := fun x hx => by simp at hx; rcases hx with rfl | rfl <;> exact pm3 _ _ _ (by decide)
  have a := (mv_at (q := -(ngs [1, 2])) (n := 3) [] [] p0 (k := 2) (by decide) (by decide) (by decide)).2
  refine a.trans ?_
  exact drop_id (n := 3) (A := [[3, 1, 2]]) (fun x hx => by simp at hx; rw [hx]; exact pm3 _ _ _ (by decide))
theorem ex121 : Qv 3 (raw 3 [1, 2, 1]) (1, pms 3 []) := by
  rw [e_raw _ (by decide)]
  have e : ofL 3 [1, 2, 1] = [] ++ [2, 1, 3] :: [1, 3, 2] :: [[2, 1, 3]] := by decide
  rw [e]
  have p0 : PML 3 ([] ++ [2, 1, 3] :: [1, 3, 2] :: [[2, 1, 3]]) := fun x hx => by simp at hx; rcases hx with rfl | rfl | rfl <;> exact pm3 _ _ _ (by decide)
  have a := mv_at (q := -(ngs [1, 2, 1])) (n := 3) [] [[2, 1, 3]] p0 (k := 2) (by decide) (by decide) (by decide)
  have b := mv_at (q := -(ngs [1, 2, 1])) (n := 3) [[3, 1, 2]] [] a.1 (k := 1) (by decide) (by decide) (by decide)
  have c := mv_at (q := -(ngs [1, 2, 1])) (n := 3) [] [[1, 2, 3]] b.1 (k := 1) (by decide) (by decide) (by decide)
  have d := drop_id (q := -(ngs [1, 2, 1])) (n := 3) (A := [[3, 2, 1], [1, 2, 3]]) c.1.init
  have f := drop_id (q := -(ngs [1, 2, 1])) (n := 3) (A := [[3, 2, 1]]) c.1.init.init
  have g := up_half (q := -(ngs [1, 2, 1])) (n := 3) (A := []) (fun x hx => by cases hx)
  exact a.2.trans (b.2.trans (c.2.trans (d.trans (f.trans g))))
theorem ex212 : Qv 3 (raw 3 [2, 1, 2]) (1, pms 3 []) := by
  rw [e_raw _ (by decide)]
  have e : ofL 3 [2, 1, 2] = [] ++ [1, 3, 2] :: [2, 1, 3] :: [[1, 3, 2]] := by decide
  rw [e]
  have p0 : PML 3 ([] ++ [1, 3, 2] :: [2, 1, 3] :: [[1, 3, 2]]) := fun x hx => by simp at hx; rcases hx with rfl | rfl | rfl <;> exact pm3 _ _ _ (by decide)
  have a := mv_at (q := -(ngs [2, 1, 2])) (n := 3) [] [[1, 3, 2]] p0 (k := 1) (by decide) (by decide) (by decide)
  have b := mv_at (q := -(ngs [2, 1, 2])) (n := 3) [[2, 3, 1]] [] a.1 (k := 2) (by decide) (by decide) (by decide)
  have c := mv_at (q := -(ngs [2, 1, 2])) (n := 3) [] [[1, 2, 3]] b.1 (k := 2) (by decide) (by decide) (by decide)
  have d := drop_id (q := -(ngs [2, 1, 2])) (n := 3) (A := [[3, 2, 1], [1, 2, 3]]) c.1.init
  have f := drop_id (q := -(ngs [2, 1, 2])) (n := 3) (A := [[3, 2, 1]]) c.1.init.init
  have g := up_half (q := -(ngs [2, 1, 2])) (n := 3) (A := []) (fun x hx => by cases hx)
  exact a.2.trans (b.2.trans (c.2.trans (d.trans (f.trans g))))
theorem qv_refl {n : Nat} {q : Int} {ls : List (List Int)} (h : PML n ls) : Qv n (q, pms n ls) (q, pms n ls) := Qv.refl h.spt
theorem ex11 : Qv 3 (raw 3 [1, 1]) (0, pms 3 [[2, 1, 3], [2, 1, 3]]) := by
  rw [e_raw _ (by decide), show ofL 3 [1, 1] = [[2, 1, 3], [2, 1, 3]] by decide, show -(ngs [1, 1]) = 0 by decide]
  exact qv_refl fun x hx => by simp at hx; rw [hx]; exact pm3 _ _ _ (by decide)
theorem exm1 : Qv 3 (raw 3 [-1]) (-1, pms 3 [[3, 1, 2]]) := by
  rw [e_raw _ (by decide), show ofL 3 [-1] = [[3, 1, 2]] by decide, show -(ngs [-1]) = -1 by decide]
  exact qv_refl fun x hx => by simp at hx; rw [hx]; exact pm3 _ _ _ (by decide)
theorem ex1m2 : Qv 3 (raw 3 [1, -2]) (-1, pms 3 [[1, 3, 2], [2, 3, 1]]) := by
  rw [e_raw _ (by decide), show ofL 3 [1, -2] = [[1, 3, 2], [2, 3, 1]] by decide, show -(ngs [1, -2]) = -1 by decide]
  exact qv_refl fun x hx => by simp at hx; rcases hx with rfl | rfl <;> exact pm3 _ _ _ (by decide)
/-- Of at a word whose normal form is known. -/
theorem OfEx (v : Value) (c : Nat) (ws : List Int) (p : Int) (ms : List (List Int)) (w : World) (h : IS .i64 w v c ws) (hck : wcheck ((3 : Nat) : Int) ws = 0) (hv : (ws.all fun k => !wbad ((3 : Nat) : Int) k) = true) (hl : ws.length ≤ 64) (hm : PML 3 ms) (hc : Can 3 (p, pms 3 ms)) (hp : Qv 3 (raw 3 ws) (p, pms 3 ms)) :
    Calls Tryd.prog 9 #[.int .i64 3, v] w fun e w' => ∃ v, e = .returned (.tuple #[v, .int .i64 0]) ∧ NX w' v 3 p ms ∧ NFo 3 p ms ∧ Ext w w' := by
  refine (NOf2_calls 3 v c ws w h hck (val_dec hv) (by decide) (by decide) hl).mono ?_
  rintro e w' ⟨v, q, ls, rfl, hx, ho, hq, _, _, _, x⟩
  obtain ⟨rfl, rfl⟩ := nf_same (by decide) ho hq hm hc hp
  exact ⟨v, rfl, hx, ho, x⟩
end Go.Proofs.YtigffblelngpjaaDoor
/- The chapter's examples hold: the walk of lives (printed by gen_hlives.py). -/
namespace Go.Proofs.YtigffblelngpjaaDoor
set_option linter.unusedVariables false
set_option linter.unusedSimpArgs false
set_option maxRecDepth 100000
open Go Go.RowKit

theorem byt_dec {ls : List (List Int)} (h : (ls.all fun l => l.all fun x => decide (0 ≤ x) && decide (x ≤ 255)) = true) : Byt ls := fun i hi j hj => by
  have h1 := List.all_eq_true.1 h (ri ls i) (by rw [ri_of_lt hi]; exact List.getElem_mem _)
  have h2 := List.all_eq_true.1 h1 (gi (ri ls i) j) (gi_mem hj)
  simpa using h2
theorem sz1 (w : World) (o : Obj) : w.heap.size + 1 = (w.alloc o).heap.size := by simp
theorem sz2 (w : World) (o o' : Obj) : w.heap.size + 1 + 1 = ((w.alloc o).alloc o').heap.size := by simp
theorem NX.val {w : World} {a : Option Addr} {N q : Int} {ls : List (List Int)} (h : ISX .u8 w (.slice a ls.length ls.length) ls.length ls) : NX w (.agg #[.int .i64 N, .int .i64 q, .slice a ls.length ls.length]) N q ls := ⟨a, rfl, h⟩
theorem text_k : pcs 3 (-1) [[1, 3, 2], [2, 3, 1]] = [⟨#[51]⟩, ⟨#[45, 49]⟩, ⟨#[49, 32, 51, 32, 50]⟩, ⟨#[50, 32, 51, 32, 49]⟩] := by
  have h1 : textOf [1, 3, 2] = textTo [1, 3, 2] 3 := if_pos ((pm3 1 3 2 (by decide)).chk (by decide) (by decide))
  have h2 : textOf [2, 3, 1] = textTo [2, 3, 1] 3 := if_pos ((pm3 2 3 1 (by decide)).chk (by decide) (by decide))
  unfold pcs
  simp only [List.map_cons, List.map_nil, h1, h2]
  decide +kernel
set_option maxHeartbeats 16000000 in
theorem Lives_calls (w : World) (ht : PTab w) : Calls Tryd.prog 13 #[] w fun e w' => e = .returned (.bool true) ∧ Ext w w' := by
  have HT := Lib.hid ht
  clear ht
  go_enter Tryd.func13, Tryd.ntmps13
  go_wp2_with fail
  refine (OfEx _ _ [1, 2] (0) [[3, 1, 2]] _ (IS.lit (k := .i64) (xs := [1, 2]) rfl rfl rfl (by decide)) (by decide) (by decide) (by decide) (fun x hx => by simp at hx; (first | (rcases hx with rfl | rfl <;> exact pm3 _ _ _ (by decide)) | (rw [hx]; exact pm3 _ _ _ (by decide)))) (can_one (pm3 _ _ _ (by decide)) (by decide) (by decide)) ex12).mono ?_
  rintro e w1 ⟨va, rfl, ⟨aa, rfl, ha⟩, hoa, x⟩
  replace x : Ext w w1 := Ext.trans ((Ext.refl w).alloc _) x
  have X_w1 : Hid (Ext w w1) := Lib.hid (x)
  have Na : Hid (NX w1 (.agg #[.int .i64 3, .int .i64 (0), .slice aa 1 1]) 3 (0) [[3, 1, 2]]) := Lib.hid ⟨aa, rfl, ha⟩
  have Oa := Lib.hid hoa
  clear x ha hoa
  have ba : B3 (w1.alloc (.cells #[.int .i64 3, .int .i64 (0), .slice aa 1 1] 30)) w1.heap.size (.int .i64 3) (.int .i64 (0)) (.slice aa 1 1) 30 := B3.new _ _ _ _ _
  have Ba := Lib.hid ba
  clear ba
  go_wp2_with fail
  refine (OfEx _ _ [1, 2, 1] (1) [] _ (IS.lit (k := .i64) (xs := [1, 2, 1]) rfl (by simp) rfl (by decide)) (by decide) (by decide) (by decide) (fun x hx => by cases hx) (can_zero 3 1) ex121).mono ?_
  rintro e w2 ⟨vb, rfl, ⟨ab, rfl, hb⟩, hob, x⟩
  replace Ba := Lib.hid ((Ext.trans ((Ext.refl _).alloc _) x).block Ba.out)
  replace x : Ext w1 w2 := Ext.trans (((Ext.refl w1).alloc _).alloc _) x
  replace Na := Lib.hid (Na.out.ext x)
  have X_w2 : Hid (Ext w w2) := Lib.hid (X_w1.out.trans x)
  clear X_w1
  have Nb : Hid (NX w2 (.agg #[.int .i64 3, .int .i64 (1), .slice ab 0 0]) 3 (1) []) := Lib.hid ⟨ab, rfl, hb⟩
  have Ob := Lib.hid hob
  clear x hb hob
  have bb : B3 (w2.alloc (.cells #[.int .i64 3, .int .i64 (1), .slice ab 0 0] 30)) w2.heap.size (.int .i64 3) (.int .i64 (1)) (.slice ab 0 0) 30 := B3.new _ _ _ _ _
  have Bb := Lib.hid bb
  clear bb
  go_wp2_with fail
  refine (OfEx _ _ [2, 1, 2] (1) [] _ (IS.lit (k := .i64) (xs := [2, 1, 2]) rfl (by simp) rfl (by decide)) (by decide) (by decide) (by decide) (fun x hx => by cases hx) (can_zero 3 1) ex212).mono ?_
  rintro e w3 ⟨vc, rfl, ⟨ac, rfl, hc⟩, hoc, x⟩
  replace Bb := Lib.hid ((Ext.trans ((Ext.refl _).alloc _) x).block Bb.out)
  replace x : Ext w2 w3 := Ext.trans (((Ext.refl w2).alloc _).alloc _) x
  replace Na := Lib.hid (Na.out.ext x)
  replace Ba := Lib.hid (x.block Ba.out)
  replace Nb := Lib.hid (Nb.out.ext x)
  have X_w3 : Hid (Ext w w3) := Lib.hid (X_w2.out.trans x)
  clear X_w2
  have Nc : Hid (NX w3 (.agg #[.int .i64 3, .int .i64 (1), .slice ac 0 0]) 3 (1) []) := Lib.hid ⟨ac, rfl, hc⟩
  have Oc := Lib.hid hoc
  clear x hc hoc
  have bc : B3 (w3.alloc (.cells #[.int .i64 3, .int .i64 (1), .slice ac 0 0] 30)) w3.heap.size (.int .i64 3) (.int .i64 (1)) (.slice ac 0 0) 30 := B3.new _ _ _ _ _
  have Bc := Lib.hid bc
  clear bc
  go_wp2_with fail
  refine (OfEx _ _ [1, 1] (0) [[2, 1, 3], [2, 1, 3]] _ (IS.lit (k := .i64) (xs := [1, 1]) rfl (by simp) rfl (by decide)) (by decide) (by decide) (by decide) (fun x hx => by simp at hx; (first | (rcases hx with rfl | rfl <;> exact pm3 _ _ _ (by decide)) | (rw [hx]; exact pm3 _ _ _ (by decide)))) (can_two (pm3 _ _ _ (by decide)) (pm3 _ _ _ (by decide)) (by decide) (by decide) (by decide)) ex11).mono ?_
  rintro e w4 ⟨vd, rfl, ⟨ad, rfl, hd⟩, hod, x⟩
  replace Bc := Lib.hid ((Ext.trans ((Ext.refl _).alloc _) x).block Bc.out)
  replace x : Ext w3 w4 := Ext.trans (((Ext.refl w3).alloc _).alloc _) x
  replace Na := Lib.hid (Na.out.ext x)
  replace Ba := Lib.hid (x.block Ba.out)
  replace Nb := Lib.hid (Nb.out.ext x)
  replace Bb := Lib.hid (x.block Bb.out)
  replace Nc := Lib.hid (Nc.out.ext x)
  have X_w4 : Hid (Ext w w4) := Lib.hid (X_w3.out.trans x)
  clear X_w3
  have Nd : Hid (NX w4 (.agg #[.int .i64 3, .int .i64 (0), .slice ad 2 2]) 3 (0) [[2, 1, 3], [2, 1, 3]]) := Lib.hid ⟨ad, rfl, hd⟩
  have Od := Lib.hid hod
  clear x hd hod
  have bd : B3 (w4.alloc (.cells #[.int .i64 3, .int .i64 (0), .slice ad 2 2] 30)) w4.heap.size (.int .i64 3) (.int .i64 (0)) (.slice ad 2 2) 30 := B3.new _ _ _ _ _
  have Bd := Lib.hid bd
  clear bd
  go_wp2_with fail
  refine (OfEx _ _ [(-1)] (-1) [[3, 1, 2]] _ (IS.lit (k := .i64) (xs := [(-1)]) rfl (by simp) rfl (by decide)) (by decide) (by decide) (by decide) (fun x hx => by simp at hx; (first | (rcases hx with rfl | rfl <;> exact pm3 _ _ _ (by decide)) | (rw [hx]; exact pm3 _ _ _ (by decide)))) (can_one (pm3 _ _ _ (by decide)) (by decide) (by decide)) exm1).mono ?_
  rintro e w5 ⟨vi, rfl, ⟨ai, rfl, hi⟩, hoi, x⟩
  replace Bd := Lib.hid ((Ext.trans ((Ext.refl _).alloc _) x).block Bd.out)
  replace x : Ext w4 w5 := Ext.trans (((Ext.refl w4).alloc _).alloc _) x
  replace Na := Lib.hid (Na.out.ext x)
  replace Ba := Lib.hid (x.block Ba.out)
  replace Nb := Lib.hid (Nb.out.ext x)
  replace Bb := Lib.hid (x.block Bb.out)
  replace Nc := Lib.hid (Nc.out.ext x)
  replace Bc := Lib.hid (x.block Bc.out)
  replace Nd := Lib.hid (Nd.out.ext x)
  have X_w5 : Hid (Ext w w5) := Lib.hid (X_w4.out.trans x)
  clear X_w4
  have Ni : Hid (NX w5 (.agg #[.int .i64 3, .int .i64 (-1), .slice ai 1 1]) 3 (-1) [[3, 1, 2]]) := Lib.hid ⟨ai, rfl, hi⟩
  have Oi := Lib.hid hoi
  clear x hi hoi
  have bi : B3 (w5.alloc (.cells #[.int .i64 3, .int .i64 (-1), .slice ai 1 1] 30)) w5.heap.size (.int .i64 3) (.int .i64 (-1)) (.slice ai 1 1) 30 := B3.new _ _ _ _ _
  have Bi := Lib.hid bi
  clear bi
  go_wp2_with fail
  refine (OfEx _ _ [1, (-2)] (-1) [[1, 3, 2], [2, 3, 1]] _ (IS.lit (k := .i64) (xs := [1, (-2)]) rfl (by simp) rfl (by decide)) (by decide) (by decide) (by decide) (fun x hx => by simp at hx; (first | (rcases hx with rfl | rfl <;> exact pm3 _ _ _ (by decide)) | (rw [hx]; exact pm3 _ _ _ (by decide)))) (can_two (pm3 _ _ _ (by decide)) (pm3 _ _ _ (by decide)) (by decide) (by decide) (by decide)) ex1m2).mono ?_
  rintro e w6 ⟨vk, rfl, ⟨ak, rfl, hk⟩, hok, x⟩
  replace Bi := Lib.hid ((Ext.trans ((Ext.refl _).alloc _) x).block Bi.out)
  replace x : Ext w5 w6 := Ext.trans (((Ext.refl w5).alloc _).alloc _) x
  replace Na := Lib.hid (Na.out.ext x)
  replace Ba := Lib.hid (x.block Ba.out)
  replace Nb := Lib.hid (Nb.out.ext x)
  replace Bb := Lib.hid (x.block Bb.out)
  replace Nc := Lib.hid (Nc.out.ext x)
  replace Bc := Lib.hid (x.block Bc.out)
  replace Nd := Lib.hid (Nd.out.ext x)
  replace Bd := Lib.hid (x.block Bd.out)
  replace Ni := Lib.hid (Ni.out.ext x)
  have X_w6 : Hid (Ext w w6) := Lib.hid (X_w5.out.trans x)
  clear X_w5
  have Nk : Hid (NX w6 (.agg #[.int .i64 3, .int .i64 (-1), .slice ak 2 2]) 3 (-1) [[1, 3, 2], [2, 3, 1]]) := Lib.hid ⟨ak, rfl, hk⟩
  have Ok := Lib.hid hok
  clear x hk hok
  have bk : B3 (w6.alloc (.cells #[.int .i64 3, .int .i64 (-1), .slice ak 2 2] 30)) w6.heap.size (.int .i64 3) (.int .i64 (-1)) (.slice ak 2 2) 30 := B3.new _ _ _ _ _
  obtain ⟨w7, hw7⟩ : ∃ w7, w7 = w6.alloc (.cells #[.int .i64 3, .int .i64 (-1), .slice ak 2 2] 30) := ⟨_, rfl⟩
  rw [← hw7] at bk
  have x : Ext w6 w7 := by rw [hw7]; exact (Ext.refl w6).alloc _
  replace Na := Lib.hid (Na.out.ext x)
  replace Ba := Lib.hid (x.block Ba.out)
  replace Nb := Lib.hid (Nb.out.ext x)
  replace Bb := Lib.hid (x.block Bb.out)
  replace Nc := Lib.hid (Nc.out.ext x)
  replace Bc := Lib.hid (x.block Bc.out)
  replace Nd := Lib.hid (Nd.out.ext x)
  replace Bd := Lib.hid (x.block Bd.out)
  replace Ni := Lib.hid (Ni.out.ext x)
  replace Bi := Lib.hid (x.block Bi.out)
  replace Nk := Lib.hid (Nk.out.ext x)
  have X_w7 : Hid (Ext w w7) := Lib.hid (X_w6.out.trans x)
  clear X_w6
  have Bk := Lib.hid bk; have H7 := Lib.hid hw7
  replace HT := Lib.hid (HT.out.ext X_w7.out)
  clear bk hw7 x
  have ca0 := B3.c0 Ba.out; have ca1 := B3.c1 Ba.out; have ca2 := B3.c2 Ba.out
  rw [H7.out] at ca0 ca1 ca2
  go_wp2_with fail
  rw [← H7.out]
  clear ca0 ca1 ca2
  refine (NSame_calls _ _ 3 3 (0) (0) [[3, 1, 2]] [[3, 1, 2]] _ ((Na.out.ext (((Ext.refl _).alloc _).alloc _)).ns) (⟨_, _, rfl, ISS.lit1 (g := w6.heap.size + 1 + 1) (by rw [H7.out]; simp) (IS.lit (k := .u8) (g := w6.heap.size + 1) (xs := [3, 1, 2]) rfl (by rw [H7.out]; simp) rfl (by decide))⟩) (byt_dec (by decide)) (byt_dec (by decide))).mono ?_
  rintro e w8 ⟨rfl, x⟩
  rw [show nsame 3 3 (0) (0) [[3, 1, 2]] [[3, 1, 2]] = true from by decide]
  replace x : Ext w7 w8 := Ext.trans (((Ext.refl _).alloc _).alloc _) x
  replace Na := Lib.hid (Na.out.ext x)
  replace Ba := Lib.hid (x.block Ba.out)
  replace Nb := Lib.hid (Nb.out.ext x)
  replace Bb := Lib.hid (x.block Bb.out)
  replace Nc := Lib.hid (Nc.out.ext x)
  replace Bc := Lib.hid (x.block Bc.out)
  replace Nd := Lib.hid (Nd.out.ext x)
  replace Bd := Lib.hid (x.block Bd.out)
  replace Ni := Lib.hid (Ni.out.ext x)
  replace Bi := Lib.hid (x.block Bi.out)
  replace Nk := Lib.hid (Nk.out.ext x)
  replace Bk := Lib.hid (x.block Bk.out)
  replace HT := Lib.hid (HT.out.ext x)
  have X_w8 : Hid (Ext w w8) := Lib.hid (X_w7.out.trans x)
  clear X_w7
  clear x
  have cb0 := B3.c0 Bb.out; have cb1 := B3.c1 Bb.out; have cb2 := B3.c2 Bb.out
  go_wp2_with fail
  clear cb0 cb1 cb2
  refine (NSame_calls _ _ 3 3 (1) (1) [] [] _ (Nb.out.ns) (⟨none, 0, rfl, ISS.nil _ _⟩) (byt_dec (by decide)) (byt_dec (by decide))).mono ?_
  rintro e w9 ⟨rfl, x⟩
  rw [show nsame 3 3 (1) (1) [] [] = true from by decide]
  replace Na := Lib.hid (Na.out.ext x)
  replace Ba := Lib.hid (x.block Ba.out)
  replace Nb := Lib.hid (Nb.out.ext x)
  replace Bb := Lib.hid (x.block Bb.out)
  replace Nc := Lib.hid (Nc.out.ext x)
  replace Bc := Lib.hid (x.block Bc.out)
  replace Nd := Lib.hid (Nd.out.ext x)
  replace Bd := Lib.hid (x.block Bd.out)
  replace Ni := Lib.hid (Ni.out.ext x)
  replace Bi := Lib.hid (x.block Bi.out)
  replace Nk := Lib.hid (Nk.out.ext x)
  replace Bk := Lib.hid (x.block Bk.out)
  replace HT := Lib.hid (HT.out.ext x)
  have X_w9 : Hid (Ext w w9) := Lib.hid (X_w8.out.trans x)
  clear X_w8
  clear x
  have cc0 := B3.c0 Bc.out; have cc1 := B3.c1 Bc.out; have cc2 := B3.c2 Bc.out
  have cb0 := B3.c0 Bb.out; have cb1 := B3.c1 Bb.out; have cb2 := B3.c2 Bb.out
  go_wp2_with fail
  clear cc0 cc1 cc2 cb0 cb1 cb2
  refine (NSame_calls _ _ 3 3 (1) (1) [] [] _ (Nc.out.ns) (Nb.out.ns) (byt_dec (by decide)) (byt_dec (by decide))).mono ?_
  rintro e w10 ⟨rfl, x⟩
  rw [show nsame 3 3 (1) (1) [] [] = true from by decide]
  replace Na := Lib.hid (Na.out.ext x)
  replace Ba := Lib.hid (x.block Ba.out)
  replace Nb := Lib.hid (Nb.out.ext x)
  replace Bb := Lib.hid (x.block Bb.out)
  replace Nc := Lib.hid (Nc.out.ext x)
  replace Bc := Lib.hid (x.block Bc.out)
  replace Nd := Lib.hid (Nd.out.ext x)
  replace Bd := Lib.hid (x.block Bd.out)
  replace Ni := Lib.hid (Ni.out.ext x)
  replace Bi := Lib.hid (x.block Bi.out)
  replace Nk := Lib.hid (Nk.out.ext x)
  replace Bk := Lib.hid (x.block Bk.out)
  replace HT := Lib.hid (HT.out.ext x)
  have X_w10 : Hid (Ext w w10) := Lib.hid (X_w9.out.trans x)
  clear X_w9
  clear x
  have cd0 := B3.c0 Bd.out; have cd1 := B3.c1 Bd.out; have cd2 := B3.c2 Bd.out
  go_wp2_with fail
  clear cd0 cd1 cd2
  refine (NSame_calls _ _ 3 3 (0) (0) [[2, 1, 3], [2, 1, 3]] [[2, 1, 3], [2, 1, 3]] _ ((Nd.out.ext ((((Ext.refl _).alloc _).alloc _).alloc _)).ns) (⟨_, _, rfl, ISS.lit2 (g := w10.heap.size + 1 + 1) (by simp) ((IS.lit (k := .u8) (g := w10.heap.size) (xs := [2, 1, 3]) rfl rfl rfl (by decide)).ext ((Ext.refl _).alloc _)) (IS.lit (k := .u8) (g := w10.heap.size + 1) (xs := [2, 1, 3]) rfl (by simp) rfl (by decide))⟩) (byt_dec (by decide)) (byt_dec (by decide))).mono ?_
  rintro e w11 ⟨rfl, x⟩
  rw [show nsame 3 3 (0) (0) [[2, 1, 3], [2, 1, 3]] [[2, 1, 3], [2, 1, 3]] = true from by decide]
  replace x : Ext w10 w11 := Ext.trans ((((Ext.refl _).alloc _).alloc _).alloc _) x
  replace Na := Lib.hid (Na.out.ext x)
  replace Ba := Lib.hid (x.block Ba.out)
  replace Nb := Lib.hid (Nb.out.ext x)
  replace Bb := Lib.hid (x.block Bb.out)
  replace Nc := Lib.hid (Nc.out.ext x)
  replace Bc := Lib.hid (x.block Bc.out)
  replace Nd := Lib.hid (Nd.out.ext x)
  replace Bd := Lib.hid (x.block Bd.out)
  replace Ni := Lib.hid (Ni.out.ext x)
  replace Bi := Lib.hid (x.block Bi.out)
  replace Nk := Lib.hid (Nk.out.ext x)
  replace Bk := Lib.hid (x.block Bk.out)
  replace HT := Lib.hid (HT.out.ext x)
  have X_w11 : Hid (Ext w w11) := Lib.hid (X_w10.out.trans x)
  clear X_w10
  clear x
  have ci0 := B3.c0 Bi.out; have ci1 := B3.c1 Bi.out; have ci2 := B3.c2 Bi.out
  go_wp2_with fail
  clear ci0 ci1 ci2
  refine (NSame_calls _ _ 3 3 (-1) (-1) [[3, 1, 2]] [[3, 1, 2]] _ ((Ni.out.ext (((Ext.refl _).alloc _).alloc _)).ns) (⟨_, _, rfl, ISS.lit1 (g := w11.heap.size + 1) (by simp) (IS.lit (k := .u8) (g := w11.heap.size) (xs := [3, 1, 2]) rfl rfl rfl (by decide))⟩) (byt_dec (by decide)) (byt_dec (by decide))).mono ?_
  rintro e w12 ⟨rfl, x⟩
  rw [show nsame 3 3 (-1) (-1) [[3, 1, 2]] [[3, 1, 2]] = true from by decide]
  replace x : Ext w11 w12 := Ext.trans (((Ext.refl _).alloc _).alloc _) x
  replace Na := Lib.hid (Na.out.ext x)
  replace Ba := Lib.hid (x.block Ba.out)
  replace Nb := Lib.hid (Nb.out.ext x)
  replace Bb := Lib.hid (x.block Bb.out)
  replace Nc := Lib.hid (Nc.out.ext x)
  replace Bc := Lib.hid (x.block Bc.out)
  replace Nd := Lib.hid (Nd.out.ext x)
  replace Bd := Lib.hid (x.block Bd.out)
  replace Ni := Lib.hid (Ni.out.ext x)
  replace Bi := Lib.hid (x.block Bi.out)
  replace Nk := Lib.hid (Nk.out.ext x)
  replace Bk := Lib.hid (x.block Bk.out)
  replace HT := Lib.hid (HT.out.ext x)
  have X_w12 : Hid (Ext w w12) := Lib.hid (X_w11.out.trans x)
  clear X_w11
  clear x
  have ck0 := B3.c0 Bk.out; have ck1 := B3.c1 Bk.out; have ck2 := B3.c2 Bk.out
  go_wp2_with fail
  clear ck0 ck1 ck2
  refine (NSame_calls _ _ 3 3 (-1) (-1) [[1, 3, 2], [2, 3, 1]] [[1, 3, 2], [2, 3, 1]] _ ((Nk.out.ext ((((Ext.refl _).alloc _).alloc _).alloc _)).ns) (⟨_, _, rfl, ISS.lit2 (g := w12.heap.size + 1 + 1) (by simp) ((IS.lit (k := .u8) (g := w12.heap.size) (xs := [1, 3, 2]) rfl rfl rfl (by decide)).ext ((Ext.refl _).alloc _)) (IS.lit (k := .u8) (g := w12.heap.size + 1) (xs := [2, 3, 1]) rfl (by simp) rfl (by decide))⟩) (byt_dec (by decide)) (byt_dec (by decide))).mono ?_
  rintro e w13 ⟨rfl, x⟩
  rw [show nsame 3 3 (-1) (-1) [[1, 3, 2], [2, 3, 1]] [[1, 3, 2], [2, 3, 1]] = true from by decide]
  replace x : Ext w12 w13 := Ext.trans ((((Ext.refl _).alloc _).alloc _).alloc _) x
  replace Na := Lib.hid (Na.out.ext x)
  replace Ba := Lib.hid (x.block Ba.out)
  replace Nb := Lib.hid (Nb.out.ext x)
  replace Bb := Lib.hid (x.block Bb.out)
  replace Nc := Lib.hid (Nc.out.ext x)
  replace Bc := Lib.hid (x.block Bc.out)
  replace Nd := Lib.hid (Nd.out.ext x)
  replace Bd := Lib.hid (x.block Bd.out)
  replace Ni := Lib.hid (Ni.out.ext x)
  replace Bi := Lib.hid (x.block Bi.out)
  replace Nk := Lib.hid (Nk.out.ext x)
  replace Bk := Lib.hid (x.block Bk.out)
  replace HT := Lib.hid (HT.out.ext x)
  have X_w13 : Hid (Ext w w13) := Lib.hid (X_w12.out.trans x)
  clear X_w12
  clear x
  have ck0 := B3.c0 Bk.out; have ck1 := B3.c1 Bk.out; have ck2 := B3.c2 Bk.out
  go_wp2_with fail
  clear ck0 ck1 ck2
  refine (NText_calls _ 3 (-1) [[1, 3, 2], [2, 3, 1]] _ Nk.out Ok.out HT.out (by rw [text_k]; decide +kernel)).mono ?_
  rintro e w14 ⟨rfl, x⟩
  have se : (({ data := (Lib.join ((pcs 3 (-1) [[1, 3, 2], [2, 3, 1]]).map (·.data.toList)) [59, 32]).toArray } : ByteArray)) = { data := #[51, 59, 32, 45, 49, 59, 32, 49, 32, 51, 32, 50, 59, 32, 50, 32, 51, 32, 49] } := by rw [text_k]; decide +kernel
  rw [se]
  have X_w14 : Hid (Ext w w14) := Lib.hid (X_w13.out.trans x)
  clear X_w13
  clear x se
  go_wp2
  go_ret
  exact ⟨rfl, X_w14.out⟩
end Go.Proofs.YtigffblelngpjaaDoor
