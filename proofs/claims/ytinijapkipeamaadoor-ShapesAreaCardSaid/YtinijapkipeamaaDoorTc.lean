/- shapes.ends, Centre; ganseyref19.Centre. -/
import Derived.Test.YtinijapkipeamaaDoorTb
namespace Go.Proofs.YtinijapkipeamaaDoor
set_option linter.unusedVariables false
set_option linter.unusedSimpArgs false
set_option maxRecDepth 8000
open Go Go.RowKit

def odd (i : Nat) : Bool := decide (i % 2 = 1)
def endL (i : Nat) (m : Int) : Bool := if m = 2 ∨ m = -2 then true else if m = 1 ∨ m = -1 then odd i else false
def endR (i : Nat) (m : Int) : Bool := if m = 2 ∨ m = -2 then true else if m = 1 ∨ m = -1 then !odd i else false
def endF (m : Int) : FuncId := if m = 2 ∨ m = 1 then 47 else if m = -2 ∨ m = -1 then 48 else 46
theorem odd_ne (i : Nat) : ((i : Int) % 2 != 0) = odd i := by
  unfold odd
  by_cases h : i % 2 = 1
  · rw [bne, beq_eq_false_iff_ne.2 (by omega)]; simp [h]
  · rw [bne, beq_iff_eq.2 (by omega)]; simp [h]
theorem odd_eq (i : Nat) : ((i : Int) % 2 == 0) = !odd i := by
  unfold odd
  by_cases h : i % 2 = 1
  · rw [beq_eq_false_iff_ne.2 (by omega)]; simp [h]
  · rw [beq_iff_eq.2 (by omega)]; simp [h]
theorem ret_ends {a a' b b' : Bool} {f f' : FuncId} (h1 : a = a') (h2 : b = b') (h3 : f = f') : Ending.returned (.tuple #[.bool a, .bool b, .func (Fn.func f) #[] #[]]) = Ending.returned (.tuple #[.bool a', .bool b', .func (Fn.func f') #[] #[]]) := by rw [h1, h2, h3]

set_option maxHeartbeats 1000000 in
theorem ends_calls (i : Nat) (m : Int) (w : World) (hi : i ≤ 1000) : Calls Tryd.prog 33 #[.int .i64 i, .int .i64 m] w fun e w' => e = .returned (.tuple #[.bool (endL i m), .bool (endR i m), .func (Fn.func (endF m)) #[] #[]]) ∧ w = w' := by
  have p1 := odd_ne i
  have p2 := odd_eq i
  have e1 : endL i m = if m = 2 ∨ m = -2 then true else if m = 1 ∨ m = -1 then odd i else false := rfl
  have e2 : endR i m = if m = 2 ∨ m = -2 then true else if m = 1 ∨ m = -1 then !odd i else false := rfl
  have e3 : endF m = if m = 2 ∨ m = 1 then 47 else if m = -2 ∨ m = -1 then 48 else 46 := rfl
  generalize odd i = p at p1 p2 e1 e2
  generalize endL i m = L at e1 ⊢
  generalize endR i m = R at e2 ⊢
  generalize endF m = F at e3 ⊢
  by_cases h1 : m = 2
  · subst h1
    have E1 := Lib.hid (show true = L by rw [e1]; rfl); have E2 := Lib.hid (show true = R by rw [e2]; rfl); have E3 := Lib.hid (show 47 = F by rw [e3]; rfl)
    clear e1 e2 e3
    go_enter Tryd.func33, Tryd.ntmps33
    go_wp2
    exact bodyPost_ret (v := .tuple #[.bool true, .bool true, .func (Fn.func 47) #[] #[]]) (by simp [results, Tryd.results33, go_sem]) rfl ⟨ret_ends E1.out E2.out E3.out, rfl⟩
  by_cases h2 : m = 1
  · subst h2
    have E1 := Lib.hid (show p = L by rw [e1]; rfl); have E2 := Lib.hid (show (!p) = R by rw [e2]; rfl); have E3 := Lib.hid (show 47 = F by rw [e3]; rfl)
    clear e1 e2 e3
    go_enter Tryd.func33, Tryd.ntmps33
    go_wp2
    exact bodyPost_ret (v := .tuple #[.bool p, .bool (!p), .func (Fn.func 47) #[] #[]]) (by simp [results, Tryd.results33, go_sem]) rfl ⟨ret_ends E1.out E2.out E3.out, rfl⟩
  by_cases h3 : m = -2
  · subst h3
    have E1 := Lib.hid (show true = L by rw [e1]; rfl); have E2 := Lib.hid (show true = R by rw [e2]; rfl); have E3 := Lib.hid (show 48 = F by rw [e3]; rfl)
    clear e1 e2 e3
    go_enter Tryd.func33, Tryd.ntmps33
    go_wp2
    exact bodyPost_ret (v := .tuple #[.bool true, .bool true, .func (Fn.func 48) #[] #[]]) (by simp [results, Tryd.results33, go_sem]) rfl ⟨ret_ends E1.out E2.out E3.out, rfl⟩
  by_cases h4 : m = -1
  · subst h4
    have E1 := Lib.hid (show p = L by rw [e1]; rfl); have E2 := Lib.hid (show (!p) = R by rw [e2]; rfl); have E3 := Lib.hid (show 48 = F by rw [e3]; rfl)
    clear e1 e2 e3
    go_enter Tryd.func33, Tryd.ntmps33
    go_wp2
    exact bodyPost_ret (v := .tuple #[.bool p, .bool (!p), .func (Fn.func 48) #[] #[]]) (by simp [results, Tryd.results33, go_sem]) rfl ⟨ret_ends E1.out E2.out E3.out, rfl⟩
  · have E1 := Lib.hid (show false = L by rw [e1, if_neg (by omega), if_neg (by omega)]); have E2 := Lib.hid (show false = R by rw [e2, if_neg (by omega), if_neg (by omega)]); have E3 := Lib.hid (show 46 = F by rw [e3, if_neg (by omega), if_neg (by omega)])
    have q1 : (m == 2) = false := beq_eq_false_iff_ne.2 h1
    have q2 : (m == 1) = false := beq_eq_false_iff_ne.2 h2
    have q3 : (m == -2) = false := beq_eq_false_iff_ne.2 h3
    have q4 : (m == -1) = false := beq_eq_false_iff_ne.2 h4
    clear e1 e2 e3 h1 h2 h3 h4
    go_enter Tryd.func33, Tryd.ntmps33
    go_wp2
    exact bodyPost_ret (v := .tuple #[.bool false, .bool false, .func (Fn.func 46) #[] #[]]) (by simp [results, Tryd.results33, go_sem]) rfl ⟨ret_ends E1.out E2.out E3.out, rfl⟩

/-- How far the left edge has moved to the right behind some rows. -/
def edge (l : List Int) : Nat → Int
  | 0 => 0
  | k + 1 => edge l k + if endL k (gi l (k + 1) - gi l k) then (if 0 < gi l (k + 1) - gi l k then -1 else 1) else 0
theorem edge_bd (l : List Int) : ∀ k : Nat, -(k : Int) ≤ edge l k ∧ edge l k ≤ k
  | 0 => by simp [edge]
  | k + 1 => by
    have := edge_bd l k
    unfold edge
    repeat' split <;> omega
/-- Twice the distance of the middles. -/
def cent (l : List Int) : Int := 2 * edge l (l.length - 1) + gi l (l.length - 1) - gi l 0
theorem oerr_zero {l : List Int} (h : oerr l = 0) : l.length ≤ 32 ∧ 2 ≤ l.length ∧ l.length % 2 = 0 ∧ (∀ i, i < l.length → 2 ≤ gi l i ∧ gi l i ≤ 16) ∧ ∀ i, i + 1 < l.length → -2 ≤ gi l (i + 1) - gi l i ∧ gi l (i + 1) - gi l i ≤ 2 := by
  by_cases h1 : 32 < l.length
  · rw [oerr_long h1] at h; omega
  by_cases h2 : l.length % 2 ≠ 0 ∨ l.length < 2
  · rw [oerr_odd (by omega) h2] at h; omega
  have hg : ∀ i, i < l.length → 2 ≤ gi l i ∧ gi l i ≤ 16 := fun i hi => by
    by_cases h3 : gi l i < 2 ∨ 16 < gi l i
    · rw [oerr_out (by omega) h2 hi h3] at h; omega
    · omega
  refine ⟨by omega, by omega, by omega, hg, fun i hi => ?_⟩
  rw [oerr_in (by omega) h2 hg] at h
  cases hf : far (gi l i) (gi l (i + 1))
  · simp [far] at hf; omega
  · rw [jmp_bad hi hf] at h; omega

set_option maxHeartbeats 2000000 in
theorem Centre_calls (v : Value) (c : Nat) (l : List Int) (w : World) (h : IS .i64 w v c l) : Calls Tryd.prog 13 #[v] w fun e w' => e = .returned (.tuple #[.int .i64 (if oerr l = 0 then cent l else 0), .int .i64 (oerr l)]) ∧ Ext w w' := by
  have HC := Lib.hid (HCheck_calls v c l w h)
  obtain ⟨ao, n, c', rfl, hn, rfl, hIS⟩ := h.out
  by_cases he : oerr l = 0
  · obtain ⟨z1, z2, _, z3, z4⟩ := oerr_zero he
    rw [he] at HC ⊢
    rw [if_pos rfl]
    have hres : cent l = 2 * edge l (n - 1) + gi l (n - 1) - gi l 0 := by unfold cent; rw [hn]
    rw [← hn] at z1 z2 z3 z4
    obtain ⟨R, hR⟩ : ∃ R, R = cent l := ⟨_, rfl⟩
    rw [← hR] at hres ⊢
    have HI := Lib.hid hIS; have H3 := Lib.hid z3; have H4 := Lib.hid z4; have HR := Lib.hid hres
    clear hIS h z3 z4 hres hR hn he
    go_enter Tryd.func13, Tryd.ntmps13
    go_wp2_with fail
    refine HC.out.mono ?_
    rintro e w1 ⟨rfl, x1⟩
    have X1 := Lib.hid x1
    clear x1 HC
    go_wp2
    go_loopw [5, 6] (fun s i wr => ∃ k : Nat, k + 1 ≤ n ∧ i = .int .i64 ((k : Int) + 1) ∧ s = .int .i64 (edge l k) ∧ Hid (Ext w wr)) (fun _ i _ => n - (intOf i).toNat)
    case atStart => exact ⟨0, by omega, rfl, rfl, X1⟩
    case round =>
      obtain ⟨k, hk, rfl, rfl, Hy⟩ := hrel
      by_cases hlt : k + 1 < n
      · obtain ⟨b, o, rfl, hc1⟩ := HI.out.at hlt
        obtain ⟨b', o', hbo, hc2⟩ := HI.out.at (show k < n by omega)
        obtain ⟨rfl, rfl⟩ : b = b' ∧ o = o' := by simpa using hbo
        replace hc1 := Hy.out.cell (hc1 (k + 1) hlt); replace hc2 := Hy.out.cell (hc2 k (by omega))
        have g1 := H3.out k (by omega)
        have g2 := H3.out (k + 1) hlt
        have g3 := H4.out k hlt
        have hed := edge_bd l k
        have hst : edge l (k + 1) = edge l k + if endL k (gi l (k + 1) - gi l k) then (if 0 < gi l (k + 1) - gi l k then -1 else 1) else 0 := rfl
        have hnz : endL k (gi l (k + 1) - gi l k) = true → gi l (k + 1) - gi l k ≠ 0 := fun h0 e => by rw [e] at h0; simp [endL] at h0
        generalize gi l k = x at *
        generalize gi l (k + 1) = y at *
        have hap := fun w' => ends_calls k (y - x) w' (by omega)
        generalize hm : y - x = m at hap hst hnz g3
        generalize endR k m = r at hap
        generalize endF m = F at hap
        generalize endL k m = L at hap hst hnz
        generalize edge l k = E at *
        generalize hE : edge l (k + 1) = E' at hst
        have HAp := Lib.hid hap; have HSt := Lib.hid hst; have HNz := Lib.hid hnz; have HE := Lib.hid hE
        have t1 : (0 : Int) ≤ (k : Int) + 1 := by omega
        have t2 : ((k : Int) + 1).toNat = k + 1 := by omega
        have t3 : (k : Int) + 1 < n := by omega
        have t4 : IntKind.i64.wrap ((k : Int) + 1 - 1) = (k : Int) := by rw [show (k : Int) + 1 - 1 = k by omega]; exact IntWalk.i64_in _ ⟨by omega, by omega⟩
        have t5 : (k : Int) < n := by omega
        have t6 : IntKind.i64.wrap (k : Int) = (k : Int) := IntWalk.i64_in _ ⟨by omega, by omega⟩
        have t7 : (0 : Int) ≤ (k : Int) := by omega
        have t8 : IntKind.i64.wrap (y - x) = m := by rw [hm]; exact IntWalk.i64_in _ ⟨by omega, by omega⟩
        clear hap hst hnz hbo hm hE g1 g2
        go_wp2
        go_quiet (fail)
        clear hc1 hc2 t1 t2 t5 t6 t7 t8
        go_wp2_with fail
        refine (HAp.out _).mono ?_
        rintro e w2 ⟨rfl, hw2⟩
        have X2 : Hid (Ext w w2) := by rw [← hw2]; exact Lib.hid (by first | exact Hy.out | exact (Hy.out.drewN _))
        clear hw2 HAp
        cases L
        · have HS := Lib.hid (show edge l (k + 1) = E by rw [HE.out, HSt.out]; simp)
          clear HSt HNz HE
          go_wp2
          go_roundw
          case rel => exact ⟨k + 1, by omega, by go_num, by rw [HS.out], X2⟩
          case measure => simp [intOf]; omega
        · have hm0 := HNz.out rfl
          by_cases m1 : 0 < m
          · have HS := Lib.hid (show edge l (k + 1) = E - 1 by rw [HE.out, HSt.out, if_pos rfl, if_pos m1]; omega)
            have m2 : ¬ m < 0 := by omega
            clear HSt HNz HE hm0
            go_wp2
            go_roundw
            case rel => exact ⟨k + 1, by omega, by go_num, by rw [HS.out], X2⟩
            case measure => simp [intOf]; omega
          · have HS := Lib.hid (show edge l (k + 1) = E + 1 by rw [HE.out, HSt.out, if_pos rfl, if_neg m1])
            have m2 : m < 0 := by omega
            clear HSt HNz HE hm0
            go_wp2
            go_roundw
            case rel => exact ⟨k + 1, by omega, by go_num, by rw [HS.out], X2⟩
            case measure => simp [intOf]; omega
      · have hnk : n = k + 1 := by omega
        obtain ⟨b, o, rfl, hc1⟩ := HI.out.at (show k < n by omega)
        have hc0 := Hy.out.cell (hc1 0 (by omega))
        rw [Nat.add_zero] at hc0
        replace hc1 := Hy.out.cell (hc1 k (by omega))
        have g1 := H3.out 0 (by omega)
        have g2 := H3.out k (by omega)
        have hed := edge_bd l k
        have hr := HR.out
        rw [show n - 1 = k by omega] at hr
        generalize gi l 0 = x at *
        generalize gi l k = y at *
        generalize edge l k = E at *
        have Hr := Lib.hid hr
        clear hr HR
        have t0 : ¬ ((k : Int) + 1 < n) := by omega
        have t1 : (0 : Int) ≤ (n : Int) - 1 := by omega
        have t2 : ((n : Int) - 1).toNat = k := by omega
        have t3 : IntKind.i64.wrap ((n : Int) - 1) = (n : Int) - 1 := IntWalk.i64_in _ ⟨by omega, by omega⟩
        have t4 : (n : Int) - 1 < n := by omega
        have t5 : IntKind.i64.wrap (2 * E) = 2 * E := IntWalk.i64_in _ ⟨by omega, by omega⟩
        have t6 : IntKind.i64.wrap (2 * E + y) = 2 * E + y := IntWalk.i64_in _ ⟨by omega, by omega⟩
        have t7 : IntKind.i64.wrap (2 * E + y - x) = 2 * E + y - x := IntWalk.i64_in _ ⟨by omega, by omega⟩
        have t8 : (0 : Int) < n := by omega
        have t9 : (1 : Int) ≤ n := by omega
        clear hnk hlt
        go_wp2
        go_quiet (fail)
        go_wp2
        exact bodyPost_ret (v := .tuple #[.int .i64 (2 * E + y - x), .int .i64 0]) (by simp [results, Tryd.results13, go_sem]) rfl ⟨by rw [Hr.out], by first | exact Hy.out | exact (Hy.out.drewN _) | exact Hy.out.drew⟩
  · rw [if_neg he]
    have hq : (oerr l != 0) = true := by rw [bne, beq_eq_false_iff_ne.2 he]; rfl
    generalize oerr l = q at HC hq
    clear he hIS h hn
    go_enter Tryd.func13, Tryd.ntmps13
    go_wp2_with fail
    refine HC.out.mono ?_
    rintro e w1 ⟨rfl, x1⟩
    have X1 := Lib.hid x1
    clear x1 HC
    go_wp2
    exact bodyPost_ret (v := .tuple #[.int .i64 0, .int .i64 q]) (by simp [results, Tryd.results13, go_sem]) rfl ⟨rfl, X1.out⟩
end Go.Proofs.YtinijapkipeamaaDoor
