/- Texts of this claim in one file: libraries and walks. -/
import Derived.Test.YtinijapkipeamaaDoorMKnown3
import Derived.Test.YtinijapkipeamaaDoorMKnown5
/- ganseyref19.Jumps and Check; same; Area. -/
namespace Go.Proofs.YtinijapkipeamaaDoor
set_option linter.unusedVariables false
set_option linter.unusedSimpArgs false
set_option maxRecDepth 8000
open Go Go.RowKit

theorem IS.n63 {k : IntKind} {w : World} {v : Value} {c : Nat} {xs : List Int} (h : IS k w v c xs) : xs.length ≤ 9223372036854775807 := by
  have h1 := h.open.1
  have h2 := h.open.2.1
  unfold maxLen at h2
  omega

set_option maxHeartbeats 2000000 in
theorem Jumps_calls (v : Value) (c : Nat) (l : List Int) (w : World) (h : IS .i64 w v c l) (hb : ∀ i, i < l.length → -1000 ≤ gi l i ∧ gi l i ≤ 1000) : Calls Tryd.prog 32 #[v] w fun e w' => e = .returned (.int .i64 (jmp l)) ∧ Ext w w' := by
  have hcm := h.n63
  obtain ⟨ao, n, c', rfl, hn, rfl, hIS⟩ := h.out
  have hbad : ∀ i, i + 1 < n → far (gi l i) (gi l (i + 1)) = true → jmp l = 14 := fun i hi hb => jmp_bad (by omega) hb
  have hok : (∀ i, i + 1 < n → far (gi l i) (gi l (i + 1)) = false) → jmp l = 0 := fun hf => jmp_ok (fun i hi => hf i (by omega))
  rw [← hn] at hb hcm
  obtain ⟨R, hR⟩ : ∃ R, R = jmp l := ⟨_, rfl⟩
  rw [← hR] at hbad hok ⊢
  have HI := Lib.hid hIS; have HBad := Lib.hid hbad; have HOk := Lib.hid hok; have HB := Lib.hid hb
  clear hIS h hbad hok hR hn hb
  go_enter Tryd.func32, Tryd.ntmps32
  go_wp2
  go_loopw [3] (fun i wr => ∃ k : Nat, (k = 0 ∨ k + 1 ≤ n) ∧ i = .int .i64 ((k : Int) + 1) ∧ Hid (Ext w wr) ∧ Hid (∀ j, j < k → far (gi l j) (gi l (j + 1)) = false)) (fun i _ => n - (intOf i).toNat)
  case atStart => exact ⟨0, .inl rfl, rfl, Lib.hid (Ext.refl w), Lib.hid (fun j hj => by omega)⟩
  case round =>
    obtain ⟨k, hk, rfl, Hy, HF⟩ := hrel
    by_cases hlt : k + 1 < n
    · obtain ⟨b, o, rfl, hc1⟩ := HI.out.at hlt
      obtain ⟨b', o', hbo, hc2⟩ := HI.out.at (show k < n by omega)
      obtain ⟨rfl, rfl⟩ : b = b' ∧ o = o' := by simpa using hbo
      replace hc1 := Hy.out.cell (hc1 (k + 1) hlt); replace hc2 := Hy.out.cell (hc2 k (by omega))
      have g1 := HB.out k (by omega)
      have g2 := HB.out (k + 1) hlt
      have hbk := HBad.out k hlt
      have hnx : far (gi l k) (gi l (k + 1)) = false → ∀ j, j < k + 1 → far (gi l j) (gi l (j + 1)) = false := fun h0 i hi => by
        by_cases e : i = k
        · rw [e]; exact h0
        · exact HF.out i (by omega)
      generalize gi l k = x at *
      generalize gi l (k + 1) = y at *
      have HBk := Lib.hid hbk; have HNx := Lib.hid hnx
      clear hbk hnx hbo
      have t1 : (0 : Int) ≤ (k : Int) + 1 := by omega
      have t2 : ((k : Int) + 1).toNat = k + 1 := by omega
      have t3 : (k : Int) + 1 < n := by omega
      have t4 : IntKind.i64.wrap ((k : Int) + 1 - 1) = (k : Int) := by rw [show (k : Int) + 1 - 1 = k by omega]; exact IntWalk.i64_in _ ⟨by omega, by omega⟩
      have t5 : (k : Int) < n := by omega
      have t6 : IntKind.i64.wrap (k : Int) = (k : Int) := IntWalk.i64_in _ ⟨by omega, by omega⟩
      have t7 : (0 : Int) ≤ (k : Int) := by omega
      have t8 : IntKind.i64.wrap (x + 2) = x + 2 := IntWalk.i64_in _ ⟨by omega, by omega⟩
      have t9 : IntKind.i64.wrap (x - 2) = x - 2 := IntWalk.i64_in _ ⟨by omega, by omega⟩
      by_cases x1 : x + 2 < y
      · have HR := Lib.hid (HBk.out (by simp [far]; omega))
        clear HBk HNx
        go_wp2
        go_quiet (fail)
        go_wp2
        go_ret
        exact ⟨ret_int HR.out.symm, by first | exact Hy.out | exact (Hy.out.drewN _)⟩
      · by_cases x2 : y < x - 2
        · have HR := Lib.hid (HBk.out (by simp [far]; omega))
          clear HBk HNx
          go_wp2
          go_quiet (fail)
          go_wp2
          go_ret
          exact ⟨ret_int HR.out.symm, by first | exact Hy.out | exact (Hy.out.drewN _)⟩
        · have HN := Lib.hid (HNx.out (by simp [far]; omega))
          clear HBk HNx
          go_wp2
          go_quiet (fail)
          clear hc1 hc2 t1 t2 t4 t5 t6 t7 t8 t9 g1 g2
          go_wp2
          go_roundw
          case rel => exact ⟨k + 1, .inr (by omega), by go_num, Lib.hid (by first | exact Hy.out | exact (Hy.out.drewN _)), HN⟩
          case measure => simp [intOf]; omega
    · have HR := Lib.hid (HOk.out (fun i hi => HF.out i (by omega)))
      have t3 : ¬ (k : Int) + 1 < n := by omega
      clear hlt hk
      go_wp2
      go_ret
      exact ⟨ret_int HR.out.symm, Hy.out⟩

set_option maxHeartbeats 2000000 in
theorem RCheck_calls (v : Value) (c : Nat) (l : List Int) (w : World) (h : IS .i64 w v c l) : Calls Tryd.prog 11 #[v] w fun e w' => e = .returned (.int .i64 (oerr l)) ∧ Ext w w' := by
  have hcm := h.n63
  obtain ⟨ao, n, c', rfl, hn, rfl, hIS⟩ := h.out
  rw [← hn] at hcm
  by_cases h32 : 32 < n
  · have hr := Lib.hid (oerr_long (l := l) (by omega))
    have t : (32 : Int) < (n : Int) := by omega
    clear hn hIS h h32
    go_enter Tryd.func11, Tryd.ntmps11
    go_wp2
    go_ret
    exact ⟨ret_int hr.out.symm, Ext.refl _⟩
  have h32' : ¬ (32 : Int) < (n : Int) := by omega
  by_cases h3 : n < 2
  · have hr := Lib.hid (oerr_odd (l := l) (by omega) (.inr (by omega)))
    have t : (n : Int) < 2 := by omega
    clear hn hIS h h32 h3
    go_enter Tryd.func11, Tryd.ntmps11
    go_wp2
    go_ret
    exact ⟨ret_int hr.out.symm, Ext.refl _⟩
  have t3 : ¬ (n : Int) < 2 := by omega
  by_cases h2 : n % 2 ≠ 0
  · have hr := Lib.hid (oerr_odd (l := l) (by omega) (.inl (by omega)))
    have t : ((n : Int) % 2 != 0) = true := by rw [bne, beq_eq_false_iff_ne.2 (by omega)]; rfl
    clear hn hIS h h32 h2 h3
    go_enter Tryd.func11, Tryd.ntmps11
    go_wp2
    go_ret
    exact ⟨ret_int hr.out.symm, Ext.refl _⟩
  have t2 : ((n : Int) % 2 != 0) = false := by rw [bne, beq_iff_eq.2 (by omega)]; rfl
  have hout : ∀ i, i < n → gi l i < 2 ∨ 16 < gi l i → oerr l = 1 := fun i hi hb => oerr_out (by omega) (by omega) (by omega) hb
  have hin : (∀ i, i < n → 2 ≤ gi l i ∧ gi l i ≤ 16) → oerr l = jmp l := fun hg => oerr_in (by omega) (by omega) (fun i hi => hg i (by omega))
  have hJ : (∀ i, i < n → 2 ≤ gi l i ∧ gi l i ≤ 16) → ∀ w', Ext w w' → Calls Tryd.prog 32 #[.slice ao n c'] w' fun e w'' => e = .returned (.int .i64 (jmp l)) ∧ Ext w' w'' :=
    fun hg w' x => Jumps_calls _ c' l w' (hIS.ext x) (fun i hi => by have := hg i (by omega); omega)
  obtain ⟨R, hR⟩ : ∃ R, R = oerr l := ⟨_, rfl⟩
  rw [← hR] at hout hin ⊢
  have HI := Lib.hid hIS; have HOut := Lib.hid hout; have HIn := Lib.hid hin; have HJ := Lib.hid hJ
  have hn32 : n ≤ 32 := by omega
  have hn2 : 2 ≤ n := by omega
  clear hIS h hout hin hJ hR hn h32 h2 h3
  go_enter Tryd.func11, Tryd.ntmps11
  go_wp2
  go_loopw [3] (fun i wr => ∃ k : Nat, k ≤ n ∧ i = .int .i64 k ∧ Hid (Ext w wr) ∧ Hid (∀ i, i < k → 2 ≤ gi l i ∧ gi l i ≤ 16)) (fun i _ => n - (intOf i).toNat)
  case atStart => exact ⟨0, Nat.zero_le _, rfl, Lib.hid (Ext.refl w), Lib.hid (fun i hi => by omega)⟩
  case round =>
    obtain ⟨k, hk, rfl, Hx, HG⟩ := hrel
    by_cases hlt : k < n
    · obtain ⟨b, o, rfl, hcl⟩ := HI.out.at hlt
      replace hcl := Hx.out.cell (hcl k hlt)
      have hbk := HOut.out k hlt
      have hnx : 2 ≤ gi l k ∧ gi l k ≤ 16 → ∀ i, i < k + 1 → 2 ≤ gi l i ∧ gi l i ≤ 16 := fun h0 i hi => by
        by_cases e : i = k
        · rw [e]; exact h0
        · exact HG.out i (by omega)
      generalize gi l k = x at hcl hbk hnx
      have HBk := Lib.hid hbk; have HNx := Lib.hid hnx
      clear hbk hnx
      by_cases x1 : x < 2
      · have HB := Lib.hid (HBk.out (.inl x1))
        clear HBk HNx
        go_wp2
        go_ret
        exact ⟨ret_int HB.out.symm, Hx.out⟩
      · by_cases x2 : 16 < x
        · have HB := Lib.hid (HBk.out (.inr x2))
          clear HBk HNx
          go_wp2
          go_ret
          exact ⟨ret_int HB.out.symm, Hx.out⟩
        · have HN := Lib.hid (HNx.out (by omega))
          clear HBk HNx
          go_wp2
          go_roundw
          case rel => exact ⟨k + 1, by omega, by go_num, Hx, HN⟩
          case measure => simp [intOf]; omega
    · obtain rfl : n = k := by omega
      have hcall := HJ.out HG.out wr Hx.out
      have hr := HIn.out HG.out
      have HC := Lib.hid hcall; have HR := Lib.hid hr
      clear hlt hk HOut hcall hr HJ HIn
      go_wp2_with fail
      refine HC.out.mono ?_
      rintro e w1 ⟨rfl, x1⟩
      have X1 := Lib.hid (Hx.out.trans x1)
      clear x1
      go_wp2
      go_ret
      exact ⟨ret_int HR.out.symm, X1.out⟩

def sm (xs ys : List Int) : Int := if xs = ys then 0 else 1
theorem sm_ne {xs ys : List Int} (h : xs ≠ ys) : sm xs ys = 1 := if_neg h
theorem sm_eq {xs ys : List Int} (h : xs = ys) : sm xs ys = 0 := if_pos h

set_option maxHeartbeats 2000000 in
theorem same_calls (v1 v2 : Value) (c1 c2 : Nat) (xs ys : List Int) (w : World) (h1 : IS .i64 w v1 c1 xs) (h2 : IS .i64 w v2 c2 ys) : Calls Tryd.prog 19 #[v1, v2] w fun e w' => e = .returned (.int .i64 (sm xs ys)) ∧ Ext w w' := by
  have hcm := h1.n63
  have hcm2 := h2.n63
  obtain ⟨a1, n, d1, rfl, hn, rfl, hI1⟩ := h1.out
  obtain ⟨a2, m, d2, rfl, hm, rfl, hI2⟩ := h2.out
  rw [← hn] at hcm
  rw [← hm] at hcm2
  by_cases hnm : n = m
  · subst hnm
    have hbad : ∀ i, i < n → gi xs i ≠ gi ys i → sm xs ys = 1 := fun i hi hb => sm_ne (fun e => hb (by rw [e]))
    have hok : (∀ i, i < n → gi xs i = gi ys i) → sm xs ys = 0 := fun hg => sm_eq (gi_ext (by omega) (fun i hi => hg i (by omega)))
    obtain ⟨R, hR⟩ : ∃ R, R = sm xs ys := ⟨_, rfl⟩
    rw [← hR] at hbad hok ⊢
    have H1 := Lib.hid hI1; have H2 := Lib.hid hI2; have HBad := Lib.hid hbad; have HOk := Lib.hid hok
    clear hI1 hI2 h1 h2 hbad hok hR hn hm hcm2
    go_enter Tryd.func19, Tryd.ntmps19
    go_wp2
    go_loopw [5] (fun i wr => ∃ k : Nat, k ≤ n ∧ i = .int .i64 k ∧ Hid (Ext w wr) ∧ Hid (∀ i, i < k → gi xs i = gi ys i)) (fun i _ => n - (intOf i).toNat)
    case atStart => exact ⟨0, Nat.zero_le _, rfl, Lib.hid (Ext.refl w), Lib.hid (fun i hi => by omega)⟩
    case round =>
      obtain ⟨k, hk, rfl, Hx, HG⟩ := hrel
      by_cases hlt : k < n
      · obtain ⟨b, o, rfl, hc1⟩ := H1.out.at hlt
        obtain ⟨b', o', rfl, hc2⟩ := H2.out.at hlt
        replace hc1 := Hx.out.cell (hc1 k hlt)
        replace hc2 := Hx.out.cell (hc2 k hlt)
        have hbk := HBad.out k hlt
        have hnx : gi xs k = gi ys k → ∀ i, i < k + 1 → gi xs i = gi ys i := fun h0 i hi => by
          by_cases e : i = k
          · rw [e]; exact h0
          · exact HG.out i (by omega)
        generalize gi xs k = x at hc1 hbk hnx
        generalize gi ys k = y at hc2 hbk hnx
        have HBk := Lib.hid hbk; have HNx := Lib.hid hnx
        have t3 : (k : Int) < n := by omega
        have t7 : (0 : Int) ≤ (k : Int) := by omega
        clear hbk hnx
        by_cases hxy : x = y
        · have HN := Lib.hid (HNx.out hxy)
          have tq : (x != y) = false := by rw [bne, beq_iff_eq.2 hxy]; rfl
          clear HBk HNx hxy
          go_wp2
          go_quiet (fail)
          clear hc1 hc2
          go_wp2
          go_roundw
          case rel => exact ⟨k + 1, by omega, by go_num, Lib.hid (by first | exact Hx.out | exact (Hx.out.drewN _)), HN⟩
          case measure => simp [intOf]; omega
        · have HB := Lib.hid (HBk.out hxy)
          have tq : (x != y) = true := by rw [bne, beq_eq_false_iff_ne.2 hxy]; rfl
          clear HBk HNx hxy
          go_wp2
          go_quiet (fail)
          clear hc1 hc2
          go_wp2
          go_ret
          exact ⟨ret_int HB.out.symm, by first | exact Hx.out | exact (Hx.out.drewN _)⟩
      · obtain rfl : n = k := by omega
        have HR := Lib.hid (HOk.out HG.out)
        clear hlt hk
        go_wp2
        go_ret
        exact ⟨ret_int HR.out.symm, Hx.out⟩
  · have hr := Lib.hid (show sm xs ys = 1 from sm_ne (fun e => hnm (by rw [hn, hm, e])))
    have tq : ((n : Int) != (m : Int)) = true := by rw [bne, beq_eq_false_iff_ne.2 (by omega)]; rfl
    clear hn hm hI1 hI2 h1 h2 hnm
    go_enter Tryd.func19, Tryd.ntmps19
    go_wp2
    go_ret
    exact ⟨ret_int hr.out.symm, Ext.refl _⟩

/-- The sum of the widths but the first. -/
def area (l : List Int) : Nat → Int
  | 0 => 0
  | k + 1 => area l k + if k = 0 then 0 else gi l k
theorem area_bd {l : List Int} (hb : ∀ i, i < l.length → 0 ≤ gi l i ∧ gi l i ≤ 1000) : ∀ k, k ≤ l.length → 0 ≤ area l k ∧ area l k ≤ 1000 * k
  | 0, _ => by simp [area]
  | k + 1, h => by
    have := area_bd hb k (by omega)
    have := hb k (by omega)
    unfold area
    split <;> omega

set_option maxHeartbeats 2000000 in
theorem Area_calls (v : Value) (c : Nat) (l : List Int) (w : World) (h : IS .i64 w v c l) (hb : ∀ i, i < l.length → 0 ≤ gi l i ∧ gi l i ≤ 1000) (hl : l.length ≤ 1000) : Calls Tryd.prog 23 #[v] w fun e w' => e = .returned (.int .i64 (area l l.length)) ∧ Ext w w' := by
  obtain ⟨ao, n, c', rfl, hn, rfl, hIS⟩ := h.out
  have hbd := area_bd hb
  rw [← hn] at hb hbd hl ⊢
  have HI := Lib.hid hIS; have HB := Lib.hid hb; have HBd := Lib.hid hbd
  clear hIS h hn hb hbd
  go_enter Tryd.func23, Tryd.ntmps23
  go_wp2
  go_loopw [3, 4, 5, 8] (fun s _ _ i wr => ∃ k : Nat, k ≤ n ∧ i = .int .i64 k ∧ s = .int .i64 (area l k) ∧ Hid (Ext w wr)) (fun _ _ _ i _ => n - (intOf i).toNat)
  case atStart => exact ⟨0, Nat.zero_le _, rfl, rfl, Lib.hid (Ext.refl w)⟩
  case round =>
    obtain ⟨k, hk, rfl, rfl, Hx⟩ := hrel
    by_cases hlt : k < n
    · obtain ⟨b, o, rfl, hc1⟩ := HI.out.at hlt
      replace hc1 := Hx.out.cell (hc1 k hlt)
      have g1 := HB.out k hlt
      have g2 := HBd.out k (by omega)
      have hs : area l (k + 1) = area l k + if k = 0 then 0 else gi l k := rfl
      generalize gi l k = x at hc1 g1 hs
      generalize area l k = s at g2 hs ⊢
      by_cases k0 : k = 0
      · have HS := Lib.hid (show area l (k + 1) = s by rw [hs, if_pos k0]; omega)
        have t0 : ¬ (0 : Int) < (k : Int) := by omega
        clear hs k0
        go_wp2
        go_roundw
        case rel => exact ⟨k + 1, by omega, by go_num, by rw [HS.out], Hx⟩
        case measure => simp [intOf]; omega
      · have HS := Lib.hid (show area l (k + 1) = s + x by rw [hs, if_neg k0])
        have t0 : (0 : Int) < (k : Int) := by omega
        have t1 : IntKind.i64.wrap (s + x) = s + x := IntWalk.i64_in _ ⟨by omega, by omega⟩
        clear hs k0
        go_wp2
        go_roundw
        case rel => exact ⟨k + 1, by omega, by go_num, by rw [HS.out], Hx⟩
        case measure => simp [intOf]; omega
    · obtain rfl : n = k := by omega
      clear hlt hk
      go_wp2
      go_ret
      exact ⟨rfl, Hx.out⟩
end Go.Proofs.YtinijapkipeamaaDoor
/- shapes.ends, Centre; ganseyref19.Centre. -/
namespace Go.Proofs.YtinijapkipeamaaDoor
set_option linter.unusedVariables false
set_option linter.unusedSimpArgs false
set_option maxRecDepth 8000
open Go Go.RowKit

def odd (i : Nat) : Bool := decide (i % 2 = 1)
def endL (i : Nat) (m : Int) : Bool := if m = 2 ∨ m = -2 then true else if m = 1 ∨ m = -1 then odd i else false
def endR (i : Nat) (m : Int) : Bool := if m = 2 ∨ m = -2 then true else if m = 1 ∨ m = -1 then !odd i else false
def endF (m : Int) : FuncId := if m = 2 ∨ m = 1 then 47 else if m = -2 ∨ m = -1 then 48 else 46
theorem odd_ne (i : Nat) : ((i : Int) % 2 != 0) = odd i := by
  unfold odd
  by_cases h : i % 2 = 1
  · rw [bne, beq_eq_false_iff_ne.2 (by omega)]; simp [h]
  · rw [bne, beq_iff_eq.2 (by omega)]; simp [h]
theorem odd_eq (i : Nat) : ((i : Int) % 2 == 0) = !odd i := by
  unfold odd
  by_cases h : i % 2 = 1
  · rw [beq_eq_false_iff_ne.2 (by omega)]; simp [h]
  · rw [beq_iff_eq.2 (by omega)]; simp [h]
theorem ret_ends {a a' b b' : Bool} {f f' : FuncId} (h1 : a = a') (h2 : b = b') (h3 : f = f') : Ending.returned (.tuple #[.bool a, .bool b, .func (Fn.func f) #[] #[]]) = Ending.returned (.tuple #[.bool a', .bool b', .func (Fn.func f') #[] #[]]) := by rw [h1, h2, h3]

set_option maxHeartbeats 1000000 in
theorem ends_calls (i : Nat) (m : Int) (w : World) (hi : i ≤ 1000) : Calls Tryd.prog 33 #[.int .i64 i, .int .i64 m] w fun e w' => e = .returned (.tuple #[.bool (endL i m), .bool (endR i m), .func (Fn.func (endF m)) #[] #[]]) ∧ w = w' := by
  have p1 := odd_ne i
  have p2 := odd_eq i
  have e1 : endL i m = if m = 2 ∨ m = -2 then true else if m = 1 ∨ m = -1 then odd i else false := rfl
  have e2 : endR i m = if m = 2 ∨ m = -2 then true else if m = 1 ∨ m = -1 then !odd i else false := rfl
  have e3 : endF m = if m = 2 ∨ m = 1 then 47 else if m = -2 ∨ m = -1 then 48 else 46 := rfl
  generalize odd i = p at p1 p2 e1 e2
  generalize endL i m = L at e1 ⊢
  generalize endR i m = R at e2 ⊢
  generalize endF m = F at e3 ⊢
  by_cases h1 : m = 2
  · subst h1
    have E1 := Lib.hid (show true = L by rw [e1]; rfl); have E2 := Lib.hid (show true = R by rw [e2]; rfl); have E3 := Lib.hid (show 47 = F by rw [e3]; rfl)
    clear e1 e2 e3
    go_enter Tryd.func33, Tryd.ntmps33
    go_wp2
    exact bodyPost_ret (v := .tuple #[.bool true, .bool true, .func (Fn.func 47) #[] #[]]) (by simp [results, Tryd.results33, go_sem]) rfl ⟨ret_ends E1.out E2.out E3.out, rfl⟩
  by_cases h2 : m = 1
  · subst h2
    have E1 := Lib.hid (show p = L by rw [e1]; rfl); have E2 := Lib.hid (show (!p) = R by rw [e2]; rfl); have E3 := Lib.hid (show 47 = F by rw [e3]; rfl)
    clear e1 e2 e3
    go_enter Tryd.func33, Tryd.ntmps33
    go_wp2
    exact bodyPost_ret (v := .tuple #[.bool p, .bool (!p), .func (Fn.func 47) #[] #[]]) (by simp [results, Tryd.results33, go_sem]) rfl ⟨ret_ends E1.out E2.out E3.out, rfl⟩
  by_cases h3 : m = -2
  · subst h3
    have E1 := Lib.hid (show true = L by rw [e1]; rfl); have E2 := Lib.hid (show true = R by rw [e2]; rfl); have E3 := Lib.hid (show 48 = F by rw [e3]; rfl)
    clear e1 e2 e3
    go_enter Tryd.func33, Tryd.ntmps33
    go_wp2
    exact bodyPost_ret (v := .tuple #[.bool true, .bool true, .func (Fn.func 48) #[] #[]]) (by simp [results, Tryd.results33, go_sem]) rfl ⟨ret_ends E1.out E2.out E3.out, rfl⟩
  by_cases h4 : m = -1
  · subst h4
    have E1 := Lib.hid (show p = L by rw [e1]; rfl); have E2 := Lib.hid (show (!p) = R by rw [e2]; rfl); have E3 := Lib.hid (show 48 = F by rw [e3]; rfl)
    clear e1 e2 e3
    go_enter Tryd.func33, Tryd.ntmps33
    go_wp2
    exact bodyPost_ret (v := .tuple #[.bool p, .bool (!p), .func (Fn.func 48) #[] #[]]) (by simp [results, Tryd.results33, go_sem]) rfl ⟨ret_ends E1.out E2.out E3.out, rfl⟩
  · have E1 := Lib.hid (show false = L by rw [e1, if_neg (by omega), if_neg (by omega)]); have E2 := Lib.hid (show false = R by rw [e2, if_neg (by omega), if_neg (by omega)]); have E3 := Lib.hid (show 46 = F by rw [e3, if_neg (by omega), if_neg (by omega)])
    have q1 : (m == 2) = false := beq_eq_false_iff_ne.2 h1
    have q2 : (m == 1) = false := beq_eq_false_iff_ne.2 h2
    have q3 : (m == -2) = false := beq_eq_false_iff_ne.2 h3
    have q4 : (m == -1) = false := beq_eq_false_iff_ne.2 h4
    clear e1 e2 e3 h1 h2 h3 h4
    go_enter Tryd.func33, Tryd.ntmps33
    go_wp2
    exact bodyPost_ret (v := .tuple #[.bool false, .bool false, .func (Fn.func 46) #[] #[]]) (by simp [results, Tryd.results33, go_sem]) rfl ⟨ret_ends E1.out E2.out E3.out, rfl⟩

/-- How far the left edge has moved to the right behind some rows. -/
def edge (l : List Int) : Nat → Int
  | 0 => 0
  | k + 1 => edge l k + if endL k (gi l (k + 1) - gi l k) then (if 0 < gi l (k + 1) - gi l k then -1 else 1) else 0
theorem edge_bd (l : List Int) : ∀ k : Nat, -(k : Int) ≤ edge l k ∧ edge l k ≤ k
  | 0 => by simp [edge]
  | k + 1 => by
    have := edge_bd l k
    unfold edge
    repeat' split <;> omega
/-- Twice the distance of the middles. -/
def cent (l : List Int) : Int := 2 * edge l (l.length - 1) + gi l (l.length - 1) - gi l 0
theorem oerr_zero {l : List Int} (h : oerr l = 0) : l.length ≤ 32 ∧ 2 ≤ l.length ∧ l.length % 2 = 0 ∧ (∀ i, i < l.length → 2 ≤ gi l i ∧ gi l i ≤ 16) ∧ ∀ i, i + 1 < l.length → -2 ≤ gi l (i + 1) - gi l i ∧ gi l (i + 1) - gi l i ≤ 2 := by
  by_cases h1 : 32 < l.length
  · rw [oerr_long h1] at h; omega
  by_cases h2 : l.length % 2 ≠ 0 ∨ l.length < 2
  · rw [oerr_odd (by omega) h2] at h; omega
  have hg : ∀ i, i < l.length → 2 ≤ gi l i ∧ gi l i ≤ 16 := fun i hi => by
    by_cases h3 : gi l i < 2 ∨ 16 < gi l i
    · rw [oerr_out (by omega) h2 hi h3] at h; omega
    · omega
  refine ⟨by omega, by omega, by omega, hg, fun i hi => ?_⟩
  rw [oerr_in (by omega) h2 hg] at h
  cases hf : far (gi l i) (gi l (i + 1))
  · simp [far] at hf; omega
  · rw [jmp_bad hi hf] at h; omega

set_option maxHeartbeats 2000000 in
theorem Centre_calls (v : Value) (c : Nat) (l : List Int) (w : World) (h : IS .i64 w v c l) : Calls Tryd.prog 13 #[v] w fun e w' => e = .returned (.tuple #[.int .i64 (if oerr l = 0 then cent l else 0), .int .i64 (oerr l)]) ∧ Ext w w' := by
  have HC := Lib.hid (HCheck_calls v c l w h)
  obtain ⟨ao, n, c', rfl, hn, rfl, hIS⟩ := h.out
  by_cases he : oerr l = 0
  · obtain ⟨z1, z2, _, z3, z4⟩ := oerr_zero he
    rw [he] at HC ⊢
    rw [if_pos rfl]
    have hres : cent l = 2 * edge l (n - 1) + gi l (n - 1) - gi l 0 := by unfold cent; rw [hn]
    rw [← hn] at z1 z2 z3 z4
    obtain ⟨R, hR⟩ : ∃ R, R = cent l := ⟨_, rfl⟩
    rw [← hR] at hres ⊢
    have HI := Lib.hid hIS; have H3 := Lib.hid z3; have H4 := Lib.hid z4; have HR := Lib.hid hres
    clear hIS h z3 z4 hres hR hn he
    go_enter Tryd.func13, Tryd.ntmps13
    go_wp2_with fail
    refine HC.out.mono ?_
    rintro e w1 ⟨rfl, x1⟩
    have X1 := Lib.hid x1
    clear x1 HC
    go_wp2
    go_loopw [5, 6] (fun s i wr => ∃ k : Nat, k + 1 ≤ n ∧ i = .int .i64 ((k : Int) + 1) ∧ s = .int .i64 (edge l k) ∧ Hid (Ext w wr)) (fun _ i _ => n - (intOf i).toNat)
    case atStart => exact ⟨0, by omega, rfl, rfl, X1⟩
    case round =>
      obtain ⟨k, hk, rfl, rfl, Hy⟩ := hrel
      by_cases hlt : k + 1 < n
      · obtain ⟨b, o, rfl, hc1⟩ := HI.out.at hlt
        obtain ⟨b', o', hbo, hc2⟩ := HI.out.at (show k < n by omega)
        obtain ⟨rfl, rfl⟩ : b = b' ∧ o = o' := by simpa using hbo
        replace hc1 := Hy.out.cell (hc1 (k + 1) hlt); replace hc2 := Hy.out.cell (hc2 k (by omega))
        have g1 := H3.out k (by omega)
        have g2 := H3.out (k + 1) hlt
        have g3 := H4.out k hlt
        have hed := edge_bd l k
        have hst : edge l (k + 1) = edge l k + if endL k (gi l (k + 1) - gi l k) then (if 0 < gi l (k + 1) - gi l k then -1 else 1) else 0 := rfl
        have hnz : endL k (gi l (k + 1) - gi l k) = true → gi l (k + 1) - gi l k ≠ 0 := fun h0 e => by rw [e] at h0; simp [endL] at h0
        generalize gi l k = x at *
        generalize gi l (k + 1) = y at *
        have hap := fun w' => ends_calls k (y - x) w' (by omega)
        generalize hm : y - x = m at hap hst hnz g3
        generalize endR k m = r at hap
        generalize endF m = F at hap
        generalize endL k m = L at hap hst hnz
        generalize edge l k = E at *
        generalize hE : edge l (k + 1) = E' at hst
        have HAp := Lib.hid hap; have HSt := Lib.hid hst; have HNz := Lib.hid hnz; have HE := Lib.hid hE
        have t1 : (0 : Int) ≤ (k : Int) + 1 := by omega
        have t2 : ((k : Int) + 1).toNat = k + 1 := by omega
        have t3 : (k : Int) + 1 < n := by omega
        have t4 : IntKind.i64.wrap ((k : Int) + 1 - 1) = (k : Int) := by rw [show (k : Int) + 1 - 1 = k by omega]; exact IntWalk.i64_in _ ⟨by omega, by omega⟩
        have t5 : (k : Int) < n := by omega
        have t6 : IntKind.i64.wrap (k : Int) = (k : Int) := IntWalk.i64_in _ ⟨by omega, by omega⟩
        have t7 : (0 : Int) ≤ (k : Int) := by omega
        have t8 : IntKind.i64.wrap (y - x) = m := by rw [hm]; exact IntWalk.i64_in _ ⟨by omega, by omega⟩
        clear hap hst hnz hbo hm hE g1 g2
        go_wp2
        go_quiet (fail)
        clear hc1 hc2 t1 t2 t5 t6 t7 t8
        go_wp2_with fail
        refine (HAp.out _).mono ?_
        rintro e w2 ⟨rfl, hw2⟩
        have X2 : Hid (Ext w w2) := by rw [← hw2]; exact Lib.hid (by first | exact Hy.out | exact (Hy.out.drewN _))
        clear hw2 HAp
        cases L
        · have HS := Lib.hid (show edge l (k + 1) = E by rw [HE.out, HSt.out]; simp)
          clear HSt HNz HE
          go_wp2
          go_roundw
          case rel => exact ⟨k + 1, by omega, by go_num, by rw [HS.out], X2⟩
          case measure => simp [intOf]; omega
        · have hm0 := HNz.out rfl
          by_cases m1 : 0 < m
          · have HS := Lib.hid (show edge l (k + 1) = E - 1 by rw [HE.out, HSt.out, if_pos rfl, if_pos m1]; omega)
            have m2 : ¬ m < 0 := by omega
            clear HSt HNz HE hm0
            go_wp2
            go_roundw
            case rel => exact ⟨k + 1, by omega, by go_num, by rw [HS.out], X2⟩
            case measure => simp [intOf]; omega
          · have HS := Lib.hid (show edge l (k + 1) = E + 1 by rw [HE.out, HSt.out, if_pos rfl, if_neg m1])
            have m2 : m < 0 := by omega
            clear HSt HNz HE hm0
            go_wp2
            go_roundw
            case rel => exact ⟨k + 1, by omega, by go_num, by rw [HS.out], X2⟩
            case measure => simp [intOf]; omega
      · have hnk : n = k + 1 := by omega
        obtain ⟨b, o, rfl, hc1⟩ := HI.out.at (show k < n by omega)
        have hc0 := Hy.out.cell (hc1 0 (by omega))
        rw [Nat.add_zero] at hc0
        replace hc1 := Hy.out.cell (hc1 k (by omega))
        have g1 := H3.out 0 (by omega)
        have g2 := H3.out k (by omega)
        have hed := edge_bd l k
        have hr := HR.out
        rw [show n - 1 = k by omega] at hr
        generalize gi l 0 = x at *
        generalize gi l k = y at *
        generalize edge l k = E at *
        have Hr := Lib.hid hr
        clear hr HR
        have t0 : ¬ ((k : Int) + 1 < n) := by omega
        have t1 : (0 : Int) ≤ (n : Int) - 1 := by omega
        have t2 : ((n : Int) - 1).toNat = k := by omega
        have t3 : IntKind.i64.wrap ((n : Int) - 1) = (n : Int) - 1 := IntWalk.i64_in _ ⟨by omega, by omega⟩
        have t4 : (n : Int) - 1 < n := by omega
        have t5 : IntKind.i64.wrap (2 * E) = 2 * E := IntWalk.i64_in _ ⟨by omega, by omega⟩
        have t6 : IntKind.i64.wrap (2 * E + y) = 2 * E + y := IntWalk.i64_in _ ⟨by omega, by omega⟩
        have t7 : IntKind.i64.wrap (2 * E + y - x) = 2 * E + y - x := IntWalk.i64_in _ ⟨by omega, by omega⟩
        have t8 : (0 : Int) < n := by omega
        have t9 : (1 : Int) ≤ n := by omega
        clear hnk hlt
        go_wp2
        go_quiet (fail)
        go_wp2
        exact bodyPost_ret (v := .tuple #[.int .i64 (2 * E + y - x), .int .i64 0]) (by simp [results, Tryd.results13, go_sem]) rfl ⟨by rw [Hr.out], by first | exact Hy.out | exact (Hy.out.drewN _) | exact Hy.out.drew⟩
  · rw [if_neg he]
    have hq : (oerr l != 0) = true := by rw [bne, beq_eq_false_iff_ne.2 he]; rfl
    generalize oerr l = q at HC hq
    clear he hIS h hn
    go_enter Tryd.func13, Tryd.ntmps13
    go_wp2_with fail
    refine HC.out.mono ?_
    rintro e w1 ⟨rfl, x1⟩
    have X1 := Lib.hid x1
    clear x1 HC
    go_wp2
    exact bodyPost_ret (v := .tuple #[.int .i64 0, .int .i64 q]) (by simp [results, Tryd.results13, go_sem]) rfl ⟨rfl, X1.out⟩
end Go.Proofs.YtinijapkipeamaaDoor
/- ganseyref19.Centre. -/
namespace Go.Proofs.YtinijapkipeamaaDoor
set_option linter.unusedVariables false
set_option linter.unusedSimpArgs false
set_option maxRecDepth 8000
open Go Go.RowKit

set_option maxHeartbeats 2000000 in
theorem RCentre_calls (v : Value) (c : Nat) (l : List Int) (w : World) (h : IS .i64 w v c l) (he : oerr l = 0) : Calls Tryd.prog 16 #[v] w fun e w' => e = .returned (.int .i64 (cent l)) ∧ Ext w w' := by
  obtain ⟨ao, n, c', rfl, hn, rfl, hIS⟩ := h.out
  obtain ⟨z1, z2, z5, z3, z4⟩ := oerr_zero he
  have hres : cent l = 2 * edge l (n - 1) + gi l (n - 1) - gi l 0 := by unfold cent; rw [hn]
  rw [← hn] at z1 z2 z3 z4
  obtain ⟨R, hR⟩ : ∃ R, R = cent l := ⟨_, rfl⟩
  rw [← hR] at hres ⊢
  obtain ⟨b, o, rfl, hcs⟩ := hIS.at (show 0 < n by omega)
  have HCs := Lib.hid hcs; have H3 := Lib.hid z3; have H4 := Lib.hid z4; have HR := Lib.hid hres
  have hc0 := hcs 0 (by omega)
  rw [Nat.add_zero] at hc0
  have g0 := z3 0 (by omega)
  obtain ⟨x0, hx0⟩ : ∃ x0, x0 = gi l 0 := ⟨_, rfl⟩
  rw [← hx0] at hc0 g0
  have HX0 := Lib.hid hx0
  have t0 : (0 : Int) < n := by omega
  clear hIS h z3 z4 hres hR hn he hcs hx0 z5
  go_enter Tryd.func16, Tryd.ntmps16
  go_wp2
  go_quiet (fail)
  go_wp2
  go_loopw [3, 4, 5] (fun s r i wr => ∃ (k : Nat) (E Q : Int), k + 1 ≤ n ∧ i = .int .i64 (k : Int) ∧ s = .int .i64 E ∧ r = .int .i64 Q ∧ Hid (E = edge l k) ∧ Hid (Q = gi l k + edge l k) ∧ Hid (Ext w wr)) (fun _ _ i _ => n - (intOf i).toNat)
  case atStart => exact ⟨0, 0, x0, by omega, rfl, rfl, rfl, Lib.hid rfl, Lib.hid (by rw [HX0.out]; simp [edge]), Lib.hid (by first | exact Ext.refl _ | exact ((Ext.refl _).drewN _))⟩
  case round =>
    obtain ⟨k, E, Q, hk, rfl, rfl, rfl, HE, HQ, Hy⟩ := hrel
    have hed := edge_bd l k
    have g1 := H3.out k (by omega)
    have he := HE.out
    have hq := HQ.out
    by_cases hlt : k + 1 < n
    · have hc1 := Hy.out.cell (HCs.out (k + 1) hlt); have hc2 := Hy.out.cell (HCs.out k (by omega))
      have g2 := H3.out (k + 1) hlt
      have g3 := H4.out k hlt
      have hst : edge l (k + 1) = edge l k + if endL k (gi l (k + 1) - gi l k) then (if 0 < gi l (k + 1) - gi l k then -1 else 1) else 0 := rfl
      obtain ⟨Y, hY⟩ : ∃ Y, Y = gi l (k + 1) := ⟨_, rfl⟩
      obtain ⟨X, hX⟩ : ∃ X, X = gi l k := ⟨_, rfl⟩
      rw [← hX] at hc2 g1 g3 hst hq
      rw [← hY] at hc1 g2 g3 hst
      have HY := Lib.hid hY
      clear hY hX HE HQ
      rw [← he] at hq hed hst
      generalize hm : Y - X = m at hst g3
      have p2 := odd_eq k
      unfold endL at hst
      generalize odd k = p at p2 hst
      have HSt := Lib.hid hst; have HQ := Lib.hid hq
      have t1 : IntKind.i64.wrap ((k : Int) + 1) = (k : Int) + 1 := IntWalk.i64_in _ ⟨by omega, by omega⟩
      have t2 : ((k : Int) + 1).toNat = k + 1 := by omega
      have t3 : (k : Int) + 1 < n := by omega
      have t4 : (0 : Int) ≤ (k : Int) + 1 := by omega
      have t5 : (k : Int) < n := by omega
      have t7 : (0 : Int) ≤ (k : Int) := by omega
      have t8 : IntKind.i64.wrap (Y - X) = m := by rw [hm]; exact IntWalk.i64_in _ ⟨by omega, by omega⟩
      have hQb : -40 ≤ Q ∧ Q ≤ 60 := by omega
      have hm' := Lib.hid hm
      clear he hst hq hm
      by_cases m1 : m = 2
      · subst m1
        go_wp2
        go_quiet (fail)
        clear hc1 hc2 t1 t2 t4 t5 t7 t8 p2
        go_wp2
        go_roundw
        case rel => exact ⟨k + 1, _, _, by omega, by go_num, rfl, rfl, Lib.hid (by rw [HSt.out]; simp; try omega), Lib.hid (by rw [HSt.out, ← HY.out, HQ.out]; have := hm'.out; simp; omega), Lib.hid (by first | exact Hy.out | exact (Hy.out.drewN _))⟩
        case measure => simp [intOf]; omega
      by_cases m2 : m = -2
      · subst m2
        go_wp2
        go_quiet (fail)
        clear hc1 hc2 t1 t2 t4 t5 t7 t8 p2
        go_wp2
        go_roundw
        case rel => exact ⟨k + 1, _, _, by omega, by go_num, rfl, rfl, Lib.hid (by rw [HSt.out]; simp; try omega), Lib.hid (by rw [HSt.out, ← HY.out, HQ.out]; have := hm'.out; simp; omega), Lib.hid (by first | exact Hy.out | exact (Hy.out.drewN _))⟩
        case measure => simp [intOf]; omega
      have q1 : (m == 2) = false := beq_eq_false_iff_ne.2 m1
      have q2 : (m == -2) = false := beq_eq_false_iff_ne.2 m2
      have hst2 := HSt.out
      rw [show (if m = 2 ∨ m = -2 then true else if m = 1 ∨ m = -1 then p else false) = (if m = 1 ∨ m = -1 then p else false) from if_neg (by omega)] at hst2
      clear HSt
      cases p
      · have HS := Lib.hid (show edge l (k + 1) = E by rw [hst2]; simp)
        have t9 : IntKind.i64.wrap (Q + m) = Q + m := IntWalk.i64_in _ ⟨by omega, by omega⟩
        clear hst2 m1 m2
        go_wp2
        go_quiet (fail)
        clear hc1 hc2 t1 t2 t4 t5 t7 t8
        go_wp2
        go_roundw
        case rel => exact ⟨k + 1, _, _, by omega, by go_num, rfl, rfl, Lib.hid HS.out.symm, Lib.hid (by rw [HS.out, ← HY.out, HQ.out]; have := hm'.out; omega), Lib.hid (by first | exact Hy.out | exact (Hy.out.drewN _))⟩
        case measure => simp [intOf]; omega
      · have HS := Lib.hid (show edge l (k + 1) = E - m by
          by_cases e1 : m = 1
          · subst e1; rw [hst2]; simp; try omega
          by_cases e2 : m = -1
          · subst e2; rw [hst2]; simp
          · obtain rfl : m = 0 := by omega
            rw [hst2]; simp)
        have t9 : IntKind.i64.wrap (E - m) = E - m := IntWalk.i64_in _ ⟨by omega, by omega⟩
        clear hst2 m1 m2
        go_wp2
        go_quiet (fail)
        clear hc1 hc2 t1 t2 t4 t5 t7 t8
        go_wp2
        go_roundw
        case rel => exact ⟨k + 1, _, _, by omega, by go_num, rfl, rfl, Lib.hid HS.out.symm, Lib.hid (by rw [HS.out, ← HY.out, HQ.out]; have := hm'.out; omega), Lib.hid (by first | exact Hy.out | exact (Hy.out.drewN _))⟩
        case measure => simp [intOf]; omega
    · have hnk : n = k + 1 := by omega
      have hr := HR.out
      rw [show n - 1 = k by omega, ← HX0.out] at hr
      have hfin : R = E + Q - x0 := by omega
      have HF := Lib.hid hfin
      replace hc0 := Hy.out.cell hc0
      have t1 : ¬ ((k : Int) + 1 < n) := by omega
      have t5 : IntKind.i64.wrap (E + Q) = E + Q := IntWalk.i64_in _ ⟨by omega, by omega⟩
      have t6 : IntKind.i64.wrap (E + Q - x0) = E + Q - x0 := IntWalk.i64_in _ ⟨by omega, by omega⟩
      clear hnk hlt hfin hr he hq HE HQ
      go_wp2
      go_ret
      exact ⟨ret_int HF.out.symm, by first | exact Hy.out | exact (Hy.out.drewN _)⟩
end Go.Proofs.YtinijapkipeamaaDoor
/- shapes.Slope. -/
namespace Go.Proofs.YtinijapkipeamaaDoor
set_option linter.unusedVariables false
set_option linter.unusedSimpArgs false
set_option maxRecDepth 8000
open Go Go.RowKit

/-- The width of a slope behind i of N rows. -/
def sl (f t : Int) (N i : Nat) : Int := (2 * (f * N + (t - f) * i) + N) / (2 * N)
def smk (f t : Int) (N : Nat) : List Int := (List.range (N + 1)).map (sl f t N)
/-- The error of a slope. -/
def serr (f t r : Int) : Int := if f < 2 ∨ 16 < f ∨ t < 2 ∨ 16 < t ∨ r < 1 ∨ 31 < r then 1 else jmp (smk f t r.toNat)
def sres (f t r : Int) : List Int := if serr f t r = 0 then smk f t r.toNat else []
theorem sl_pr {f t : Int} {N i : Nat} (hf : 2 ≤ f ∧ f ≤ 16) (ht : 2 ≤ t ∧ t ≤ 16) (hi : i ≤ N) : 2 * (N : Int) ≤ f * N + (t - f) * i ∧ f * N + (t - f) * i ≤ 16 * N ∧ 0 ≤ f * N ∧ f * N ≤ 16 * N ∧ -(14 * N) ≤ (t - f) * i ∧ (t - f) * i ≤ 14 * N := by
  obtain ⟨j, hj⟩ : ∃ j : Nat, N = i + j := ⟨N - i, by omega⟩
  subst hj
  have e1 : f * ((i + j : Nat) : Int) = f * i + f * j := by rw [Int.natCast_add, Int.mul_add]
  have e2 : (t - f) * (i : Int) = t * i - f * i := Int.sub_mul _ _ _
  have a1 := Int.mul_le_mul_of_nonneg_right hf.1 (show (0 : Int) ≤ i by omega)
  have a2 := Int.mul_le_mul_of_nonneg_right hf.2 (show (0 : Int) ≤ i by omega)
  have a3 := Int.mul_le_mul_of_nonneg_right hf.1 (show (0 : Int) ≤ j by omega)
  have a4 := Int.mul_le_mul_of_nonneg_right hf.2 (show (0 : Int) ≤ j by omega)
  have a5 := Int.mul_le_mul_of_nonneg_right ht.1 (show (0 : Int) ≤ i by omega)
  have a6 := Int.mul_le_mul_of_nonneg_right ht.2 (show (0 : Int) ≤ i by omega)
  rw [e1, e2]
  omega
theorem sl_iff {f t : Int} {N i : Nat} (hN : 1 ≤ N) (x : Int) : x ≤ sl f t N i ↔ x * (2 * N) ≤ 2 * (f * N + (t - f) * i) + N := by
  unfold sl
  exact Int.le_ediv_iff_mul_le (by omega)
theorem sl_bd {f t : Int} {N i : Nat} (hf : 2 ≤ f ∧ f ≤ 16) (ht : 2 ≤ t ∧ t ≤ 16) (hN : 1 ≤ N) (hi : i ≤ N) : 2 ≤ sl f t N i ∧ sl f t N i ≤ 16 := by
  have h := sl_pr hf ht hi
  constructor
  · rw [sl_iff hN]; omega
  · rcases Int.lt_or_le 16 (sl f t N i) with h' | h'
    · have : 17 ≤ sl f t N i := by omega
      rw [sl_iff hN] at this; omega
    · exact h'
theorem smk_len (f t : Int) (N : Nat) : (smk f t N).length = N + 1 := by simp [smk]
theorem smk_gi {f t : Int} {N i : Nat} (hi : i ≤ N) : gi (smk f t N) i = sl f t N i := gi_range_map _ (by omega)

set_option maxHeartbeats 2000000 in
theorem Slope_calls (f t r : Int) (w : World) : Calls Tryd.prog 17 #[.int .i64 f, .int .i64 t, .int .i64 r] w (RetIE .i64 w (sres f t r).length (sres f t r) (serr f t r)) := by
  by_cases hv : f < 2 ∨ 16 < f ∨ t < 2 ∨ 16 < t ∨ r < 1 ∨ 31 < r
  · have he : serr f t r = 1 := by unfold serr; rw [if_pos hv]
    have hs : sres f t r = [] := by unfold sres; rw [if_neg (by omega)]
    rw [he, hs]
    have hend : RetIE .i64 w ([] : List Int).length [] 1 (.returned (.tuple #[.slice none 0 0, .int .i64 1])) w := ⟨_, rfl, IS.nil _ _, Ext.refl w⟩
    have HE := Lib.hid hend
    clear hend he hs
    by_cases v1 : f < 2
    · clear hv
      go_enter Tryd.func17, Tryd.ntmps17
      go_wp2
      go_ret2
      exact HE.out
    by_cases v2 : 16 < f
    · clear hv
      go_enter Tryd.func17, Tryd.ntmps17
      go_wp2
      go_ret2
      exact HE.out
    by_cases v3 : t < 2
    · clear hv
      go_enter Tryd.func17, Tryd.ntmps17
      go_wp2
      go_ret2
      exact HE.out
    by_cases v4 : 16 < t
    · clear hv
      go_enter Tryd.func17, Tryd.ntmps17
      go_wp2
      go_ret2
      exact HE.out
    by_cases v5 : r < 1
    · clear hv
      go_enter Tryd.func17, Tryd.ntmps17
      go_wp2
      go_ret2
      exact HE.out
    · have v6 : 31 < r := by omega
      clear hv
      go_enter Tryd.func17, Tryd.ntmps17
      go_wp2
      go_ret2
      exact HE.out
  · have he : serr f t r = jmp (smk f t r.toNat) := by unfold serr; rw [if_neg hv]
    obtain ⟨N, rfl⟩ : ∃ N : Nat, r = N := ⟨r.toNat, by omega⟩
    rw [Int.toNat_natCast] at he
    have hf : 2 ≤ f ∧ f ≤ 16 := by omega
    have ht : 2 ≤ t ∧ t ≤ 16 := by omega
    have hN : 1 ≤ N ∧ N ≤ 31 := by omega
    clear hv
    obtain ⟨M, hM⟩ : ∃ M : Nat, M = N + 1 := ⟨_, rfl⟩
    have hbd := fun i (hi : i < M) => sl_bd (i := i) hf ht hN.1 (by omega)
    have hpr := fun i (hi : i < M) => sl_pr (N := N) (i := i) hf ht (by omega)
    have hbad : ∀ i, i + 1 < M → far (sl f t N i) (sl f t N (i + 1)) = true → ∀ w', Ext w w' → RetIE .i64 w (sres f t N).length (sres f t N) (serr f t N) (.returned (.tuple #[.slice none 0 0, .int .i64 14])) w' := fun i hi hb w' x => by
      have e14 : serr f t N = 14 := by
        rw [he]
        refine jmp_bad (i := i) (by rw [smk_len]; omega) ?_
        rw [smk_gi (by omega), smk_gi (by omega)]
        exact hb
      have hs : sres f t N = [] := by unfold sres; rw [if_neg (by omega)]
      rw [e14, hs]
      exact ⟨_, rfl, IS.nil _ _, x⟩
    have hok : ∀ g w', (∀ i, i + 1 < M → far (sl f t N i) (sl f t N (i + 1)) = false) → w'.rowIs w.heap.size 3 M g → (∀ i, i < M → g i = .int .i64 (sl f t N i)) → Ext w w' → RetIE .i64 w (sres f t N).length (sres f t N) (serr f t N) (.returned (.tuple #[.slice (some ⟨w.heap.size, 0, none⟩) M M, .int .i64 0])) w' := fun g w' hg hr hgi x => by
      have e0 : serr f t N = 0 := by
        rw [he]
        refine jmp_ok (fun i hi => ?_)
        rw [smk_len] at hi
        rw [smk_gi (by omega), smk_gi (by omega)]
        exact hg i (by omega)
      have hs : sres f t N = smk f t N := by unfold sres; rw [if_pos e0, Int.toNat_natCast]
      have hl : (smk f t N).length = M := by rw [smk_len, hM]
      rw [e0, hs, hl]
      exact ⟨_, rfl, IS.of_row hr hl.symm (by unfold maxLen; omega) (fun i hi => by rw [hgi i hi, smk_gi (by omega)]), x⟩
    have hmk := run_make_row' (P := Tryd.prog) 22 3 (.int .i64 0) 8 Tryd.underlying22 (by kernel_rfl) rfl .i64 .i64 M (by omega) (by omega)
    have HBd := Lib.hid hbd; have HPr := Lib.hid hpr; have HBad := Lib.hid hbad; have HOk := Lib.hid hok
    have tM : IntKind.i64.wrap ((N : Int) + 1) = (M : Int) := by rw [show (N : Int) + 1 = M by omega]; exact IntWalk.i64_in _ ⟨by omega, by omega⟩
    have tN : (M : Int) = (N : Int) + 1 := by omega
    have HtN := Lib.hid tN
    have HMN := Lib.hid hM
    obtain ⟨f1, f2⟩ := hf; obtain ⟨t1, t2⟩ := ht; obtain ⟨n1, n2⟩ := hN
    have m1 : M ≤ 32 := by omega
    have u1 : ¬ f < 2 := by omega
    have u2 : ¬ 16 < f := by omega
    have u3 : ¬ t < 2 := by omega
    have u4 : ¬ 16 < t := by omega
    have u5 : ¬ (N : Int) < 1 := by omega
    have u6 : ¬ 31 < (N : Int) := by omega
    clear hbd hpr hbad hok he tN hM
    go_enter Tryd.func17, Tryd.ntmps17
    go_wp2
    clear hmk tM
    go_loopw [9, 10, 38] (fun _ _ i wr => ∃ k : Nat, k ≤ M ∧ i = .int .i64 k ∧ Hid (Ext w wr) ∧ Hid (∀ j, j + 1 < k → far (sl f t N j) (sl f t N (j + 1)) = false) ∧ Hid (∃ g, wr.rowIs w.heap.size 3 M g ∧ ∀ j, j < k → g j = .int .i64 (sl f t N j))) (fun _ _ i _ => M - (intOf i).toNat)
    case atStart => exact ⟨0, Nat.zero_le _, rfl, Lib.hid ((Ext.refl w).alloc _), Lib.hid (fun j hj => by omega), Lib.hid ⟨_, World.rowIs_made _ _ _ _, fun j hj => by omega⟩⟩
    case round =>
      obtain ⟨k, hk, rfl, Hx, HG, HR⟩ := hrel
      by_cases hlt : k < M
      · obtain ⟨g, hrow, hg⟩ := HR.out
        have hfz := hrow.frozen k
        have hst := hrow.cell (i := k) hlt
        obtain ⟨p1, p2, p3, p4, p5, p6⟩ := HPr.out k hlt
        have hb := HBd.out k hlt
        have hN2 := HtN.out
        have hdiv : Int.tdiv (2 * (f * N + (t - f) * k) + N) (2 * N) = sl f t N k := by
          unfold sl; exact Int.tdiv_eq_ediv_of_nonneg (by omega)
        have hrow2 := hrow.set k (.int .i64 (sl f t N k))
        have hg2 : ∀ j, j < k + 1 → (if j = k then (.int .i64 (sl f t N k)) else g j) = .int .i64 (sl f t N j) := fun j hj => by
          by_cases e : j = k
          · rw [if_pos e, e]
          · rw [if_neg e]; exact hg j (by omega)
        have hext : Ext w (wr.setCell ⟨w.heap.size, k, none⟩ (.int .i64 (sl f t N k))) := Hx.out.setCell (Nat.le_refl _) _
        have w1 : IntKind.i64.wrap (f * N) = f * N := IntWalk.i64_in _ ⟨by omega, by omega⟩
        have w2 : IntKind.i64.wrap (t - f) = t - f := IntWalk.i64_in _ ⟨by omega, by omega⟩
        have w3 : IntKind.i64.wrap ((t - f) * k) = (t - f) * k := IntWalk.i64_in _ ⟨by omega, by omega⟩
        have w4 : IntKind.i64.wrap (f * N + (t - f) * k) = f * N + (t - f) * k := IntWalk.i64_in _ ⟨by omega, by omega⟩
        have w5 : IntKind.i64.wrap (2 * (f * N + (t - f) * k)) = 2 * (f * N + (t - f) * k) := IntWalk.i64_in _ ⟨by omega, by omega⟩
        have w6 : IntKind.i64.wrap (2 * (f * N + (t - f) * k) + N) = 2 * (f * N + (t - f) * k) + N := IntWalk.i64_in _ ⟨by omega, by omega⟩
        have w7 : IntKind.i64.wrap (2 * (N : Int)) = 2 * N := IntWalk.i64_in _ ⟨by omega, by omega⟩
        have w8 : IntKind.i64.wrap (sl f t N k) = sl f t N k := IntWalk.i64_in _ ⟨by omega, by omega⟩
        have w9 : (2 * (N : Int) == 0) = false := by rw [beq_eq_false_iff_ne]; omega
        have HN := Lib.hid (show ∃ g, (wr.setCell ⟨w.heap.size, k, none⟩ (.int .i64 (sl f t N k))).rowIs w.heap.size 3 M g ∧ ∀ j, j < k + 1 → g j = .int .i64 (sl f t N j) from ⟨_, hrow2, hg2⟩)
        have HX := Lib.hid hext
        by_cases k0 : k = 0
        · have HG2 := Lib.hid (show ∀ j, j + 1 < k + 1 → far (sl f t N j) (sl f t N (j + 1)) = false from fun j hj => by omega)
          have q0 : ¬ (0 : Int) < (k : Int) := by omega
          have q8 : ¬ 0 < k := by omega
          clear HR hrow hg hrow2 hg2 hext hN2 p1 p2 p3 p4 p5 p6 hb k0 HG
          generalize sl f t N k = S at *
          go_wp2
          go_quiet (fail)
          clear w1 w2 w3 w4 w5 w6 w7 w8 w9 hdiv hst hfz
          go_wp2
          go_roundw
          case rel => exact ⟨k + 1, by omega, by go_num, Lib.hid (by first | exact HX.out | exact HX.out.drewN _), HG2, Lib.hid (by obtain ⟨g, h1, h2⟩ := HN.out; exact ⟨g, by first | exact h1 | exact h1.drewN _ | exact h1.drew, h2⟩)⟩
          case measure => simp [intOf]; omega
        · have q0 : (0 : Int) < (k : Int) := by omega
          have q1 : (0 : Int) ≤ (k : Int) - 1 := by omega
          have q2 : ((k : Int) - 1).toNat = k - 1 := by omega
          have q3 : IntKind.i64.wrap ((k : Int) - 1) = (k : Int) - 1 := IntWalk.i64_in _ ⟨by omega, by omega⟩
          have q4 : (k : Int) - 1 < M := by omega
          have q5 : (1 : Int) ≤ (k : Int) := by omega
          have q6 : (0 : Int) ≤ (k : Int) := by omega
          have q7 : (k : Int) < M := by omega
          have q8 : 0 < k := by omega
          have hb1 := HBd.out (k - 1) (by omega)
          have c1 := hrow2.cell (i := k - 1) (by omega)
          have c2 := hrow2.cell (i := k) hlt
          rw [hg2 (k - 1) (by omega)] at c1
          rw [if_pos rfl] at c2
          have hap := fun w' => apart_calls (sl f t N (k - 1)) (sl f t N k) w' (by omega) (by omega)
          have hbk := HBad.out (k - 1) (by omega)
          rw [show k - 1 + 1 = k by omega] at hbk
          have hnx : far (sl f t N (k - 1)) (sl f t N k) = false → ∀ j, j + 1 < k + 1 → far (sl f t N j) (sl f t N (j + 1)) = false := fun h0 j hj => by
            by_cases e : j = k - 1
            · rw [e, show k - 1 + 1 = k by omega]; exact h0
            · exact HG.out j (by omega)
          generalize far (sl f t N (k - 1)) (sl f t N k) = q at hap hbk hnx
          have HAp := Lib.hid hap; have HBk := Lib.hid hbk; have HNx := Lib.hid hnx
          clear HR hrow hg hrow2 hg2 hext hN2 p1 p2 p3 p4 p5 p6 hb k0 HG hap hbk hnx hb1
          generalize sl f t N k = S at *
          generalize sl f t N (k - 1) = Y at *
          go_wp2
          go_quiet ((go_at_call 34; exact Calls.quiet_of_same ((HAp.out _).mono fun _ _ ⟨he, hw⟩ => ⟨he, hw.symm⟩)))
          clear w1 w2 w3 w4 w5 w6 w7 w8 w9 hdiv hst hfz c1 c2 q1 q2 q3 q4 q5 q6 q7 HAp
          cases hq : q
          · have HG2 := Lib.hid (HNx.out hq)
            clear HBk HNx hq
            go_wp2
            go_roundw
            case rel => exact ⟨k + 1, by omega, by go_num, Lib.hid (by first | exact HX.out | exact HX.out.drewN _), HG2, Lib.hid (by obtain ⟨g, h1, h2⟩ := HN.out; exact ⟨g, by first | exact h1 | exact h1.drewN _ | exact h1.drew, h2⟩)⟩
            case measure => simp [intOf]; omega
          · have HB := Lib.hid (HBk.out hq)
            clear HBk HNx hq
            go_wp2
            go_ret2
            exact HB.out _ (by first | exact HX.out | exact HX.out.drewN _)
      · obtain rfl : M = k := by omega
        obtain ⟨g, hrow, hg⟩ := HR.out
        have HF := Lib.hid (HOk.out g wr HG.out hrow hg Hx.out)
        clear hlt hk hrow hg HR
        go_wp2
        go_ret2
        exact HF.out
end Go.Proofs.YtinijapkipeamaaDoor
/- ganseyref19.Slope. -/
namespace Go.Proofs.YtinijapkipeamaaDoor
set_option linter.unusedVariables false
set_option linter.unusedSimpArgs false
set_option maxRecDepth 8000
open Go Go.RowKit

/-- A slice of numbers of some capacity, and an error. -/
def RetAE (w0 : World) (xs : List Int) (err : Int) (e : Ending) (w' : World) : Prop := ∃ v c, e = .returned (.tuple #[v, .int .i64 err]) ∧ IS .i64 w' v c xs ∧ Ext w0 w'
def mn (S : Int) (j : Nat) : Int := if S ≤ j then S else j
def smT (f t : Int) (N k : Nat) : List Int := (List.range k).map (sl f t N)
theorem smT_succ (f t : Int) (N k : Nat) : (smT f t N (k + 1)).map (Value.int .i64) = (smT f t N k).map (Value.int .i64) ++ [.int .i64 (sl f t N k)] := by
  unfold smT; rw [List.range_succ]; simp
theorem smT_len (f t : Int) (N k : Nat) : (smT f t N k).length = k := by simp [smT]

set_option maxHeartbeats 2000000 in
theorem RSlope_calls (f t : Int) (N : Nat) (w : World) (hf : 2 ≤ f ∧ f ≤ 16) (ht : 2 ≤ t ∧ t ≤ 16) (hN : 1 ≤ N ∧ N ≤ 31) : Calls Tryd.prog 18 #[.int .i64 f, .int .i64 t, .int .i64 N] w (RetAE w (sres f t N) (serr f t N)) := by
  have he : serr f t N = jmp (smk f t N) := by unfold serr; rw [if_neg (by omega), Int.toNat_natCast]
  have hs : sres f t N = if serr f t N = 0 then smk f t N else [] := by unfold sres; rw [Int.toNat_natCast]
  have hJ : ∀ w' v c, IS .i64 w' v c (smk f t N) → Calls Tryd.prog 32 #[v] w' fun e w'' => e = .returned (.int .i64 (serr f t N)) ∧ Ext w' w'' := fun w' v c h => by
    rw [he]
    refine Jumps_calls v c _ w' h (fun i hi => ?_)
    rw [smk_len] at hi
    rw [smk_gi (by omega)]
    have := sl_bd (i := i) hf ht hN.1 (by omega)
    omega
  have hbd := fun i (hi : i ≤ N) => sl_bd (i := i) hf ht hN.1 hi
  have hpr := fun i (hi : i ≤ N) => sl_pr (N := N) (i := i) hf ht hi
  have hif := fun i (x : Int) => sl_iff (f := f) (t := t) (i := i) hN.1 x
  have hend : ∀ w' v c, IS .i64 w' v c (smk f t N) → Ext w w' → serr f t N = 0 → RetAE w (sres f t N) (serr f t N) (.returned (.tuple #[v, .int .i64 0])) w' := fun w' v c h x e0 => by
    rw [hs, if_pos e0, e0]; exact ⟨v, c, rfl, h, x⟩
  have hbad : ∀ w', Ext w w' → serr f t N ≠ 0 → RetAE w (sres f t N) (serr f t N) (.returned (.tuple #[.slice none 0 0, .int .i64 14])) w' := fun w' x e0 => by
    have e14 : serr f t N = 14 := by rw [he] at e0 ⊢; unfold jmp at e0 ⊢; split at e0 <;> simp_all
    rw [hs, if_neg e0, e14]; exact ⟨_, 0, rfl, IS.nil _ _, x⟩
  have HJ := Lib.hid hJ; have HBd := Lib.hid hbd; have HPr := Lib.hid hpr; have HIf := Lib.hid hif; have HE := Lib.hid hend; have HB := Lib.hid hbad
  obtain ⟨f1, f2⟩ := hf; obtain ⟨t1, t2⟩ := ht; obtain ⟨n1, n2⟩ := hN
  clear hJ hbd hpr hif hend hbad he hs
  go_enter Tryd.func18, Tryd.ntmps18
  go_wp2
  go_loopw [8, 9, 10, 11] (fun v i _ _ wr => ∃ k : Nat, k ≤ N + 1 ∧ i = .int .i64 k ∧ Hid (wr.ownsRow w.heap.size 3 1 v k ((smT f t N k).map (Value.int .i64)) ∧ Ext w wr)) (fun _ i _ _ _ => N + 1 - (intOf i).toNat)
  case atStart => exact ⟨0, Nat.zero_le _, rfl, Lib.hid ⟨World.ownsRow_nil _ _ _ _, Ext.refl _⟩⟩
  case round =>
    obtain ⟨k, hk, rfl, H⟩ := hrel
    by_cases hlt : k ≤ N
    · obtain ⟨p1, p2, p3, p4, p5, p6⟩ := HPr.out k hlt
      obtain ⟨s1, s2⟩ := HBd.out k hlt
      have hif := HIf.out k
      have hsn := smT_succ f t N k
      generalize sl f t N k = S at *
      have HIf2 := Lib.hid hif; have HSn := Lib.hid hsn
      have e1 : (2 * (N : Int)) * f = 2 * (f * N) := by rw [Int.mul_assoc, Int.mul_comm (N : Int) f]
      have e2 : (2 * (t - f)) * (k : Int) = 2 * ((t - f) * k) := Int.mul_assoc _ _ _
      have E1 := Lib.hid e1; have E2 := Lib.hid e2
      have w1 : IntKind.i64.wrap (2 * (N : Int)) = 2 * N := IntWalk.i64_in _ ⟨by omega, by omega⟩
      have w2 : IntKind.i64.wrap ((2 * (N : Int)) * f) = (2 * (N : Int)) * f := IntWalk.i64_in _ ⟨by omega, by omega⟩
      have w3 : IntKind.i64.wrap (t - f) = t - f := IntWalk.i64_in _ ⟨by omega, by omega⟩
      have w4 : IntKind.i64.wrap (2 * (t - f)) = 2 * (t - f) := IntWalk.i64_in _ ⟨by omega, by omega⟩
      have w5 : IntKind.i64.wrap ((2 * (t - f)) * (k : Int)) = (2 * (t - f)) * (k : Int) := IntWalk.i64_in _ ⟨by omega, by omega⟩
      have w6 : IntKind.i64.wrap ((2 * (N : Int)) * f + (2 * (t - f)) * (k : Int)) = (2 * (N : Int)) * f + (2 * (t - f)) * (k : Int) := IntWalk.i64_in _ ⟨by omega, by omega⟩
      have w7 : IntKind.i64.wrap ((2 * (N : Int)) * f + (2 * (t - f)) * (k : Int) + N) = (2 * (N : Int)) * f + (2 * (t - f)) * (k : Int) + N := IntWalk.i64_in _ ⟨by omega, by omega⟩
      have k1 : (k : Int) ≤ N := by omega
      clear hif hsn e1 e2
      go_wp2
      go_loop [10, 11] (fun b x => ∃ j : Nat, j ≤ 17 ∧ x = .int .i64 ((j : Int) + 1) ∧ b = .int .i64 (mn S j)) (fun _ x => 19 - (intOf x).toNat)
      case atStart => exact ⟨0, by omega, rfl, by unfold mn; rw [if_neg (by omega)]; rfl⟩
      case round =>
        obtain ⟨j, hj, rfl, rfl⟩ := hrel
        by_cases hj2 : j < 17
        · have j1 : (j : Int) + 1 ≤ 17 := by omega
          have hi := HIf2.out ((j : Int) + 1)
          have hz : (2 * (N : Int)) * ((j : Int) + 1) = ((j : Int) + 1) * (2 * N) := Int.mul_comm _ _
          have hzb : 0 ≤ (2 * (N : Int)) * ((j : Int) + 1) ∧ (2 * (N : Int)) * ((j : Int) + 1) ≤ (2 * (N : Int)) * 17 := ⟨Int.mul_nonneg (by omega) (by omega), Int.mul_le_mul_of_nonneg_left j1 (by omega)⟩
          have w8 : IntKind.i64.wrap ((2 * (N : Int)) * ((j : Int) + 1)) = (2 * (N : Int)) * ((j : Int) + 1) := IntWalk.i64_in _ ⟨by omega, by omega⟩
          by_cases hc : (j : Int) + 1 ≤ S
          · have c1 : (2 * (N : Int)) * ((j : Int) + 1) ≤ (2 * (N : Int)) * f + (2 * (t - f)) * (k : Int) + N := by
              have := hi.1 hc; have := E1.out; have := E2.out; omega
            have hm := Lib.hid (show (j : Int) + 1 = mn S (j + 1) by unfold mn; split <;> omega)
            clear hi hz hzb
            go_wp2
            go_round
            case rel => exact ⟨j + 1, by omega, by go_num, by rw [← hm.out]⟩
            case measure => simp [intOf]; omega
          · have c1 : ¬ (2 * (N : Int)) * ((j : Int) + 1) ≤ (2 * (N : Int)) * f + (2 * (t - f)) * (k : Int) + N := fun h => by
              apply hc; rw [hi]; have := E1.out; have := E2.out; omega
            have hm := Lib.hid (show mn S j = mn S (j + 1) by unfold mn; rw [if_pos (by omega), if_pos (by omega)])
            clear hi hz hzb
            go_wp2
            go_round
            case rel => exact ⟨j + 1, by omega, by go_num, by rw [← hm.out]⟩
            case measure => simp [intOf]; omega
        · obtain rfl : j = 17 := by omega
          have hm : mn S 17 = S := by unfold mn; rw [if_pos (by omega)]
          rw [hm]
          clear hm hj2 w1 w2 w3 w4 w5 w6 w7
          have hsz := H.out.2.size
          go_wp2_with (at_builtin; refine app_own eiInt rfl _ _ rfl w.heap.size _ k _ rfl (H.out.1.alloc _) _ _ _ rfl (VS.one _ _ _) (one1 _) ?d1 ?d2 ?d3 ?_)
          any_goals (first | omega | (simp; done) | (simp only [List.length_cons, List.length_nil]; omega) | (simp; omega))
          intro v' w' hown hbel
          have HO := Lib.hid (And.intro hown hbel)
          clear hown hbel
          go_wp2
          go_roundw
          case rel =>
            refine ⟨k + 1, by omega, by go_num, Lib.hid ⟨?_, Below.trans (H.out.2.alloc _) HO.out.2⟩⟩
            rw [HSn.out]
            exact HO.out.1
          case measure => simp [intOf]; omega
    · obtain rfl : k = N + 1 := by omega
      obtain ⟨c, hI⟩ := IS.of_own (k := .i64) H.out.1
      have hX := H.out.2
      have hcall := HJ.out wr _ c hI
      have hE := fun w' (x : Ext wr w') => HE.out w' _ c (hI.ext x) (hX.trans x)
      have hB := fun w' (x : Ext wr w') => HB.out w' (hX.trans x)
      obtain ⟨q, hq'⟩ : ∃ q, q = serr f t N := ⟨_, rfl⟩
      rw [← hq'] at hcall hE hB
      have HQ := Lib.hid hq'
      clear hq'
      have HC := Lib.hid hcall; have HE2 := Lib.hid hE; have HB2 := Lib.hid hB
      have k1 : ¬ ((N : Int) + 1 ≤ N) := by omega
      clear hcall hE hB hI hX H HE HB HJ HBd HPr HIf
      go_wp2_with fail
      refine HC.out.mono ?_
      rintro e w1 ⟨rfl, x1⟩
      have X1 := Lib.hid x1
      clear x1 HC
      by_cases hq : q = 0
      · have tq : (q != 0) = false := by rw [bne, beq_iff_eq.2 hq]; rfl
        have HF := Lib.hid (HE2.out _ X1.out hq)
        clear hq HE2 HB2
        go_wp2
        go_ret2
        have h := HF.out
        rw [HQ.out] at h
        exact h
      · have tq : (q != 0) = true := by rw [bne, beq_eq_false_iff_ne.2 hq]; rfl
        have HF := Lib.hid (HB2.out _ X1.out hq)
        clear hq HE2 HB2
        go_wp2
        go_ret2
        have h := HF.out
        rw [HQ.out] at h
        exact h
end Go.Proofs.YtinijapkipeamaaDoor
/- shapes.kinds, count. -/
namespace Go.Proofs.YtinijapkipeamaaDoor
set_option linter.unusedVariables false
set_option linter.unusedSimpArgs false
set_option maxRecDepth 8000
open Go Go.RowKit

/-- A row of the call's own is returned. -/
def RetRO (w0 : World) (l : List St) (e : Ending) (w' : World) : Prop := ∃ g c n, e = .returned (.slice (some ⟨g, 0, none⟩) n c) ∧ n = l.length ∧ w0.heap.size ≤ g ∧ RO w' g c l ∧ Ext w0 w'
def kst (k : Int) : St := ⟨k, 0, 0, 0, false⟩
/-- The first j of n are of a kind. -/
def ksl (k : Int) (n j : Nat) : List St := (List.range n).map fun i => if i < j then kst k else St.none
theorem ksl_len (k : Int) (n j : Nat) : (ksl k n j).length = n := by simp [ksl]
theorem ksl_si {k : Int} {n j i : Nat} (hi : i < n) : si (ksl k n j) i = if i < j then kst k else St.none := by
  rw [si_of_lt (by rw [ksl_len]; exact hi)]; simp [ksl]
theorem ksl_zero (k : Int) (n : Nat) : ksl k n 0 = List.replicate n St.none := si_ext (by simp [ksl]) (fun i hi => by
  rw [ksl_len] at hi; rw [ksl_si hi, si_rep hi, if_neg (by omega)])
theorem ksl_all (k : Int) (n : Nat) : ksl k n n = List.replicate n (kst k) := si_ext (by simp [ksl]) (fun i hi => by
  rw [ksl_len] at hi; rw [ksl_si hi, si_rep hi, if_pos hi])
theorem ksl_succ {k : Int} {n j : Nat} (hj : j < n) : (ksl k n j).set j { si (ksl k n j) j with k := k } = ksl k n (j + 1) := si_ext (by simp [ksl]) (fun i hi => by
  rw [List.length_set, ksl_len] at hi
  by_cases e : i = j
  · subst e
    rw [si_set (by rw [ksl_len]; exact hj), if_pos rfl, ksl_si hj, if_neg (Nat.lt_irrefl _), ksl_si hj, if_pos (by omega)]; rfl
  · rw [si_set (by rw [ksl_len]; exact hj), if_neg e, ksl_si hi, ksl_si hi]
    by_cases h : i < j
    · rw [if_pos h, if_pos (by omega)]
    · rw [if_neg h, if_neg (by omega)])

theorem count_calls (b : Bool) (w : World) : Calls Tryd.prog 64 #[.bool b] w fun e w' => e = .returned (.int .i64 (if b then 1 else 0)) ∧ w = w' := by
  cases b <;> (go_enter Tryd.func64, Tryd.ntmps64; go_wp2; go_ret; exact ⟨rfl, rfl⟩)

set_option maxHeartbeats 2000000 in
theorem kinds_calls (k : Int) (n : Nat) (w : World) (hn : n ≤ 1000) : Calls Tryd.prog 62 #[.int .u8 k, .int .i64 n] w (RetRO w (List.replicate n (kst k))) := by
  have hmk := run_make_st .i64 .i64 n (by omega)
  have HK := Lib.hid (fun j (hj : j < n) => ksl_succ (k := k) hj)
  go_enter Tryd.func62, Tryd.ntmps62
  go_wp2
  clear hmk
  go_loopw [6, 11] (fun _ i wr => ∃ j : Nat, j ≤ n ∧ i = .int .i64 j ∧ Hid (RO wr w.heap.size n (ksl k n j)) ∧ Hid (Ext w wr)) (fun _ i _ => n - (intOf i).toNat)
  case atStart => exact ⟨0, Nat.zero_le _, rfl, Lib.hid (by rw [ksl_zero]; exact RO.made w n (by unfold maxLen; omega)), Lib.hid ((Ext.refl w).alloc _)⟩
  case round =>
    obtain ⟨j, hj, rfl, HR, HX⟩ := hrel
    by_cases hlt : j < n
    · obtain ⟨v, hst⟩ := HR.out.shapeCell (o := j * 5) (by omega)
      have hfz := HR.out.frozen (j * 5)
      have hR2 := HR.out.setk (i := j) (by rw [ksl_len]; exact hlt) k
      rw [HK.out j hlt] at hR2
      have HR2 := Lib.hid hR2
      have HX2 := Lib.hid (HX.out.setCell (p := ⟨w.heap.size, j * 5, none⟩) (Nat.le_refl _) (.int .u8 k))
      clear hR2
      go_wp2
      go_roundw
      case rel => exact ⟨j + 1, by omega, by go_num, HR2, HX2⟩
      case measure => simp [intOf]; omega
    · obtain rfl : n = j := by omega
      clear hlt hj
      go_wp2
      go_ret
      exact ⟨_, _, _, rfl, by simp, Nat.le_refl _, by rw [← ksl_all]; exact HR.out, HX.out⟩
end Go.Proofs.YtinijapkipeamaaDoor
