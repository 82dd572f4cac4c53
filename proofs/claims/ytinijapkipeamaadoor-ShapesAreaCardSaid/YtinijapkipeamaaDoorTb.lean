/- ganseyref19.Jumps and Check; same; Area. -/
import Derived.Test.YtinijapkipeamaaDoorTa
namespace Go.Proofs.YtinijapkipeamaaDoor
set_option linter.unusedVariables false
set_option linter.unusedSimpArgs false
set_option maxRecDepth 8000
open Go Go.RowKit

theorem IS.n63 {k : IntKind} {w : World} {v : Value} {c : Nat} {xs : List Int} (h : IS k w v c xs) : xs.length ≤ 9223372036854775807 := by
  have h1 := h.open.1
  have h2 := h.open.2.1
  unfold maxLen at h2
  omega

set_option maxHeartbeats 2000000 in
theorem Jumps_calls (v : Value) (c : Nat) (l : List Int) (w : World) (h : IS .i64 w v c l) (hb : ∀ i, i < l.length → -1000 ≤ gi l i ∧ gi l i ≤ 1000) : Calls Tryd.prog 32 #[v] w fun e w' => e = .returned (.int .i64 (jmp l)) ∧ Ext w w' := by
  have hcm := h.n63
  obtain ⟨ao, n, c', rfl, hn, rfl, hIS⟩ := h.out
  have hbad : ∀ i, i + 1 < n → far (gi l i) (gi l (i + 1)) = true → jmp l = 14 := fun i hi hb => jmp_bad (by omega) hb
  have hok : (∀ i, i + 1 < n → far (gi l i) (gi l (i + 1)) = false) → jmp l = 0 := fun hf => jmp_ok (fun i hi => hf i (by omega))
  rw [← hn] at hb hcm
  obtain ⟨R, hR⟩ : ∃ R, R = jmp l := ⟨_, rfl⟩
  rw [← hR] at hbad hok ⊢
  have HI := Lib.hid hIS; have HBad := Lib.hid hbad; have HOk := Lib.hid hok; have HB := Lib.hid hb
  clear hIS h hbad hok hR hn hb
  go_enter Tryd.func32, Tryd.ntmps32
  go_wp2
  go_loopw [3] (fun i wr => ∃ k : Nat, (k = 0 ∨ k + 1 ≤ n) ∧ i = .int .i64 ((k : Int) + 1) ∧ Hid (Ext w wr) ∧ Hid (∀ j, j < k → far (gi l j) (gi l (j + 1)) = false)) (fun i _ => n - (intOf i).toNat)
  case atStart => exact ⟨0, .inl rfl, rfl, Lib.hid (Ext.refl w), Lib.hid (fun j hj => by omega)⟩
  case round =>
    obtain ⟨k, hk, rfl, Hy, HF⟩ := hrel
    by_cases hlt : k + 1 < n
    · obtain ⟨b, o, rfl, hc1⟩ := HI.out.at hlt
      obtain ⟨b', o', hbo, hc2⟩ := HI.out.at (show k < n by omega)
      obtain ⟨rfl, rfl⟩ : b = b' ∧ o = o' := by simpa using hbo
      replace hc1 := Hy.out.cell (hc1 (k + 1) hlt); replace hc2 := Hy.out.cell (hc2 k (by omega))
      have g1 := HB.out k (by omega)
      have g2 := HB.out (k + 1) hlt
      have hbk := HBad.out k hlt
      have hnx : far (gi l k) (gi l (k + 1)) = false → ∀ j, j < k + 1 → far (gi l j) (gi l (j + 1)) = false := fun h0 i hi => by
        by_cases e : i = k
        · rw [e]; exact h0
        · exact HF.out i (by omega)
      generalize gi l k = x at *
      generalize gi l (k + 1) = y at *
      have HBk := Lib.hid hbk; have HNx := Lib.hid hnx
      clear hbk hnx hbo
      have t1 : (0 : Int) ≤ (k : Int) + 1 := by omega
      have t2 : ((k : Int) + 1).toNat = k + 1 := by omega
      have t3 : (k : Int) + 1 < n := by omega
      have t4 : IntKind.i64.wrap ((k : Int) + 1 - 1) = (k : Int) := by rw [show (k : Int) + 1 - 1 = k by omega]; exact IntWalk.i64_in _ ⟨by omega, by omega⟩
      have t5 : (k : Int) < n := by omega
      have t6 : IntKind.i64.wrap (k : Int) = (k : Int) := IntWalk.i64_in _ ⟨by omega, by omega⟩
      have t7 : (0 : Int) ≤ (k : Int) := by omega
      have t8 : IntKind.i64.wrap (x + 2) = x + 2 := IntWalk.i64_in _ ⟨by omega, by omega⟩
      have t9 : IntKind.i64.wrap (x - 2) = x - 2 := IntWalk.i64_in _ ⟨by omega, by omega⟩
      by_cases x1 : x + 2 < y
      · have HR := Lib.hid (HBk.out (by simp [far]; omega))
        clear HBk HNx
        go_wp2
        go_quiet (fail)
        go_wp2
        go_ret
        exact ⟨ret_int HR.out.symm, by first | exact Hy.out | exact (Hy.out.drewN _)⟩
      · by_cases x2 : y < x - 2
        · have HR := Lib.hid (HBk.out (by simp [far]; omega))
          clear HBk HNx
          go_wp2
          go_quiet (fail)
          go_wp2
          go_ret
          exact ⟨ret_int HR.out.symm, by first | exact Hy.out | exact (Hy.out.drewN _)⟩
        · have HN := Lib.hid (HNx.out (by simp [far]; omega))
          clear HBk HNx
          go_wp2
          go_quiet (fail)
          clear hc1 hc2 t1 t2 t4 t5 t6 t7 t8 t9 g1 g2
          go_wp2
          go_roundw
          case rel => exact ⟨k + 1, .inr (by omega), by go_num, Lib.hid (by first | exact Hy.out | exact (Hy.out.drewN _)), HN⟩
          case measure => simp [intOf]; omega
    · have HR := Lib.hid (HOk.out (fun i hi => HF.out i (by omega)))
      have t3 : ¬ (k : Int) + 1 < n := by omega
      clear hlt hk
      go_wp2
      go_ret
      exact ⟨ret_int HR.out.symm, Hy.out⟩

set_option maxHeartbeats 2000000 in
theorem RCheck_calls (v : Value) (c : Nat) (l : List Int) (w : World) (h : IS .i64 w v c l) : Calls Tryd.prog 11 #[v] w fun e w' => e = .returned (.int .i64 (oerr l)) ∧ Ext w w' := by
  have hcm := h.n63
  obtain ⟨ao, n, c', rfl, hn, rfl, hIS⟩ := h.out
  rw [← hn] at hcm
  by_cases h32 : 32 < n
  · have hr := Lib.hid (oerr_long (l := l) (by omega))
    have t : (32 : Int) < (n : Int) := by omega
    clear hn hIS h h32
    go_enter Tryd.func11, Tryd.ntmps11
    go_wp2
    go_ret
    exact ⟨ret_int hr.out.symm, Ext.refl _⟩
  have h32' : ¬ (32 : Int) < (n : Int) := by omega
  by_cases h3 : n < 2
  · have hr := Lib.hid (oerr_odd (l := l) (by omega) (.inr (by omega)))
    have t : (n : Int) < 2 := by omega
    clear hn hIS h h32 h3
    go_enter Tryd.func11, Tryd.ntmps11
    go_wp2
    go_ret
    exact ⟨ret_int hr.out.symm, Ext.refl _⟩
  have t3 : ¬ (n : Int) < 2 := by omega
  by_cases h2 : n % 2 ≠ 0
  · have hr := Lib.hid (oerr_odd (l := l) (by omega) (.inl (by omega)))
    have t : ((n : Int) % 2 != 0) = true := by rw [bne, beq_eq_false_iff_ne.2 (by omega)]; rfl
    clear hn hIS h h32 h2 h3
    go_enter Tryd.func11, Tryd.ntmps11
    go_wp2
    go_ret
    exact ⟨ret_int hr.out.symm, Ext.refl _⟩
  have t2 : ((n : Int) % 2 != 0) = false := by rw [bne, beq_iff_eq.2 (by omega)]; rfl
  have hout : ∀ i, i < n → gi l i < 2 ∨ 16 < gi l i → oerr l = 1 := fun i hi hb => oerr_out (by omega) (by omega) (by omega) hb
  have hin : (∀ i, i < n → 2 ≤ gi l i ∧ gi l i ≤ 16) → oerr l = jmp l := fun hg => oerr_in (by omega) (by omega) (fun i hi => hg i (by omega))
  have hJ : (∀ i, i < n → 2 ≤ gi l i ∧ gi l i ≤ 16) → ∀ w', Ext w w' → Calls Tryd.prog 32 #[.slice ao n c'] w' fun e w'' => e = .returned (.int .i64 (jmp l)) ∧ Ext w' w'' :=
    fun hg w' x => Jumps_calls _ c' l w' (hIS.ext x) (fun i hi => by have := hg i (by omega); omega)
  obtain ⟨R, hR⟩ : ∃ R, R = oerr l := ⟨_, rfl⟩
  rw [← hR] at hout hin ⊢
  have HI := Lib.hid hIS; have HOut := Lib.hid hout; have HIn := Lib.hid hin; have HJ := Lib.hid hJ
  have hn32 : n ≤ 32 := by omega
  have hn2 : 2 ≤ n := by omega
  clear hIS h hout hin hJ hR hn h32 h2 h3
  go_enter Tryd.func11, Tryd.ntmps11
  go_wp2
  go_loopw [3] (fun i wr => ∃ k : Nat, k ≤ n ∧ i = .int .i64 k ∧ Hid (Ext w wr) ∧ Hid (∀ i, i < k → 2 ≤ gi l i ∧ gi l i ≤ 16)) (fun i _ => n - (intOf i).toNat)
  case atStart => exact ⟨0, Nat.zero_le _, rfl, Lib.hid (Ext.refl w), Lib.hid (fun i hi => by omega)⟩
  case round =>
    obtain ⟨k, hk, rfl, Hx, HG⟩ := hrel
    by_cases hlt : k < n
    · obtain ⟨b, o, rfl, hcl⟩ := HI.out.at hlt
      replace hcl := Hx.out.cell (hcl k hlt)
      have hbk := HOut.out k hlt
      have hnx : 2 ≤ gi l k ∧ gi l k ≤ 16 → ∀ i, i < k + 1 → 2 ≤ gi l i ∧ gi l i ≤ 16 := fun h0 i hi => by
        by_cases e : i = k
        · rw [e]; exact h0
        · exact HG.out i (by omega)
      generalize gi l k = x at hcl hbk hnx
      have HBk := Lib.hid hbk; have HNx := Lib.hid hnx
      clear hbk hnx
      by_cases x1 : x < 2
      · have HB := Lib.hid (HBk.out (.inl x1))
        clear HBk HNx
        go_wp2
        go_ret
        exact ⟨ret_int HB.out.symm, Hx.out⟩
      · by_cases x2 : 16 < x
        · have HB := Lib.hid (HBk.out (.inr x2))
          clear HBk HNx
          go_wp2
          go_ret
          exact ⟨ret_int HB.out.symm, Hx.out⟩
        · have HN := Lib.hid (HNx.out (by omega))
          clear HBk HNx
          go_wp2
          go_roundw
          case rel => exact ⟨k + 1, by omega, by go_num, Hx, HN⟩
          case measure => simp [intOf]; omega
    · obtain rfl : n = k := by omega
      have hcall := HJ.out HG.out wr Hx.out
      have hr := HIn.out HG.out
      have HC := Lib.hid hcall; have HR := Lib.hid hr
      clear hlt hk HOut hcall hr HJ HIn
      go_wp2_with fail
      refine HC.out.mono ?_
      rintro e w1 ⟨rfl, x1⟩
      have X1 := Lib.hid (Hx.out.trans x1)
      clear x1
      go_wp2
      go_ret
      exact ⟨ret_int HR.out.symm, X1.out⟩

def sm (xs ys : List Int) : Int := if xs = ys then 0 else 1
theorem sm_ne {xs ys : List Int} (h : xs ≠ ys) : sm xs ys = 1 := if_neg h
theorem sm_eq {xs ys : List Int} (h : xs = ys) : sm xs ys = 0 := if_pos h

set_option maxHeartbeats 2000000 in
theorem same_calls (v1 v2 : Value) (c1 c2 : Nat) (xs ys : List Int) (w : World) (h1 : IS .i64 w v1 c1 xs) (h2 : IS .i64 w v2 c2 ys) : Calls Tryd.prog 19 #[v1, v2] w fun e w' => e = .returned (.int .i64 (sm xs ys)) ∧ Ext w w' := by
  have hcm := h1.n63
  have hcm2 := h2.n63
  obtain ⟨a1, n, d1, rfl, hn, rfl, hI1⟩ := h1.out
  obtain ⟨a2, m, d2, rfl, hm, rfl, hI2⟩ := h2.out
  rw [← hn] at hcm
  rw [← hm] at hcm2
  by_cases hnm : n = m
  · subst hnm
    have hbad : ∀ i, i < n → gi xs i ≠ gi ys i → sm xs ys = 1 := fun i hi hb => sm_ne (fun e => hb (by rw [e]))
    have hok : (∀ i, i < n → gi xs i = gi ys i) → sm xs ys = 0 := fun hg => sm_eq (gi_ext (by omega) (fun i hi => hg i (by omega)))
    obtain ⟨R, hR⟩ : ∃ R, R = sm xs ys := ⟨_, rfl⟩
    rw [← hR] at hbad hok ⊢
    have H1 := Lib.hid hI1; have H2 := Lib.hid hI2; have HBad := Lib.hid hbad; have HOk := Lib.hid hok
    clear hI1 hI2 h1 h2 hbad hok hR hn hm hcm2
    go_enter Tryd.func19, Tryd.ntmps19
    go_wp2
    go_loopw [5] (fun i wr => ∃ k : Nat, k ≤ n ∧ i = .int .i64 k ∧ Hid (Ext w wr) ∧ Hid (∀ i, i < k → gi xs i = gi ys i)) (fun i _ => n - (intOf i).toNat)
    case atStart => exact ⟨0, Nat.zero_le _, rfl, Lib.hid (Ext.refl w), Lib.hid (fun i hi => by omega)⟩
    case round =>
      obtain ⟨k, hk, rfl, Hx, HG⟩ := hrel
      by_cases hlt : k < n
      · obtain ⟨b, o, rfl, hc1⟩ := H1.out.at hlt
        obtain ⟨b', o', rfl, hc2⟩ := H2.out.at hlt
        replace hc1 := Hx.out.cell (hc1 k hlt)
        replace hc2 := Hx.out.cell (hc2 k hlt)
        have hbk := HBad.out k hlt
        have hnx : gi xs k = gi ys k → ∀ i, i < k + 1 → gi xs i = gi ys i := fun h0 i hi => by
          by_cases e : i = k
          · rw [e]; exact h0
          · exact HG.out i (by omega)
        generalize gi xs k = x at hc1 hbk hnx
        generalize gi ys k = y at hc2 hbk hnx
        have HBk := Lib.hid hbk; have HNx := Lib.hid hnx
        have t3 : (k : Int) < n := by omega
        have t7 : (0 : Int) ≤ (k : Int) := by omega
        clear hbk hnx
        by_cases hxy : x = y
        · have HN := Lib.hid (HNx.out hxy)
          have tq : (x != y) = false := by rw [bne, beq_iff_eq.2 hxy]; rfl
          clear HBk HNx hxy
          go_wp2
          go_quiet (fail)
          clear hc1 hc2
          go_wp2
          go_roundw
          case rel => exact ⟨k + 1, by omega, by go_num, Lib.hid (by first | exact Hx.out | exact (Hx.out.drewN _)), HN⟩
          case measure => simp [intOf]; omega
        · have HB := Lib.hid (HBk.out hxy)
          have tq : (x != y) = true := by rw [bne, beq_eq_false_iff_ne.2 hxy]; rfl
          clear HBk HNx hxy
          go_wp2
          go_quiet (fail)
          clear hc1 hc2
          go_wp2
          go_ret
          exact ⟨ret_int HB.out.symm, by first | exact Hx.out | exact (Hx.out.drewN _)⟩
      · obtain rfl : n = k := by omega
        have HR := Lib.hid (HOk.out HG.out)
        clear hlt hk
        go_wp2
        go_ret
        exact ⟨ret_int HR.out.symm, Hx.out⟩
  · have hr := Lib.hid (show sm xs ys = 1 from sm_ne (fun e => hnm (by rw [hn, hm, e])))
    have tq : ((n : Int) != (m : Int)) = true := by rw [bne, beq_eq_false_iff_ne.2 (by omega)]; rfl
    clear hn hm hI1 hI2 h1 h2 hnm
    go_enter Tryd.func19, Tryd.ntmps19
    go_wp2
    go_ret
    exact ⟨ret_int hr.out.symm, Ext.refl _⟩

/-- The sum of the widths but the first. -/
def area (l : List Int) : Nat → Int
  | 0 => 0
  | k + 1 => area l k + if k = 0 then 0 else gi l k
theorem area_bd {l : List Int} (hb : ∀ i, i < l.length → 0 ≤ gi l i ∧ gi l i ≤ 1000) : ∀ k, k ≤ l.length → 0 ≤ area l k ∧ area l k ≤ 1000 * k
  | 0, _ => by simp [area]
  | k + 1, h => by
    have := area_bd hb k (by omega)
    have := hb k (by omega)
    unfold area
    split <;> omega

set_option maxHeartbeats 2000000 in
theorem Area_calls (v : Value) (c : Nat) (l : List Int) (w : World) (h : IS .i64 w v c l) (hb : ∀ i, i < l.length → 0 ≤ gi l i ∧ gi l i ≤ 1000) (hl : l.length ≤ 1000) : Calls Tryd.prog 23 #[v] w fun e w' => e = .returned (.int .i64 (area l l.length)) ∧ Ext w w' := by
  obtain ⟨ao, n, c', rfl, hn, rfl, hIS⟩ := h.out
  have hbd := area_bd hb
  rw [← hn] at hb hbd hl ⊢
  have HI := Lib.hid hIS; have HB := Lib.hid hb; have HBd := Lib.hid hbd
  clear hIS h hn hb hbd
  go_enter Tryd.func23, Tryd.ntmps23
  go_wp2
  go_loopw [3, 4, 5, 8] (fun s _ _ i wr => ∃ k : Nat, k ≤ n ∧ i = .int .i64 k ∧ s = .int .i64 (area l k) ∧ Hid (Ext w wr)) (fun _ _ _ i _ => n - (intOf i).toNat)
  case atStart => exact ⟨0, Nat.zero_le _, rfl, rfl, Lib.hid (Ext.refl w)⟩
  case round =>
    obtain ⟨k, hk, rfl, rfl, Hx⟩ := hrel
    by_cases hlt : k < n
    · obtain ⟨b, o, rfl, hc1⟩ := HI.out.at hlt
      replace hc1 := Hx.out.cell (hc1 k hlt)
      have g1 := HB.out k hlt
      have g2 := HBd.out k (by omega)
      have hs : area l (k + 1) = area l k + if k = 0 then 0 else gi l k := rfl
      generalize gi l k = x at hc1 g1 hs
      generalize area l k = s at g2 hs ⊢
      by_cases k0 : k = 0
      · have HS := Lib.hid (show area l (k + 1) = s by rw [hs, if_pos k0]; omega)
        have t0 : ¬ (0 : Int) < (k : Int) := by omega
        clear hs k0
        go_wp2
        go_roundw
        case rel => exact ⟨k + 1, by omega, by go_num, by rw [HS.out], Hx⟩
        case measure => simp [intOf]; omega
      · have HS := Lib.hid (show area l (k + 1) = s + x by rw [hs, if_neg k0])
        have t0 : (0 : Int) < (k : Int) := by omega
        have t1 : IntKind.i64.wrap (s + x) = s + x := IntWalk.i64_in _ ⟨by omega, by omega⟩
        clear hs k0
        go_wp2
        go_roundw
        case rel => exact ⟨k + 1, by omega, by go_num, by rw [HS.out], Hx⟩
        case measure => simp [intOf]; omega
    · obtain rfl : n = k := by omega
      clear hlt hk
      go_wp2
      go_ret
      exact ⟨rfl, Hx.out⟩
end Go.Proofs.YtinijapkipeamaaDoor
