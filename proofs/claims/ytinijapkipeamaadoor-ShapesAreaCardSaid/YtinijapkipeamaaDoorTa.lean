/- Outlines in plain Lean; apart, shapes.Check, ganseyref19.Check. -/
import Derived.Test.YtinijapkipeamaaDoorSk
import Derived.BigQuiet
namespace Go.Proofs.YtinijapkipeamaaDoor
set_option linter.unusedVariables false
set_option linter.unusedSimpArgs false
set_option maxRecDepth 8000
open Go Go.RowKit

def far (a b : Int) : Bool := decide (2 < a - b ∨ 2 < b - a)
/-- 14 if two successive widths differ by more than 2. -/
def jmp (l : List Int) : Int := if (List.range (l.length - 1)).any (fun i => far (gi l i) (gi l (i + 1))) then 14 else 0
/-- The error of an outline. -/
def oerr (l : List Int) : Int :=
  if 32 < l.length then 3 else if l.length % 2 ≠ 0 ∨ l.length < 2 then 1
  else if l.any (fun x => decide (x < 2 ∨ 16 < x)) then 1 else jmp l
theorem jmp_bad {l : List Int} {i : Nat} (hi : i + 1 < l.length) (h : far (gi l i) (gi l (i + 1)) = true) : jmp l = 14 := by
  unfold jmp
  rw [if_pos]
  rw [List.any_eq_true]
  exact ⟨i, List.mem_range.2 (by omega), h⟩
theorem jmp_ok {l : List Int} (h : ∀ i, i + 1 < l.length → far (gi l i) (gi l (i + 1)) = false) : jmp l = 0 := by
  unfold jmp
  rw [if_neg]
  rw [List.any_eq_true]
  rintro ⟨i, hi, hb⟩
  have := List.mem_range.1 hi
  rw [h i (by omega)] at hb
  cases hb
theorem oerr_long {l : List Int} (h : 32 < l.length) : oerr l = 3 := by unfold oerr; rw [if_pos h]
theorem oerr_odd {l : List Int} (h : l.length ≤ 32) (h2 : l.length % 2 ≠ 0 ∨ l.length < 2) : oerr l = 1 := by unfold oerr; rw [if_neg (by omega), if_pos h2]
theorem oerr_out {l : List Int} (h : l.length ≤ 32) (h2 : ¬ (l.length % 2 ≠ 0 ∨ l.length < 2)) {i : Nat} (hi : i < l.length) (hb : gi l i < 2 ∨ 16 < gi l i) : oerr l = 1 := by
  unfold oerr
  rw [if_neg (by omega), if_neg h2, if_pos]
  rw [List.any_eq_true]
  exact ⟨_, gi_mem hi, by simpa using hb⟩
theorem oerr_in {l : List Int} (h : l.length ≤ 32) (h2 : ¬ (l.length % 2 ≠ 0 ∨ l.length < 2)) (hg : ∀ i, i < l.length → 2 ≤ gi l i ∧ gi l i ≤ 16) : oerr l = jmp l := by
  unfold oerr
  rw [if_neg (by omega), if_neg h2, if_neg]
  rw [List.any_eq_true]
  rintro ⟨x, hx, hb⟩
  obtain ⟨i, hi, rfl⟩ := List.mem_iff_getElem.1 hx
  have := hg i hi
  rw [gi_of_lt hi] at this
  simp at hb
  omega

theorem apart_calls (a b : Int) (w : World) (ha : -1000 ≤ a ∧ a ≤ 1000) (hb : -1000 ≤ b ∧ b ≤ 1000) : Calls Tryd.prog 34 #[.int .i64 a, .int .i64 b] w fun e w' => e = .returned (.bool (far a b)) ∧ w = w' := by
  have t1 : IntKind.i64.wrap (a - b) = a - b := IntWalk.i64_in _ ⟨by omega, by omega⟩
  have t2 : IntKind.i64.wrap (b - a) = b - a := IntWalk.i64_in _ ⟨by omega, by omega⟩
  by_cases h1 : 2 < a - b
  · have hr := Lib.hid (show far a b = true by simp [far]; omega)
    go_enter Tryd.func34, Tryd.ntmps34
    go_wp2
    all_goals (go_ret; exact ⟨ret_bool hr.out.symm, rfl⟩)
  · by_cases h2 : 2 < b - a
    · have hr := Lib.hid (show far a b = true by simp [far]; omega)
      go_enter Tryd.func34, Tryd.ntmps34
      go_wp2
      all_goals (go_ret; exact ⟨ret_bool hr.out.symm, rfl⟩)
    · have hr := Lib.hid (show far a b = false by simp [far]; omega)
      go_enter Tryd.func34, Tryd.ntmps34
      go_wp2
      all_goals (go_ret; exact ⟨ret_bool hr.out.symm, rfl⟩)

set_option maxHeartbeats 2000000 in
theorem HCheck_calls (v : Value) (c : Nat) (l : List Int) (w : World) (h : IS .i64 w v c l) : Calls Tryd.prog 14 #[v] w fun e w' => e = .returned (.int .i64 (oerr l)) ∧ Ext w w' := by
  obtain ⟨ao, n, c', rfl, hn, rfl, hIS⟩ := h.out
  have hcn := hIS.len.2.2
  have hcm : n ≤ 9223372036854775807 := by
    have hm := hIS.open.2.1
    have hm2 := hIS.open.1
    unfold maxLen at hm
    omega
  by_cases h32 : 32 < n
  · have hr := Lib.hid (oerr_long (l := l) (by omega))
    have t : (32 : Int) < (n : Int) := by omega
    clear hn hIS h h32 hcn
    go_enter Tryd.func14, Tryd.ntmps14
    go_wp2
    go_ret
    exact ⟨ret_int hr.out.symm, Ext.refl _⟩
  have h32' : ¬ (32 : Int) < (n : Int) := by omega
  by_cases h2 : n % 2 ≠ 0
  · have hr := Lib.hid (oerr_odd (l := l) (by omega) (.inl (by omega)))
    have t : ((n : Int) % 2 != 0) = true := by rw [bne, beq_eq_false_iff_ne.2 (by omega)]; rfl
    clear hn hIS h h32 hcn h2
    go_enter Tryd.func14, Tryd.ntmps14
    go_wp2
    go_ret
    exact ⟨ret_int hr.out.symm, Ext.refl _⟩
  have t2 : ((n : Int) % 2 != 0) = false := by rw [bne, beq_iff_eq.2 (by omega)]; rfl
  by_cases h3 : n < 2
  · have hr := Lib.hid (oerr_odd (l := l) (by omega) (.inr (by omega)))
    have t : (n : Int) < 2 := by omega
    clear hn hIS h h32 hcn h2 h3
    go_enter Tryd.func14, Tryd.ntmps14
    go_wp2
    go_ret
    exact ⟨ret_int hr.out.symm, Ext.refl _⟩
  have t3 : ¬ (n : Int) < 2 := by omega
  have hout : ∀ i, i < n → gi l i < 2 ∨ 16 < gi l i → oerr l = 1 := fun i hi hb => oerr_out (by omega) (by omega) (by omega) hb
  have hfar : (∀ i, i < n → 2 ≤ gi l i ∧ gi l i ≤ 16) → ∀ i, i + 1 < n → far (gi l i) (gi l (i + 1)) = true → oerr l = 14 := fun hg i hi hb => by
    rw [oerr_in (by omega) (by omega) (fun i hi => hg i (by omega))]; exact jmp_bad (by omega) hb
  have hok : (∀ i, i < n → 2 ≤ gi l i ∧ gi l i ≤ 16) → (∀ i, i + 1 < n → far (gi l i) (gi l (i + 1)) = false) → oerr l = 0 := fun hg hf => by
    rw [oerr_in (by omega) (by omega) (fun i hi => hg i (by omega))]; exact jmp_ok (fun i hi => hf i (by omega))
  obtain ⟨R, hR⟩ : ∃ R, R = oerr l := ⟨_, rfl⟩
  rw [← hR] at hout hfar hok ⊢
  have HI := Lib.hid hIS; have HOut := Lib.hid hout; have HFar := Lib.hid hfar; have HOk := Lib.hid hok
  have hn32 : n ≤ 32 := by omega
  have hn2 : 2 ≤ n := by omega
  clear hIS h hout hfar hok hR hn hcn h32 h2 h3
  go_enter Tryd.func14, Tryd.ntmps14
  go_wp2
  go_loopw [4, 20] (fun _ i wr => ∃ k : Nat, k ≤ n ∧ i = .int .i64 k ∧ Hid (Ext w wr) ∧ Hid (∀ i, i < k → 2 ≤ gi l i ∧ gi l i ≤ 16)) (fun _ i _ => n - (intOf i).toNat)
  case atStart => exact ⟨0, Nat.zero_le _, rfl, Lib.hid (Ext.refl w), Lib.hid (fun i hi => by omega)⟩
  case round =>
    obtain ⟨k, hk, rfl, Hx, HG⟩ := hrel
    by_cases hlt : k < n
    · obtain ⟨b, o, rfl, hcl⟩ := HI.out.at hlt
      replace hcl := Hx.out.cell (hcl k hlt)
      have hbk := HOut.out k hlt
      have hnx : 2 ≤ gi l k ∧ gi l k ≤ 16 → ∀ i, i < k + 1 → 2 ≤ gi l i ∧ gi l i ≤ 16 := fun h0 i hi => by
        by_cases e : i = k
        · rw [e]; exact h0
        · exact HG.out i (by omega)
      generalize gi l k = x at hcl hbk hnx
      have HBk := Lib.hid hbk; have HNx := Lib.hid hnx
      clear hbk hnx
      by_cases x1 : x < 2
      · have HB := Lib.hid (HBk.out (.inl x1))
        clear HBk HNx
        go_wp2
        go_ret
        exact ⟨ret_int HB.out.symm, Hx.out⟩
      · by_cases x2 : 16 < x
        · have HB := Lib.hid (HBk.out (.inr x2))
          clear HBk HNx
          go_wp2
          go_ret
          exact ⟨ret_int HB.out.symm, Hx.out⟩
        · have HN := Lib.hid (HNx.out (by omega))
          clear HBk HNx
          go_wp2
          go_roundw
          case rel => exact ⟨k + 1, by omega, by go_num, Hx, HN⟩
          case measure => simp [intOf]; omega
    · obtain rfl : n = k := by omega
      clear hlt hk HOut
      obtain ⟨wo, rfl⟩ : ∃ wo : World, wo = wr := ⟨_, rfl⟩
      go_wp2
      go_loopw [5] (fun i wr => ∃ k : Nat, k + 1 ≤ n ∧ i = .int .i64 ((k : Int) + 1) ∧ Hid (Ext w wr) ∧ Hid (∀ j, j < k → far (gi l j) (gi l (j + 1)) = false)) (fun i _ => n - (intOf i).toNat)
      case atStart => exact ⟨0, by omega, rfl, Hx, Lib.hid (fun j hj => by omega)⟩
      case round =>
        obtain ⟨k, hk, rfl, Hy, HF⟩ := hrel
        by_cases hlt : k + 1 < n
        · obtain ⟨b, o, rfl, hc1⟩ := HI.out.at hlt
          obtain ⟨b', o', hbo, hc2⟩ := HI.out.at (show k < n by omega)
          obtain ⟨rfl, rfl⟩ : b = b' ∧ o = o' := by simpa using hbo
          replace hc1 := Hy.out.cell (hc1 (k + 1) hlt); replace hc2 := Hy.out.cell (hc2 k (by omega))
          have g1 := HG.out k (by omega)
          have g2 := HG.out (k + 1) hlt
          have hbk := HFar.out HG.out k hlt
          have hnx : far (gi l k) (gi l (k + 1)) = false → ∀ j, j < k + 1 → far (gi l j) (gi l (j + 1)) = false := fun h0 i hi => by
            by_cases e : i = k
            · rw [e]; exact h0
            · exact HF.out i (by omega)
          generalize gi l k = x at *
          generalize gi l (k + 1) = y at *
          have hap := fun w' => apart_calls x y w' (by omega) (by omega)
          generalize far x y = q at hap hbk hnx
          have HAp := Lib.hid hap; have HBk := Lib.hid hbk; have HNx := Lib.hid hnx
          clear hap hbk hnx g1 g2 hbo
          have t1 : (0 : Int) ≤ (k : Int) + 1 := by omega
          have t2 : ((k : Int) + 1).toNat = k + 1 := by omega
          have t3 : (k : Int) + 1 < n := by omega
          have t4 : IntKind.i64.wrap ((k : Int) + 1 - 1) = (k : Int) := by rw [show (k : Int) + 1 - 1 = k by omega]; exact IntWalk.i64_in _ ⟨by omega, by omega⟩
          have t5 : (k : Int) < n := by omega
          have t6 : IntKind.i64.wrap (k : Int) = (k : Int) := IntWalk.i64_in _ ⟨by omega, by omega⟩
          have t7 : (0 : Int) ≤ (k : Int) := by omega
          go_wp2
          go_quiet ((go_at_call 34; exact Calls.quiet_of_same ((HAp.out _).mono fun _ _ ⟨he, hw⟩ => ⟨he, hw.symm⟩)))
          clear t1 t2 t4 t5 t6 t7 hc1 hc2 HAp
          cases hq : q
          · have HN := Lib.hid (HNx.out hq)
            clear HBk HNx hq
            go_wp2
            go_roundw
            case rel => exact ⟨k + 1, by omega, by go_num, Lib.hid (by first | exact Hy.out | exact (Hy.out.drewN _)), HN⟩
            case measure => simp [intOf]; omega
          · have HB := Lib.hid (HBk.out hq)
            clear HBk HNx hq
            go_wp2
            go_ret
            exact ⟨ret_int HB.out.symm, by first | exact Hy.out | exact (Hy.out.drewN _)⟩
        · obtain rfl : n = k + 1 := by omega
          have HR := Lib.hid (HOk.out HG.out (fun i hi => HF.out i (by omega)))
          clear hlt hk
          go_wp2
          go_ret
          exact ⟨ret_int HR.out.symm, Hy.out⟩
end Go.Proofs.YtinijapkipeamaaDoor
