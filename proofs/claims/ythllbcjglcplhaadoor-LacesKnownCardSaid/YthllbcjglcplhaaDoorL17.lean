/- Texts of this claim in one file: libraries and walks. -/
import Derived.Test.YthllbcjglcplhaaDoorL1
import Derived.Test.YthllbcjglcplhaaDoorL2
import Derived.Test.YthllbcjglcplhaaDoorL3
import Derived.Test.YthllbcjglcplhaaDoorL16
/- ganseyref13.Needs, Makes, Row. -/
namespace Go.Proofs.YthllbcjglcplhaaDoor
set_option linter.unusedVariables false
set_option linter.unusedSimpArgs false
set_option maxRecDepth 8000
open Go Go.RowKit

set_option maxHeartbeats 1000000 in
theorem RRowNeeds_calls (v : Value) (c : Nat) (l : List St) (w : World) (h : RS w v c l) (hl : l.length ≤ 1000000) (hs : ∀ i, i < l.length → 0 ≤ (si l i).k ∧ 0 ≤ (si l i).y) : Calls Tryd.prog 27 #[v] w fun e w' => e = .returned (.int .i64 (rneed l)) ∧ Ext w w' := by
  obtain ⟨ao, n, rfl, hn, hc, hcm, hat⟩ := h.open
  have hst : ∀ k, k < n → rneed (l.take (k + 1)) = rneed (l.take k) + St.need (si l k) := fun k hk => by rw [take_succ_si (by omega), rneed_snoc]
  have hbd : ∀ k, k ≤ n → 0 ≤ rneed (l.take k) ∧ rneed (l.take k) ≤ 4000000 := fun k hk => by
    have := rneed_bd (l.take k)
    rw [List.length_take] at this
    omega
  have hend : rneed (l.take n) = rneed l := by rw [hn, List.take_length]
  have hb1 := fun s => St.need_bd s
  have hcl := fun k (hk : k < n) w' => RNeeds_calls (si l k) w' (hs k (by omega))
  rw [← hn] at hl
  have HA := Lib.hid hat; have HS := Lib.hid hst; have HB := Lib.hid hbd; have HE := Lib.hid hend; have HO := Lib.hid hb1; have HCl := Lib.hid hcl
  clear hat hst hbd hend hb1 hn h hs hcl
  unfold maxLen at hcm
  go_enter Tryd.func27, Tryd.ntmps27
  go_wp2
  go_loopw [3, 4] (fun t i wr => ∃ k : Nat, k ≤ n ∧ i = .int .i64 k ∧ t = .int .i64 (rneed (l.take k)) ∧ Hid (Ext w wr)) (fun _ i _ => n - (intOf i).toNat)
  case atStart => exact ⟨0, Nat.zero_le _, rfl, rfl, Lib.hid (Ext.refl w)⟩
  case round =>
    obtain ⟨k, hk, rfl, rfl, Hx⟩ := hrel
    by_cases hlt : k < n
    · obtain ⟨b, o, rfl, h5⟩ := HA.out k hlt
      obtain ⟨c0, c1, c2, c3, c4⟩ := h5.ext Hx.out
      obtain ⟨g1, g2⟩ := HB.out k hk
      have hs := HS.out k hlt
      obtain ⟨g3, g4⟩ := HO.out (si l k)
      have hcall := HCl.out k hlt
      obtain ⟨s, hse⟩ : ∃ s, s = si l k := ⟨_, rfl⟩
      rw [← hse] at c0 c1 c2 c3 c4 hs g3 g4 hcall
      obtain ⟨T, hT⟩ : ∃ T, T = rneed (l.take k) := ⟨_, rfl⟩
      rw [← hT] at g1 g2 hs ⊢
      obtain ⟨D, hD⟩ : ∃ D, D = St.need s := ⟨_, rfl⟩
      rw [← hD] at g3 g4 hs
      unfold St.val at hcall
      rw [← hD] at hcall
      have HCL := Lib.hid hcall; have HSS := Lib.hid hs
      clear hcall hs hse hT hD h5
      go_wp2_with fail
      refine (HCL.out _).mono ?_
      rintro e w1 ⟨rfl, x1⟩
      have HX := Lib.hid (Hx.out.trans x1)
      clear x1 c0 c1 c2 c3 c4 HCL
      go_wp2
      go_roundw
      case rel => exact ⟨k + 1, by omega, by go_num, by rw [HSS.out], HX⟩
      case measure => simp [intOf]; omega
    · obtain rfl : n = k := by omega
      rw [HE.out]
      go_wp2
      go_ret
      exact ⟨rfl, Hx.out⟩

set_option maxHeartbeats 1000000 in
theorem RRowMakes_calls (v : Value) (c : Nat) (l : List St) (w : World) (h : RS w v c l) (hl : l.length ≤ 1000000) (hs : ∀ i, i < l.length → 0 ≤ (si l i).k ∧ 0 ≤ (si l i).y) : Calls Tryd.prog 28 #[v] w fun e w' => e = .returned (.int .i64 (rmake l)) ∧ Ext w w' := by
  obtain ⟨ao, n, rfl, hn, hc, hcm, hat⟩ := h.open
  have hst : ∀ k, k < n → rmake (l.take (k + 1)) = rmake (l.take k) + St.make (si l k) := fun k hk => by rw [take_succ_si (by omega), rmake_snoc]
  have hbd : ∀ k, k ≤ n → 0 ≤ rmake (l.take k) ∧ rmake (l.take k) ≤ 4000000 := fun k hk => by
    have := rmake_bd (l.take k)
    rw [List.length_take] at this
    omega
  have hend : rmake (l.take n) = rmake l := by rw [hn, List.take_length]
  have hb1 := fun s => St.make_bd s
  have hcl := fun k (hk : k < n) w' => RMakes_calls (si l k) w' (hs k (by omega))
  rw [← hn] at hl
  have HA := Lib.hid hat; have HS := Lib.hid hst; have HB := Lib.hid hbd; have HE := Lib.hid hend; have HO := Lib.hid hb1; have HCl := Lib.hid hcl
  clear hat hst hbd hend hb1 hn h hs hcl
  unfold maxLen at hcm
  go_enter Tryd.func28, Tryd.ntmps28
  go_wp2
  go_loopw [3, 4] (fun t i wr => ∃ k : Nat, k ≤ n ∧ i = .int .i64 k ∧ t = .int .i64 (rmake (l.take k)) ∧ Hid (Ext w wr)) (fun _ i _ => n - (intOf i).toNat)
  case atStart => exact ⟨0, Nat.zero_le _, rfl, rfl, Lib.hid (Ext.refl w)⟩
  case round =>
    obtain ⟨k, hk, rfl, rfl, Hx⟩ := hrel
    by_cases hlt : k < n
    · obtain ⟨b, o, rfl, h5⟩ := HA.out k hlt
      obtain ⟨c0, c1, c2, c3, c4⟩ := h5.ext Hx.out
      obtain ⟨g1, g2⟩ := HB.out k hk
      have hs := HS.out k hlt
      obtain ⟨g3, g4⟩ := HO.out (si l k)
      have hcall := HCl.out k hlt
      obtain ⟨s, hse⟩ : ∃ s, s = si l k := ⟨_, rfl⟩
      rw [← hse] at c0 c1 c2 c3 c4 hs g3 g4 hcall
      obtain ⟨T, hT⟩ : ∃ T, T = rmake (l.take k) := ⟨_, rfl⟩
      rw [← hT] at g1 g2 hs ⊢
      obtain ⟨D, hD⟩ : ∃ D, D = St.make s := ⟨_, rfl⟩
      rw [← hD] at g3 g4 hs
      unfold St.val at hcall
      rw [← hD] at hcall
      have HCL := Lib.hid hcall; have HSS := Lib.hid hs
      clear hcall hs hse hT hD h5
      go_wp2_with fail
      refine (HCL.out _).mono ?_
      rintro e w1 ⟨rfl, x1⟩
      have HX := Lib.hid (Hx.out.trans x1)
      clear x1 c0 c1 c2 c3 c4 HCL
      go_wp2
      go_roundw
      case rel => exact ⟨k + 1, by omega, by go_num, by rw [HSS.out], HX⟩
      case measure => simp [intOf]; omega
    · obtain rfl : n = k := by omega
      rw [HE.out]
      go_wp2
      go_ret
      exact ⟨rfl, Hx.out⟩

theorem rchk_bad2 {l : List St} (h1 : l.length ≤ 16) {i : Nat} (hi : i < l.length) (hb : (si l i).chk ≠ 0) : rchk l = 1 := by
  unfold rchk
  rw [if_neg (by omega), if_neg (by omega), if_pos]
  rw [List.any_eq_true]
  exact ⟨_, si_mem hi, by simp [hb]⟩
theorem rchk_in2 {l : List St} (h1 : l.length ≤ 16) (h0 : 0 < l.length) (hg : ∀ i, i < l.length → (si l i).chk = 0) : rchk l = if rneed l < 1 ∨ 16 < rneed l ∨ rmake l < 1 ∨ 16 < rmake l then 5 else 0 := by
  unfold rchk
  rw [if_neg (by omega), if_neg (by omega), if_neg]
  rw [List.any_eq_true]
  rintro ⟨s, hs, hb⟩
  obtain ⟨i, hi, rfl⟩ := List.mem_iff_getElem.1 hs
  rw [← si_of_lt hi, hg i hi] at hb
  simp at hb
set_option maxHeartbeats 2000000 in
theorem RRow_calls (v : Value) (c : Nat) (l : List St) (w : World) (h : RS w v c l) (hs : ∀ i, i < l.length → 0 ≤ (si l i).k ∧ 0 ≤ (si l i).y) : Calls Tryd.prog 44 #[v] w fun e w' => e = .returned (.int .i64 (rchk l)) ∧ Ext w w' := by
  have hN := fun w' (x : Ext w w') (hl : l.length ≤ 1000000) => RRowNeeds_calls v c l w' (h.ext x) hl hs
  have hM := fun w' (x : Ext w w') (hl : l.length ≤ 1000000) => RRowMakes_calls v c l w' (h.ext x) hl hs
  obtain ⟨ao, n, rfl, hn, hc, hcm, hat⟩ := h.open
  have hV := fun k (hk : k < n) w' => Valid_calls (si l k) w' (hs k (by omega))
  have e3 : 16 < n → rchk l = 3 := fun h => by unfold rchk; rw [if_pos (by omega)]
  have e1 : n = 0 → rchk l = 1 := fun h => by unfold rchk; rw [if_neg (by omega), if_pos (by omega)]
  have eb : n ≤ 16 → ∀ i, i < n → (si l i).chk ≠ 0 → rchk l = 1 := fun h i hi hb => rchk_bad2 (by omega) (by omega) hb
  have eo : n ≤ 16 → 0 < n → (∀ i, i < n → (si l i).chk = 0) → rchk l = if rneed l < 1 ∨ 16 < rneed l ∨ rmake l < 1 ∨ 16 < rmake l then 5 else 0 := fun h h0 hg => rchk_in2 (by omega) (by omega) (fun i hi => hg i (by omega))
  generalize rchk l = E at *
  unfold maxLen at hcm
  by_cases h16 : 16 < n
  · have hE := e3 h16
    have t1 : (16 : Int) < n := by omega
    clear hN hM hV e3 e1 eb eo hat h hs hn h16
    subst hE
    go_enter Tryd.func44, Tryd.ntmps44
    go_wp2
    go_ret
    exact ⟨rfl, Ext.refl w⟩
  by_cases h0 : n = 0
  · have hE := e1 h0
    clear hN hM hV e3 e1 eb eo hat h hs hn h16
    subst hE; subst h0
    go_enter Tryd.func44, Tryd.ntmps44
    go_wp2
    go_ret
    exact ⟨rfl, Ext.refl w⟩
  have t1 : ¬ (16 : Int) < n := by omega
  have t2 : ((n : Int) == 0) = false := beq_eq_false_iff_ne.2 (by omega)
  have HN := Lib.hid (fun w' x => hN w' x (by omega)); have HM := Lib.hid (fun w' x => hM w' x (by omega)); have HV := Lib.hid hV; have HEb := Lib.hid (eb (by omega)); have HEo := Lib.hid (eo (by omega) (by omega)); have HA := Lib.hid hat
  clear hN hM hV e3 e1 eb eo hat h hs hn h0
  go_enter Tryd.func44, Tryd.ntmps44
  go_wp2
  go_loopw [3] (fun i wr => ∃ k : Nat, k ≤ n ∧ i = .int .i64 k ∧ Hid (Ext w wr) ∧ Hid (∀ i, i < k → (si l i).chk = 0)) (fun i _ => n - (intOf i).toNat)
  case atStart => exact ⟨0, Nat.zero_le _, rfl, Lib.hid (Ext.refl w), Lib.hid (fun i hi => by omega)⟩
  case round =>
    obtain ⟨k, hk, rfl, HX, HG⟩ := hrel
    by_cases hlt : k < n
    · obtain ⟨b, o, rfl, h5⟩ := HA.out k hlt
      obtain ⟨c0, c1, c2, c3, c4⟩ := h5.ext HX.out
      have hcall := HV.out k hlt
      have heb := HEb.out k hlt
      have hgg : (si l k).chk = 0 → ∀ i, i < k + 1 → (si l i).chk = 0 := fun h i hi => by
        by_cases e : i = k
        · rw [e]; exact h
        · exact HG.out i (by omega)
      have hvd : (si l k).vld = if (si l k).chk = 0 then 1 else 0 := rfl
      obtain ⟨s, hse⟩ : ∃ s, s = si l k := ⟨_, rfl⟩
      rw [← hse] at c0 c1 c2 c3 c4 hcall heb hgg hvd
      unfold St.val at hcall
      generalize s.vld = V at *
      generalize s.chk = C at *
      have HCL := Lib.hid hcall
      clear hcall hse h5
      by_cases hC : C = 0
      · rw [if_pos hC] at hvd
        subst hvd
        have HG2 := Lib.hid (hgg hC)
        clear hgg heb hC
        go_wp2_with fail
        refine (HCL.out _).mono ?_
        rintro e w1 ⟨rfl, x1⟩
        have HX2 := Lib.hid (HX.out.trans x1)
        clear x1 c0 c1 c2 c3 c4 HCL
        go_wp2
        go_roundw
        case rel => exact ⟨k + 1, by omega, by go_num, HX2, HG2⟩
        case measure => simp [intOf]; omega
      · rw [if_neg hC] at hvd
        subst hvd
        have hE := heb hC
        clear hgg heb hC
        subst hE
        go_wp2_with fail
        refine (HCL.out _).mono ?_
        rintro e w1 ⟨rfl, x1⟩
        have HX2 := Lib.hid (HX.out.trans x1)
        clear x1 c0 c1 c2 c3 c4 HCL
        go_wp2
        go_ret
        exact ⟨rfl, HX2.out⟩
    · obtain rfl : n = k := by omega
      have hE := HEo.out HG.out
      generalize rneed l = P at *
      generalize rmake l = Q at *
      clear hlt
      rcases (show P < 1 ∨ (¬ P < 1 ∧ 16 < P) ∨ (¬ P < 1 ∧ ¬ 16 < P ∧ Q < 1) ∨ (¬ P < 1 ∧ ¬ 16 < P ∧ ¬ Q < 1 ∧ 16 < Q) ∨ (¬ P < 1 ∧ ¬ 16 < P ∧ ¬ Q < 1 ∧ ¬ 16 < Q) by omega) with a1 | ⟨a1, a2⟩ | ⟨a1, a2, a3⟩ | ⟨a1, a2, a3, a4⟩ | ⟨a1, a2, a3, a4⟩
      · rw [if_pos (.inl a1)] at hE
        subst hE
        go_wp2_with fail
        refine (HN.out _ HX.out).mono ?_
        rintro e y1 ⟨rfl, x1⟩
        have X1 := Lib.hid (HX.out.trans x1)
        clear x1
        go_wp2
        go_ret
        exact ⟨rfl, X1.out⟩
      · rw [if_pos (.inr (.inl a2))] at hE
        subst hE
        go_wp2_with fail
        refine (HN.out _ HX.out).mono ?_
        rintro e y1 ⟨rfl, x1⟩
        have X1 := Lib.hid (HX.out.trans x1)
        clear x1
        go_wp2_with fail
        refine (HN.out _ X1.out).mono ?_
        rintro e y2 ⟨rfl, x2⟩
        have X2 := Lib.hid (X1.out.trans x2)
        clear x2
        go_wp2
        go_ret
        exact ⟨rfl, X2.out⟩
      · rw [if_pos (.inr (.inr (.inl a3)))] at hE
        subst hE
        go_wp2_with fail
        refine (HN.out _ HX.out).mono ?_
        rintro e y1 ⟨rfl, x1⟩
        have X1 := Lib.hid (HX.out.trans x1)
        clear x1
        go_wp2_with fail
        refine (HN.out _ X1.out).mono ?_
        rintro e y2 ⟨rfl, x2⟩
        have X2 := Lib.hid (X1.out.trans x2)
        clear x2
        go_wp2_with fail
        refine (HM.out _ X2.out).mono ?_
        rintro e y3 ⟨rfl, x3⟩
        have X3 := Lib.hid (X2.out.trans x3)
        clear x3
        go_wp2
        go_ret
        exact ⟨rfl, X3.out⟩
      · rw [if_pos (.inr (.inr (.inr a4)))] at hE
        subst hE
        go_wp2_with fail
        refine (HN.out _ HX.out).mono ?_
        rintro e y1 ⟨rfl, x1⟩
        have X1 := Lib.hid (HX.out.trans x1)
        clear x1
        go_wp2_with fail
        refine (HN.out _ X1.out).mono ?_
        rintro e y2 ⟨rfl, x2⟩
        have X2 := Lib.hid (X1.out.trans x2)
        clear x2
        go_wp2_with fail
        refine (HM.out _ X2.out).mono ?_
        rintro e y3 ⟨rfl, x3⟩
        have X3 := Lib.hid (X2.out.trans x3)
        clear x3
        go_wp2_with fail
        refine (HM.out _ X3.out).mono ?_
        rintro e y4 ⟨rfl, x4⟩
        have X4 := Lib.hid (X3.out.trans x4)
        clear x4
        go_wp2
        go_ret
        exact ⟨rfl, X4.out⟩
      · rw [if_neg (by omega)] at hE
        subst hE
        go_wp2_with fail
        refine (HN.out _ HX.out).mono ?_
        rintro e y1 ⟨rfl, x1⟩
        have X1 := Lib.hid (HX.out.trans x1)
        clear x1
        go_wp2_with fail
        refine (HN.out _ X1.out).mono ?_
        rintro e y2 ⟨rfl, x2⟩
        have X2 := Lib.hid (X1.out.trans x2)
        clear x2
        go_wp2_with fail
        refine (HM.out _ X2.out).mono ?_
        rintro e y3 ⟨rfl, x3⟩
        have X3 := Lib.hid (X2.out.trans x3)
        clear x3
        go_wp2_with fail
        refine (HM.out _ X3.out).mono ?_
        rintro e y4 ⟨rfl, x4⟩
        have X4 := Lib.hid (X3.out.trans x4)
        clear x4
        go_wp2
        go_ret
        exact ⟨rfl, X4.out⟩
end Go.Proofs.YthllbcjglcplhaaDoor
/- ganseyref12.Loads. -/
namespace Go.Proofs.YthllbcjglcplhaaDoor
set_option linter.unusedVariables false
set_option linter.unusedSimpArgs false
set_option maxRecDepth 8000
open Go Go.RowKit

/-- A slice of numbers of some capacity, and an error. -/
def RetLE (w0 : World) (xs : List Int) (err : Int) (e : Ending) (w' : World) : Prop := ∃ v c, e = .returned (.tuple #[v, .int .i64 err]) ∧ IS .i64 w' v c xs ∧ Ext w0 w'
theorem rep_snoc (n : Nat) (x : Int) : (List.replicate (n + 1) x).map (Value.int .i64) = (List.replicate n x).map (Value.int .i64) ++ [.int .i64 x] := by rw [List.replicate_succ']; simp

set_option maxHeartbeats 4000000 in
theorem RLoads_calls (s : St) (v : Value) (c : Nat) (xs : List Int) (w : World) (h : IS .i64 w v c xs) (hs : 0 ≤ s.k ∧ 0 ≤ s.y) : Calls Tryd.prog 46 #[s.val, v] w (RetLE w (s.lmade xs) (s.lerr xs)) := by
  have HB := Lib.hid (fun w' (x : Ext (w.alloc (.cells #[.int .u8 s.k, .int .u8 s.y, .int .i64 s.a, .int .i64 s.b, .bool s.f] 49)) w') => ((B5.new w s 49).ext x).at)
  have HV := Lib.hid (fun w' => Valid_calls s w' hs)
  have HNe := Lib.hid (fun w' => RNeeds_calls s w' hs)
  have HMa := Lib.hid (fun w' => RMakes_calls s w' hs)
  have hv : s.vld = if s.chk = 0 then 1 else 0 := rfl
  have hcc := St.chk_cases s
  have hnb := St.need_bd s
  have hmb := St.make_bd s
  have hn45 : s.chk = 0 → (s.k = 4 ∨ s.k = 5) → s.need = 2 := fun h h4 => by unfold St.need; rw [if_neg (by omega), if_neg (by omega), if_pos h4]
  have hn67 : s.chk = 0 → (s.k = 6 ∨ s.k = 7) → s.need = 1 := fun h h4 => by unfold St.need; rw [if_neg (by omega), if_neg (by omega), if_neg (by omega), if_neg (by omega)]
  have hm1 : s.chk = 0 → s.k ≠ 8 → s.make = 1 := fun h h8 => by unfold St.make; rw [if_neg (by omega), if_neg h8]
  have e1 : s.chk ≠ 0 → s.lerr xs = 1 := lerr_chk
  have e5 : s.chk = 0 → (xs.length : Int) ≠ s.need → s.lerr xs = 5 := lerr_len
  have eb : s.chk = 0 → (xs.length : Int) = s.need → ∀ i, i < xs.length → (gi xs i < 1 ∨ 3 < gi xs i) → s.lerr xs = 1 := fun a b i c d => lerr_bad a b c d
  have ei : s.chk = 0 → (xs.length : Int) = s.need → (∀ i, i < xs.length → 1 ≤ gi xs i ∧ gi xs i ≤ 3) → s.lerr xs = if s.k = 4 ∨ s.k = 5 then (if 4 < gi xs 0 + gi xs 1 then 9 else 0) else if s.k = 6 ∧ gi xs 0 = 3 then 9 else 0 := lerr_in
  have hbad : ∀ w' e, Ext w w' → s.lerr xs = e → e ≠ 0 → RetLE w (s.lmade xs) (s.lerr xs) (.returned (.tuple #[.slice none 0 0, .int .i64 e])) w' := fun w' e x h1 h2 => by
    rw [lmade_err (by omega), h1]; exact ⟨_, 0, rfl, IS.nil _ _, x⟩
  have hgood : ∀ w' u c ys, Ext w w' → s.lerr xs = 0 → (if s.k = 6 then [gi xs 0 + 1] else if s.k = 7 then [gi xs 0] else List.replicate s.make.toNat 1) = ys → IS .i64 w' u c ys → RetLE w (s.lmade xs) (s.lerr xs) (.returned (.tuple #[u, .int .i64 0])) w' := fun w' u c ys x h1 h2 h3 => by
    have : s.lmade xs = ys := by unfold St.lmade; rw [if_neg (by omega)]; exact h2
    rw [this, h1]; exact ⟨u, c, rfl, h3, x⟩
  obtain ⟨ao, n, c', rfl, hn, rfl, hIS⟩ := h.out
  rw [← hn] at e5 eb ei
  obtain ⟨k, y, a, b, f⟩ := s
  unfold St.val at *
  simp only [] at HB HV HNe HMa hs hn45 hn67 hm1 ei hgood ⊢
  generalize St.need ⟨k, y, a, b, f⟩ = N at *
  generalize St.make ⟨k, y, a, b, f⟩ = M at *
  generalize St.vld ⟨k, y, a, b, f⟩ = V at *
  generalize St.chk ⟨k, y, a, b, f⟩ = C at *
  generalize St.lerr ⟨k, y, a, b, f⟩ xs = E at *
  generalize St.lmade ⟨k, y, a, b, f⟩ xs = L at *
  obtain ⟨W, hW⟩ : ∃ W, W = w.alloc (.cells #[.int .u8 k, .int .u8 y, .int .i64 a, .int .i64 b, .bool f] 49) := ⟨_, rfl⟩
  have xW : Ext w W := by rw [hW]; exact (Ext.refl w).alloc _
  rw [← hW] at HB
  have XW := Lib.hid xW; have HW := Lib.hid hW; have HI := Lib.hid (hIS.ext xW); have HBad := Lib.hid hbad; have HGood := Lib.hid hgood
  by_cases hC : C = 0
  · rw [if_pos hC] at hv
    subst hv
    by_cases hnN : (n : Int) = N
    · have HEb := Lib.hid (fun i hi hb => eb hC hnN i hi hb); have HEi := Lib.hid (fun hg => ei hC hnN hg); have H45 := Lib.hid (hn45 hC); have H67 := Lib.hid (hn67 hC); have HM1 := Lib.hid (hm1 hC)
      have tn : ((n : Int) != N) = false := by rw [hnN]; simp
      have hn4 : n ≤ 4 := by omega
      have HNn := Lib.hid hnN
      clear hcc e1 e5 eb ei hbad hgood hn45 hn67 hm1 hC h hIS hn xW hnN hs
      have hb0 := HB.out W (Ext.refl W)
      rw [hW] at hb0
      clear hW
      go_enter Tryd.func46, Tryd.ntmps46
      obtain ⟨c0, c1, c2, c3, c4⟩ := hb0
      simp only [Nat.zero_add] at c0 c1 c2 c3 c4
      go_wp2_with fail
      rw [← HW.out]
      refine (HV.out _).mono ?_
      rintro e w1 ⟨rfl, x1⟩
      have hb1 := HB.out _ x1
      have X1 := Lib.hid x1
      obtain ⟨c0, c1, c2, c3, c4⟩ := hb1
      simp only [Nat.zero_add] at c0 c1 c2 c3 c4
      clear x1 HV
      go_wp2_with fail
      refine (HNe.out _).mono ?_
      rintro e w2 ⟨rfl, x2⟩
      have X2 := Lib.hid (X1.out.trans x2)
      clear x2 HNe c0 c1 c2 c3 c4
      go_wp2
      go_loopw [6] (fun i wr => ∃ j : Nat, j ≤ n ∧ i = .int .i64 j ∧ Hid (Ext W wr) ∧ Hid (∀ i, i < j → 1 ≤ gi xs i ∧ gi xs i ≤ 3)) (fun i _ => n - (intOf i).toNat)
      case atStart => exact ⟨0, Nat.zero_le _, rfl, X2, Lib.hid (fun i hi => by omega)⟩
      case round =>
        obtain ⟨j, hj, rfl, HX, HG⟩ := hrel
        by_cases hlt : j < n
        · obtain ⟨bb, oo, rfl, hc⟩ := HI.out.at hlt
          replace hc := HX.out.cell (hc j hlt)
          have heb := HEb.out j hlt
          have HG2 := Lib.hid (show (1 ≤ gi xs j ∧ gi xs j ≤ 3) → ∀ i, i < j + 1 → 1 ≤ gi xs i ∧ gi xs i ≤ 3 from fun hh i hi => by
            by_cases e : i = j
            · rw [e]; exact hh
            · exact HG.out i (by omega))
          generalize gi xs j = z at *
          by_cases z1 : z = 1
          · have HG3 := Lib.hid (HG2.out (by omega))
            clear heb
            subst z1
            go_wp2
            go_roundw
            case rel => exact ⟨j + 1, by omega, by go_num, HX, HG3⟩
            case measure => simp [intOf]; omega
          by_cases z2 : z = 2
          · have HG3 := Lib.hid (HG2.out (by omega))
            clear heb z1
            subst z2
            go_wp2
            go_roundw
            case rel => exact ⟨j + 1, by omega, by go_num, HX, HG3⟩
            case measure => simp [intOf]; omega
          by_cases z3 : z = 3
          · have HG3 := Lib.hid (HG2.out (by omega))
            clear heb z1 z2
            subst z3
            go_wp2
            go_roundw
            case rel => exact ⟨j + 1, by omega, by go_num, HX, HG3⟩
            case measure => simp [intOf]; omega
          · have HF := Lib.hid (HBad.out wr 1 (XW.out.trans HX.out) (heb (by omega)) (by decide))
            have t1 : (z != 1) = true := by rw [bne, beq_eq_false_iff_ne.2 z1]; rfl
            have t2 : (z != 2) = true := by rw [bne, beq_eq_false_iff_ne.2 z2]; rfl
            have t3 : (z != 3) = true := by rw [bne, beq_eq_false_iff_ne.2 z3]; rfl
            clear heb z1 z2 z3
            go_wp2
            go_ret2
            exact HF.out
        · obtain rfl : n = j := by omega
          have hE := HEi.out HG.out
          have hb3 := HB.out _ HX.out
          obtain ⟨c0, c1, c2, c3, c4⟩ := hb3
          simp only [Nat.zero_add] at c0 c1 c2 c3 c4
          have tl : ¬ ((n : Int) < n) := by omega
          have hNn := HNn.out
          by_cases k45 : k = 4 ∨ k = 5
          · rw [if_pos k45] at hE
            have h2 := H45.out k45
            have hM := HM1.out (by omega)
            have hn2 : n = 2 := by omega
            subst hn2
            obtain ⟨bb, oo, rfl, hc⟩ := HI.out.at (show 0 < 2 by omega)
            have i0 := HX.out.cell (hc 0 (by omega))
            have i1 := HX.out.cell (hc 1 (by omega))
            rw [Nat.add_zero] at i0
            have g0 := HG.out 0 (by omega)
            have g1 := HG.out 1 (by omega)
            generalize gi xs 0 = x0 at *
            generalize gi xs 1 = x1 at *
            have wx : IntKind.i64.wrap (x0 + x1) = x0 + x1 := IntWalk.i64_in _ ⟨by omega, by omega⟩
            by_cases h4 : 4 < x0 + x1
            · rw [if_pos h4] at hE
              have HF := Lib.hid (fun w' x => HBad.out w' 9 x hE (by decide))
              clear hE h2 hM hNn hc
              rcases k45 with rfl | rfl
              all_goals
                go_wp2
                go_quiet (fail)
                go_wp2
                go_ret2
                exact HF.out _ (XW.out.trans (by first | exact HX.out.drewN _ | exact HX.out))
            · rw [if_neg h4] at hE
              clear h2 hNn hc
              rcases k45 with rfl | rfl
              all_goals
                have HE := Lib.hid hE; have HM := Lib.hid hM
                clear hE hM
                go_wp2
                go_quiet (fail)
                obtain ⟨wk, hwk⟩ : ∃ wk, wk = wr.drewN nq := ⟨_, rfl⟩
                have hxk : Ext W wk := by rw [hwk]; exact HX.out.drewN nq
                rw [← hwk]
                have hlit := IS.lit (k := .i64) (w := wk) (e := 3) (g := wk.heap.size) (n := 1) (xs := [1]) (arr := #[.int .i64 1]) rfl rfl rfl (by omega)
                have HF := Lib.hid (HGood.out (wk.alloc (.cells #[.int .i64 1] 3)) _ _ _ ((XW.out.trans hxk).alloc _) HE.out (by rw [if_neg (by omega), if_neg (by omega), HM.out]; rfl) hlit)
                clear hlit hxk hwk c0 c1 c2 c3 c4 i0 i1
                go_wp2
                go_ret2
                exact HF.out
          rw [if_neg k45] at hE
          have b4 : (k == 4) = false := beq_eq_false_iff_ne.2 (by omega)
          have b5 : (k == 5) = false := beq_eq_false_iff_ne.2 (by omega)
          clear k45
          by_cases k6 : k = 6
          · have h1 := H67.out (.inl k6)
            have hn1 : n = 1 := by omega
            subst hn1; subst k6
            obtain ⟨bb, oo, rfl, hc⟩ := HI.out.at (show 0 < 1 by omega)
            have i0 := HX.out.cell (hc 0 (by omega))
            rw [Nat.add_zero] at i0
            have g0 := HG.out 0 (by omega)
            generalize gi xs 0 = x0 at *
            by_cases h3 : x0 = 3
            · rw [if_pos ⟨rfl, h3⟩] at hE
              have HF := Lib.hid (HBad.out wr 9 (XW.out.trans HX.out) hE (by decide))
              clear hE h1 hNn hc
              subst h3
              go_wp2
              go_ret2
              exact HF.out
            · rw [if_neg (fun h => h3 h.2)] at hE
              have b3 : (x0 == 3) = false := beq_eq_false_iff_ne.2 h3
              have wx : IntKind.i64.wrap (x0 + 1) = x0 + 1 := IntWalk.i64_in _ ⟨by omega, by omega⟩
              clear h1 hNn hc h3
              have hlit := IS.lit (k := .i64) (w := wr) (e := 3) (g := wr.heap.size) (n := 1) (xs := [x0 + 1]) (arr := #[.int .i64 (x0 + 1)]) rfl rfl rfl (by omega)
              have HF := Lib.hid (HGood.out (wr.alloc (.cells #[.int .i64 (x0 + 1)] 3)) _ _ _ ((XW.out.trans HX.out).alloc _) hE (by rw [if_pos rfl]) hlit)
              clear hlit hE
              go_wp2
              go_ret2
              exact HF.out
          have b6 : (k == 6) = false := beq_eq_false_iff_ne.2 k6
          rw [if_neg (fun h => k6 h.1)] at hE
          by_cases k7 : k = 7
          · have h1 := H67.out (.inr k7)
            have hn1 : n = 1 := by omega
            subst hn1; subst k7
            obtain ⟨bb, oo, rfl, hc⟩ := HI.out.at (show 0 < 1 by omega)
            have i0 := HX.out.cell (hc 0 (by omega))
            rw [Nat.add_zero] at i0
            generalize gi xs 0 = x0 at *
            clear h1 hNn hc
            have hlit := IS.lit (k := .i64) (w := wr) (e := 3) (g := wr.heap.size) (n := 1) (xs := [x0]) (arr := #[.int .i64 (x0)]) rfl rfl rfl (by omega)
            have HF := Lib.hid (HGood.out (wr.alloc (.cells #[.int .i64 (x0)] 3)) _ _ _ ((XW.out.trans HX.out).alloc _) hE (by rw [if_neg (by omega), if_pos rfl]) hlit)
            clear hlit hE
            go_wp2
            go_ret2
            exact HF.out
          have b7 : (k == 7) = false := beq_eq_false_iff_ne.2 k7
          have HE := Lib.hid hE
          have hys : (if k = 6 then [gi xs 0 + 1] else if k = 7 then [gi xs 0] else List.replicate M.toNat 1) = List.replicate M.toNat 1 := by rw [if_neg k6, if_neg k7]
          have HYs := Lib.hid hys
          obtain ⟨m, hm⟩ : ∃ m : Nat, M = m := ⟨M.toNat, by omega⟩
          have hm4 : m ≤ 4 := by omega
          have HM2 := Lib.hid hm
          rw [hm] at HMa
          clear hE hys k6 k7 hNn hm
          obtain ⟨wk, hwk⟩ : ∃ wk : World, wk = wr := ⟨_, rfl⟩
          have HXk := Lib.hid (show Ext W wk by rw [hwk]; exact HX.out)
          rw [← hwk] at c0 c1 c2 c3 c4 ⊢
          clear hwk HX
          go_wp2
          go_loopw [7, 8] (fun l i wr => ∃ j : Nat, j ≤ m ∧ i = .int .i64 j ∧ Hid (wr.ownsRow W.heap.size 3 1 l j ((List.replicate j (1 : Int)).map (Value.int .i64)) ∧ Ext W wr)) (fun _ i _ => m - (intOf i).toNat)
          case atStart => exact ⟨0, Nat.zero_le _, rfl, Lib.hid ⟨World.ownsRow_nil _ _ _ _, HXk.out⟩⟩
          case round =>
            obtain ⟨j, hj, rfl, H⟩ := hrel
            have hb5 := HB.out _ H.out.2
            obtain ⟨c0, c1, c2, c3, c4⟩ := hb5
            simp only [Nat.zero_add] at c0 c1 c2 c3 c4
            go_wp2_with fail
            refine (HMa.out _).mono ?_
            rintro e w4 ⟨rfl, x4⟩
            have H4 := Lib.hid (And.intro (own_ext H.out.1 x4) (H.out.2.trans x4))
            clear x4 c0 c1 c2 c3 c4
            by_cases hjl : j < m
            · have hsz := H4.out.2.size
              go_wp2_with (at_builtin; refine app_own eiInt rfl _ _ rfl W.heap.size _ j _ rfl (H4.out.1.alloc _) _ _ _ rfl (VS.one _ _ _) (one1 _) ?d1 ?d2 ?d3 ?_)
              any_goals (first | omega | (simp; done) | (simp only [List.length_cons, List.length_nil]; omega) | (simp; omega))
              intro v' w' hown hbel
              have HO := Lib.hid (show w'.ownsRow W.heap.size 3 1 v' (j + 1) ((List.replicate (j + 1) (1 : Int)).map (Value.int .i64)) ∧ Ext W w' from ⟨by rw [rep_snoc, List.map_replicate]; exact hown, Below.trans (H4.out.2.alloc _) hbel⟩)
              clear hown hbel
              go_wp2
              go_roundw
              case rel => exact ⟨j + 1, by omega, by go_num, HO⟩
              case measure => simp [intOf]; omega
            · obtain rfl : m = j := by omega
              obtain ⟨cI, hI⟩ := IS.of_own (k := .i64) H4.out.1
              have HF := Lib.hid (HGood.out _ _ _ _ (XW.out.trans H4.out.2) HE.out (by rw [HYs.out, HM2.out, Int.toNat_natCast]) hI)
              clear hI
              go_wp2
              go_ret2
              exact HF.out
    · have HF := Lib.hid (fun w' x => HBad.out w' 5 x (e5 hC hnN) (by decide))
      have tn : ((n : Int) != N) = true := by rw [bne, beq_eq_false_iff_ne.2 hnN]; rfl
      clear hcc e1 e5 eb ei hbad hgood hn45 hn67 hm1 hC h hIS hn xW hnN hs
      have hb0 := HB.out W (Ext.refl W)
      rw [hW] at hb0
      clear hW
      go_enter Tryd.func46, Tryd.ntmps46
      obtain ⟨c0, c1, c2, c3, c4⟩ := hb0
      simp only [Nat.zero_add] at c0 c1 c2 c3 c4
      go_wp2_with fail
      rw [← HW.out]
      refine (HV.out _).mono ?_
      rintro e w1 ⟨rfl, x1⟩
      have hb1 := HB.out _ x1
      have X1 := Lib.hid x1
      obtain ⟨c0, c1, c2, c3, c4⟩ := hb1
      simp only [Nat.zero_add] at c0 c1 c2 c3 c4
      clear x1 HV
      go_wp2_with fail
      refine (HNe.out _).mono ?_
      rintro e w2 ⟨rfl, x2⟩
      have HF2 := Lib.hid (HF.out _ (XW.out.trans (X1.out.trans x2)))
      clear x2 HNe c0 c1 c2 c3 c4
      go_wp2
      go_ret2
      exact HF2.out
  · have HF := Lib.hid (fun w' x => HBad.out w' 1 x (e1 hC) (by decide))
    rw [if_neg hC] at hv
    subst hv
    clear hcc e1 e5 eb ei hbad hgood hn45 hn67 hm1 hC h hIS hn xW hs
    have hb0 := HB.out W (Ext.refl W)
    rw [hW] at hb0
    clear hW
    go_enter Tryd.func46, Tryd.ntmps46
    obtain ⟨c0, c1, c2, c3, c4⟩ := hb0
    simp only [Nat.zero_add] at c0 c1 c2 c3 c4
    go_wp2_with fail
    rw [← HW.out]
    refine (HV.out _).mono ?_
    rintro e w1 ⟨rfl, x1⟩
    have HF2 := Lib.hid (HF.out _ (XW.out.trans x1))
    clear x1 HV
    go_wp2
    go_ret2
    exact HF2.out
end Go.Proofs.YthllbcjglcplhaaDoor
/- Lists of lists of numbers that a call builds by appending. -/
namespace Go.Proofs.YthllbcjglcplhaaDoor
set_option linter.unusedVariables false
set_option linter.unusedSimpArgs false
set_option maxRecDepth 8000
open Go Go.RowKit

/-- A row of numbers of the call's own, or nil. -/
def IV (w : World) (u : Value) (l : List Int) : Prop := (u = .slice Option.none 0 0 ∧ l = []) ∨ ∃ q c f, u = .slice (some ⟨q, 0, Option.none⟩) l.length c ∧ l.length ≤ c ∧ c ≤ maxLen ∧ w.rowIs q 3 c f ∧ ∀ i, i < l.length → f i = .int .i64 (gi l i)
theorem IV.ext {w w' : World} {u : Value} {l : List Int} (h : IV w u l) (x : Ext w w') : IV w' u l := by
  rcases h with h | ⟨q, c, f, h1, h2, h3, h4, h5⟩
  · exact .inl h
  · exact .inr ⟨q, c, f, h1, h2, h3, x.row h4, h5⟩
theorem IV.grown {w w' : World} {B n z : Nat} {e : TypeId} {u : Value} {l : List Int} {v : Value} {xs : List Value} (h : IV w u l) (ho : w.ownsRow B e z v n xs) (hg : w.grownBy w' v.ownBlock) (ht : 3 ≠ e) : IV w' u l := by
  rcases h with h | ⟨q, c, f, h1, h2, h3, h4, h5⟩
  · exact .inl h
  · obtain ⟨cur, hb, _⟩ := id h4
    exact .inr ⟨q, c, f, h1, h2, h3, h4.of_block ((blk_grown ho hg hb ht).trans hb.symm), h5⟩
theorem IV.is {w : World} {u : Value} {l : List Int} (h : IV w u l) : ∃ c, IS .i64 w u c l := by
  rcases h with ⟨rfl, rfl⟩ | ⟨q, c, f, rfl, h2, h3, h4, h5⟩
  · exact ⟨0, IS.nil _ _⟩
  · exact ⟨c, IS.mk rfl h2 h3 fun i hi => by rw [Nat.zero_add, h4.cell (by omega), h5 i hi]⟩
theorem IV.form {w : World} {u : Value} {l : List Int} (h : IV w u l) : ∃ a n c, u = .slice a n c ∧ n = l.length := by
  rcases h with ⟨rfl, rfl⟩ | ⟨q, c, f, rfl, _⟩
  · exact ⟨_, _, _, rfl, rfl⟩
  · exact ⟨_, _, _, rfl, rfl⟩
theorem IV.of_own {w : World} {B n : Nat} {v : Value} {l : List Int} (h : w.ownsRow B 3 1 v n (l.map (Value.int .i64))) : IV w v l ∧ n = l.length := by
  obtain ⟨hl, h⟩ := h
  rw [List.length_map, Nat.mul_one] at hl
  refine ⟨?_, hl.symm⟩
  rcases h with ⟨hv, hn⟩ | ⟨g, cap, cur, hv, hB, hb, hnc, hm, hsz, htk⟩
  · exact .inl ⟨hv, List.eq_nil_of_length_eq_zero (by omega)⟩
  · rw [Nat.mul_one] at hsz htk
    refine .inr ⟨g, cap, fun i => (cur[i]?).getD undef, by rw [hv, hl], by omega, hm, ⟨cur, hb, by omega, fun i hi => by simp [Array.getElem?_eq_getElem (show i < cur.size by omega)]⟩, fun i hi => ?_⟩
    have : cur[i]? = (l.map (Value.int .i64))[i]? := by rw [← htk, List.getElem?_take, if_pos (by omega), Array.getElem?_toList]
    show (cur[i]?).getD undef = _
    rw [this, List.getElem?_map, gi_some hi]; rfl

/-- The lists that were appended so far. -/
def OI (w wr : World) (v : Value) (rows : List (List Int)) : Prop :=
  Ext w wr ∧ ∃ vs : List Value, wr.ownsRow w.heap.size 68 1 v rows.length vs ∧ ∀ i, i < rows.length → ∃ u, vs[i]? = some u ∧ IV wr u (ri rows i)
theorem OI.later {w wr w' : World} {v : Value} {rows : List (List Int)} (h : OI w wr v rows) (x : Ext wr w') : OI w w' v rows := by
  obtain ⟨h1, vs, h2, h3⟩ := h
  exact ⟨h1.trans x, vs, own_ext h2 x, fun i hi => by obtain ⟨u, a, b⟩ := h3 i hi; exact ⟨u, a, b.ext x⟩⟩
theorem OI.form {w wr : World} {v : Value} {rows : List (List Int)} (h : OI w wr v rows) : ∃ a n c, v = .slice a n c ∧ n = rows.length := by
  obtain ⟨_, vs, ⟨_, ⟨hv, hn⟩ | ⟨g, cap, cur, hv, _⟩⟩, _⟩ := h
  · exact ⟨_, _, _, hv, hn.symm⟩
  · exact ⟨_, _, _, hv, rfl⟩
/-- A list written out in a block of its own. -/
theorem OI.one {w wr : World} {u : Value} {l : List Int} (x : Ext w wr) (hu : IV wr u l) : OI w (wr.alloc (.cells #[u] 68)) (.slice (some ⟨wr.heap.size, 0, Option.none⟩) 1 1) [l] := by
  have hr := World.rowIs_alloc wr #[u] 68 (fun _ => u) (fun i hi => by simp at hi; subst hi; rfl)
  have := own_of_row hr (m := 1) (Nat.le_refl _) (by unfold maxLen; simp)
  obtain ⟨h1, h2⟩ := this
  refine ⟨x.alloc _, [u], ⟨h1, ?_⟩, fun i hi => ?_⟩
  · rcases h2 with ⟨hv, _⟩ | ⟨g, cap, cur, hv, hB, hrest⟩
    · cases hv
    · exact .inr ⟨g, cap, cur, hv, Nat.le_trans x.size hB, hrest⟩
  · obtain rfl : i = 0 := by simpa using hi
    exact ⟨u, rfl, hu.ext ((Ext.refl wr).alloc _)⟩
theorem OI.iss {w wr : World} {v : Value} {rows : List (List Int)} (h : OI w wr v rows) : ∃ c, ISS .i64 wr v c rows := by
  obtain ⟨h1, vs, h2, h3⟩ := h
  obtain ⟨c, hV⟩ := VS.of_own h2
  have hlen : vs.length = rows.length := by have := h2.1; omega
  have hcap : ∀ i, ∃ c', i < rows.length → IS .i64 wr (vs.getD i undef) c' (ri rows i) := fun i => by
    by_cases hi : i < rows.length
    · obtain ⟨u, a, b⟩ := h3 i hi
      obtain ⟨c', hr⟩ := b.is
      exact ⟨c', fun _ => by rw [show vs.getD i undef = u by simp [List.getD, a]]; exact hr⟩
    · exact ⟨0, fun h => absurd h hi⟩
  refine ⟨c, fun i => vs.getD i undef, fun i => (hcap i).choose, ?_, fun i hi => (hcap i).choose_spec hi⟩
  have : (List.range rows.length).map (fun i => vs.getD i undef) = vs := by
    apply List.ext_getElem (by simp [hlen])
    intro i h1 h2
    simp [List.getD, h2]
  rw [this]; exact hV
theorem ri_snoc (a : List (List Int)) (x : List Int) {j : Nat} (h : j < a.length) : ri (a ++ [x]) j = ri a j := by unfold ri; simp [List.getD, List.getElem?_append_left h]
theorem ri_last (a : List (List Int)) (x : List Int) : ri (a ++ [x]) a.length = x := by unfold ri; simp [List.getD]
/-- 'out = append(out, next)'. -/
theorem app_list {w : World} {ops : Array Oper} {rest : List Oper} {o : Oper} {a : Act} {Q : Exit → Act → World → Prop}
    (hg : o.guard = Option.none) (s x : Operand) (hop : o.op = Op.call { callee := Callee.builtin Builtin.append, args := #[s, x], argTypes := #[44, 44] })
    (wb : World) (v : Value) (rows : List (List Int)) (hs : a.eval s = v) (hco : OI wb w v rows) (u : Value) (l : List Int) (hu : IV w u l)
    (g : Nat) (hx : a.eval x = .slice (some ⟨g, 0, Option.none⟩) 1 1) (hgw : g = w.heap.size) (hlen : rows.length ≤ 100000)
    (hK : ∀ v' w', OI wb w' v' (rows ++ [l]) → IV w' u l → wpList Tryd.prog ops Q rest (a.put o.dst v') w') :
    wpList Tryd.prog ops Q (o :: rest) a (w.alloc (.cells #[u] 68)) := by
  obtain ⟨h1, vs, h2, h3⟩ := hco
  subst hgw
  have hvl : vs.length = rows.length := by have := h2.1; omega
  have h1u : ∀ y ∈ [u], y.oneCell' = true := by
    intro y hy
    obtain rfl := List.mem_singleton.1 hy
    obtain ⟨a', n', c', rfl, _⟩ := hu.form
    rfl
  have xa : Ext w (w.alloc (.cells #[u] 68)) := (Ext.refl w).alloc _
  refine app_own_g eiRow hg s x hop wb.heap.size v rows.length vs hs (own_ext h2 xa) _ 1 [u] hx (VS.one _ _ _) h1u (by simp; omega) (by simp; omega) (Nat.le_trans h1.size xa.size) ?_
  intro v' w' ho hgr
  have hst : 3 ≠ 68 := by decide
  refine hK v' w' ⟨?_, vs ++ [u], by simpa using ho, fun i hi => ?_⟩ ((hu.ext xa).grown (own_ext h2 xa) hgr hst)
  · refine (h1.trans xa).grown hgr fun k hk => ?_
    obtain ⟨_, ⟨hv, _⟩ | ⟨g', cap, cur, hv, hBg, _⟩⟩ := h2
    · rw [hv] at hk; cases hk
    · rw [hv] at hk; have : g' = k := by simpa [Value.ownBlock] using hk
      omega
  · rw [List.length_append, List.length_singleton] at hi
    by_cases e : i < rows.length
    · obtain ⟨u', a', b'⟩ := h3 i e
      rw [ri_snoc _ _ e]
      exact ⟨u', by rw [List.getElem?_append_left (by omega)]; exact a', (b'.ext xa).grown (own_ext h2 xa) hgr hst⟩
    · obtain rfl : i = rows.length := by omega
      rw [ri_last]
      exact ⟨u, by rw [List.getElem?_append_right (by omega)]; simp [hvl], (hu.ext xa).grown (own_ext h2 xa) hgr hst⟩
end Go.Proofs.YthllbcjglcplhaaDoor
