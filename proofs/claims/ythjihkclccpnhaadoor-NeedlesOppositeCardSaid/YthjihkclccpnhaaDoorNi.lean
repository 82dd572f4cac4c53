/- The law NeedlesAt: its walk. -/
import Derived.Test.YthjihkclccpnhaaDoorNg
import Derived.Outline
namespace Go.Proofs.YthjihkclccpnhaaDoor
set_option linter.unusedVariables false
set_option linter.unusedSimpArgs false
open Go Go.RowKit

theorem needle_val' (i b a : Int) (w : World) (h1 : 0 ≤ i) (h2 : i ≤ 255) (hb : b = i % 80 / 40) (ha : a = 1 + i % 40) :
    Calls Tryd.prog 15 #[.int .u8 i] w fun e w' => e = .returned (.agg #[.int .u8 b, .int .i64 a]) ∧ Ext w w' := by
  rw [hb, ha]; exact needle_calls i w h1 h2

theorem NeedlesAt_rack (s r : Int) (w : World) (hr : ¬ (-4 ≤ r ∧ r ≤ 4)) :
    Calls Tryd.prog 4 #[.int .i64 s, .int .i64 r] w fun e w' => e = .returned (.bool true) ∧ Ext w w' := by
  have K : Hid (∀ w, Calls Tryd.prog 13 #[.int .i64 s, .int .i64 r] w (RetNd 0 0 11 w)) := fun w => At_rack s r w hr
  rcases (show r < -4 ∨ 4 < r by omega) with hr' | hr'
  all_goals
    clear hr
    go_enter Tryd.func4, Tryd.ntmps4
    go_wp2_with fail
    refine (K.out _).mono ?_
    rintro e w1 ⟨rfl, x1⟩
    go_wp2_with fail
    refine (lives_calls _).mono ?_
    rintro e w2 ⟨rfl, x2⟩
    go_wp2
    go_ret
    exact ⟨rfl, (x1.alloc _).trans x2⟩

/-- What holds at the head of a round. -/
def AInv (w w1 : World) (idx : Nat) (nb na : Int) (k : Nat) (wx : World) : Prop :=
  Ext w wx ∧ B2 wx w1.heap.size (.int .u8 nb) (.int .i64 na) 24 ∧ B2 wx (w1.heap.size + 1) (.int .u8 (if idx < k then nb else 0)) (.int .i64 (if idx < k then na else 0)) 24

set_option maxHeartbeats 2000000 in
theorem NeedlesAt_loop (s r nb na c : Int) (idx : Nat) (w : World) (r1 : -4 ≤ r) (r2 : r ≤ 4) (hidx : idx ≤ 80)
    (hcall : ∀ w, Calls Tryd.prog 13 #[.int .i64 s, .int .i64 r] w (RetNd nb na c w))
    (hiff : ∀ k : Nat, k < 80 → (nspot ((k : Int) % 80 / 40) (1 + (k : Int) % 40) r = s ↔ k = idx))
    (hn : idx < 80 → nb = (idx : Int) % 80 / 40 ∧ na = 1 + (idx : Int) % 40 ∧ c = 0) (hnone : ¬ idx < 80 → nb = 0 ∧ na = 0 ∧ c = 7) :
    Calls Tryd.prog 4 #[.int .i64 s, .int .i64 r] w fun e w' => e = .returned (.bool true) ∧ Ext w w' := by
  have K := Lib.hid hcall; have Hiff := Lib.hid hiff; have Hn := Lib.hid hn; have Hnone := Lib.hid hnone
  clear hcall hiff hn hnone
  go_enter Tryd.func4, Tryd.ntmps4
  go_wp2_with fail
  refine (K.out _).mono ?_
  rintro e w1 ⟨rfl, x1⟩
  have X1 := Lib.hid x1
  clear x1
  go_wp2
  have hA : AInv w w1 idx nb na 0 ((w1.alloc (.cells #[.int .u8 nb, .int .i64 na] 24)).alloc (.cells #[.int .u8 0, .int .i64 0] 24)) := by
    refine ⟨(X1.out.alloc _).alloc _, (B2.new _ _ _ _).alloc _, ?_⟩
    have := B2.new (w1.alloc (.cells #[.int .u8 nb, .int .i64 na] 24)) (.int .u8 0) (.int .i64 0) 24
    simpa using this
  obtain ⟨w2, hw2⟩ : ∃ w2, w2 = ((w1.alloc (.cells #[.int .u8 nb, .int .i64 na] 24)).alloc (.cells #[.int .u8 0, .int .i64 0] 24)) := ⟨_, rfl⟩
  rw [← hw2] at hA ⊢
  have HA := Lib.hid hA
  clear hw2 hA
  go_loopw [7, 9] (fun many i wx => ∃ k : Nat, k ≤ 80 ∧ i = .int .i64 k ∧ many = .int .i64 (if idx < k then 1 else 0) ∧ Hid (AInv w w1 idx nb na k wx)) (fun _ i _ => 80 - (intOf i).toNat)
  case atStart => exact ⟨0, Nat.zero_le _, rfl, rfl, HA⟩
  case round =>
    clear HA
    obtain ⟨k, hk, rfl, hmany, H⟩ := hrel
    obtain ⟨M, hM⟩ : ∃ M : Int, M = (if idx < k then 1 else 0) := ⟨_, rfl⟩
    rw [← hM] at hmany
    subst hmany
    have HM := Lib.hid hM
    clear hM
    by_cases hlt : k < 80
    · obtain ⟨b, hb⟩ : ∃ b, b = (k : Int) % 80 / 40 := ⟨_, rfl⟩
      obtain ⟨a, ha⟩ : ∃ a, a = 1 + (k : Int) % 40 := ⟨_, rfl⟩
      have b1 : 0 ≤ b := by omega
      have b2 : b ≤ 1 := by omega
      have a1 : 1 ≤ a := by omega
      have a2 : a ≤ 40 := by omega
      have kb : (k : Int) < 80 := by omega
      have N : Hid (∀ w, Calls Tryd.prog 15 #[.int .u8 k] w fun e w' => e = .returned (.agg #[.int .u8 b, .int .i64 a]) ∧ Ext w w') := fun w => needle_val' k b a w (by omega) (by omega) hb ha
      have P : Hid (∀ w, Calls Tryd.prog 14 #[.agg #[.int .u8 b, .int .i64 a], .int .i64 r] w fun e w' => e = .returned (.int .i64 (nspot b a r)) ∧ Ext w w') := fun w => spot_calls b a r w b1 (by omega) (by omega) (by omega) (by omega) (by omega)
      have hi := Hiff.out k hlt
      rw [← hb, ← ha] at hi
      have HI := Lib.hid hi; have Hb := Lib.hid hb; have Ha := Lib.hid ha
      clear hi hb ha
      obtain ⟨S, hS⟩ : ∃ S, S = nspot b a r := ⟨_, rfl⟩
      rw [← hS] at P HI
      clear hS
      go_wp2_with fail
      refine (N.out _).mono ?_
      rintro e w3 ⟨rfl, x3⟩
      have hnew := B2.new w3 (.int .u8 b) (.int .i64 a) 24
      have HN := Lib.hid hnew
      have X3 := Lib.hid x3
      clear x3 hnew
      go_wp2_with fail
      refine (P.out _).mono ?_
      rintro e w4 ⟨rfl, x4⟩
      have e0 := (HN.out.ext x4).c0
      have e1 := (HN.out.ext x4).c1
      have lt1 := (HN.out.ext x4).lt
      have hm := H.out.2.2.ext ((X3.out.alloc (.cells #[.int .u8 b, .int .i64 a] 24)).trans x4)
      have hn' := H.out.2.1.ext ((X3.out.alloc (.cells #[.int .u8 b, .int .i64 a] 24)).trans x4)
      have m0 := hm.c0; have m1 := hm.c1; have f0 := hm.f0; have f1 := hm.f1; have lt2 := hm.lt
      have X4 := Lib.hid (H.out.1.trans ((X3.out.alloc (.cells #[.int .u8 b, .int .i64 a] 24)).trans x4))
      have HMm := Lib.hid hm; have HNn := Lib.hid hn'
      clear x4 hm hn'
      by_cases he : k = idx
      · have hs : (S == s) = true := beq_iff_eq.2 (HI.out.2 he)
        have hm0 : M = 0 := by rw [HM.out, if_neg (by omega)]
        subst hm0
        have HE := Lib.hid he
        clear he
        go_wp2
        go_roundw
        case rel => exact ⟨k + 1, by omega, by go_num, by have := HE.out; rw [if_pos (by omega)], by
          have hx := X1.out.size
          have he := HE.out
          obtain ⟨n1, n2, _⟩ := Hn.out (by omega)
          refine ⟨X4.out.set2 _ (by omega) _ _, HNn.out.setOther2 _ (by omega) _ _, ?_⟩
          rw [if_pos (by omega), if_pos (by omega), show nb = b by rw [n1, Hb.out, he], show na = a by rw [n2, Ha.out, he]]
          exact HMm.out.set2 _ _⟩
        case measure => simp [intOf]; omega
      · have hs : (S == s) = false := beq_eq_false_iff_ne.2 (fun h => he (HI.out.1 h))
        have HE := Lib.hid he
        clear he
        go_wp2
        go_roundw
        case rel =>
          have hc : (idx < k + 1) ↔ (idx < k) := by have := HE.out; omega
          exact ⟨k + 1, by omega, by go_num, by rw [HM.out]; simp only [hc], X4.out, HNn.out, by simp only [hc]; exact HMm.out⟩
        case measure => simp [intOf]; omega
    · obtain rfl : k = 80 := by omega
      have n0 := H.out.2.1.c0; have n1 := H.out.2.1.c1; have ltn := H.out.2.1.lt
      have m := H.out.2.2
      by_cases hid : idx < 80
      · rw [if_pos hid, if_pos hid] at m
        obtain rfl : M = 1 := by rw [HM.out, if_pos hid]
        obtain ⟨_, _, rfl⟩ := Hn.out hid
        have m0 := m.c0; have m1 := m.c1; have ltm := m.lt
        have X := Lib.hid H.out.1
        clear m H HM Hn Hnone
        go_wp2_with fail
        refine (lives_calls _).mono ?_
        rintro e w5 ⟨rfl, x5⟩
        go_wp2
        go_ret
        exact ⟨rfl, X.out.trans x5⟩
      · obtain rfl : M = 0 := by rw [HM.out, if_neg hid]
        obtain ⟨rfl, rfl, rfl⟩ := Hnone.out hid
        have X := Lib.hid H.out.1
        clear m H HM Hn Hnone
        go_wp2_with fail
        refine (lives_calls _).mono ?_
        rintro e w5 ⟨rfl, x5⟩
        go_wp2
        go_ret
        exact ⟨rfl, X.out.trans x5⟩

theorem NeedlesAt_walk (s r : Int) (w : World) (hs : -9223372036854775808 ≤ s ∧ s ≤ 9223372036854775807) (hr' : -9223372036854775808 ≤ r ∧ r ≤ 9223372036854775807) :
    Calls Tryd.prog 4 #[.int .i64 s, .int .i64 r] w fun e w' => e = .returned (.bool true) ∧ Ext w w' := by
  by_cases hr : -4 ≤ r ∧ r ≤ 4
  · by_cases hf : ∃ b a, 0 ≤ b ∧ b ≤ 1 ∧ 1 ≤ a ∧ a ≤ 40 ∧ nspot b a r = s
    · obtain ⟨b, a, b0, b1, a0, a1, he⟩ := hf
      refine NeedlesAt_loop s r b a 0 (40 * b + a - 1).toNat w hr.1 hr.2 (by omega) (fun w => At_found s b a r w hr b0 b1 a0 a1 he) (fun k hk => ⟨fun h => ?_, fun h => ?_⟩) (fun _ => by omega) (fun h => by omega)
      · obtain ⟨g1, g2⟩ := nspot_inj (by omega) (by omega) b0 b1 (h.trans he.symm)
        omega
      · rw [show (k : Int) % 80 / 40 = b by omega, show 1 + (k : Int) % 40 = a by omega]; exact he
    · have hno : ∀ b a, 0 ≤ b → b ≤ 1 → 1 ≤ a → a ≤ 40 → nspot b a r ≠ s := fun b a h1 h2 h3 h4 h5 => hf ⟨b, a, h1, h2, h3, h4, h5⟩
      exact NeedlesAt_loop s r 0 0 7 80 w hr.1 hr.2 (by omega) (fun w => At_none s r w hr hno) (fun k hk => ⟨fun h => absurd h (hno _ _ (by omega) (by omega) (by omega) (by omega)), fun h => by omega⟩) (fun h => by omega) (fun _ => ⟨rfl, rfl, rfl⟩)
  · exact NeedlesAt_rack s r w hr
end Go.Proofs.YthjihkclccpnhaaDoor
