/- Contracts of chapter 1, as callers use them; the examples. -/
import Derived.Test.YthjihkclccpnhaaDoorNe
import Derived.Outline
namespace Go.Proofs.YthjihkclccpnhaaDoor
set_option linter.unusedVariables false
set_option linter.unusedSimpArgs false
open Go Go.RowKit

theorem nspot_inj {b a b' a' r : Int} (h1 : 0 ≤ b) (h2 : b ≤ 1) (h3 : 0 ≤ b') (h4 : b' ≤ 1) (h : nspot b a r = nspot b' a' r) : b = b' ∧ a = a' := by
  unfold nspot at h
  split at h <;> split at h <;> omega

theorem At_found (s b a r : Int) (w : World) (hr : -4 ≤ r ∧ r ≤ 4) (h1 : 0 ≤ b) (h2 : b ≤ 1) (h3 : 1 ≤ a) (h4 : a ≤ 40) (hs : nspot b a r = s) :
    Calls Tryd.prog 13 #[.int .i64 s, .int .i64 r] w (RetNd b a 0 w) :=
  (At_ok s r w hr).mono fun e w' h => by
    obtain ⟨b', a', c, rfl, hx, h⟩ := h
    rcases h with ⟨rfl, g1, g2, g3, g4, g5⟩ | ⟨_, _, _, h⟩
    · obtain ⟨rfl, rfl⟩ := nspot_inj h1 h2 g1 g2 (hs.trans g5.symm)
      exact ⟨rfl, hx⟩
    · exact absurd hs (h b a h1 h2 h3 h4)
theorem At_none (s r : Int) (w : World) (hr : -4 ≤ r ∧ r ≤ 4) (h : ∀ b a, 0 ≤ b → b ≤ 1 → 1 ≤ a → a ≤ 40 → nspot b a r ≠ s) :
    Calls Tryd.prog 13 #[.int .i64 s, .int .i64 r] w (RetNd 0 0 7 w) :=
  (At_ok s r w hr).mono fun e w' hh => by
    obtain ⟨b', a', c, rfl, hx, hh⟩ := hh
    rcases hh with ⟨rfl, g1, g2, g3, g4, g5⟩ | ⟨rfl, rfl, rfl, _⟩
    · exact absurd g5 (h b' a' g1 g2 g3 g4)
    · exact ⟨rfl, hx⟩

theorem ntext_inj {b b' : Int} {n n' : Nat} (b0 : 0 ≤ b) (b1 : b ≤ 1) (c0 : 0 ≤ b') (c1 : b' ≤ 1) (h1 : 1 ≤ n) (h2 : n ≤ 40) (h3 : 1 ≤ n') (h4 : n' ≤ 40) (h : ntext b n = ntext b' n') : b = b' ∧ n = n' := by
  obtain ⟨_, _, g1, _, g2⟩ := ntext_inv (s := ntext b n) h1 h2 rfl
  obtain ⟨_, _, k1, _, k2⟩ := ntext_inv (s := ntext b n) h3 h4 h
  rw [g2] at k2
  refine ⟨?_, by omega⟩
  rw [g1] at k1
  by_cases e : b = 1 <;> by_cases e' : b' = 1
  · omega
  · rw [if_pos e, if_neg e'] at k1; exact absurd k1 (by decide)
  · rw [if_neg e, if_pos e'] at k1; exact absurd k1 (by decide)
  · omega

theorem Parse_found (s : ByteArray) (b : Int) (n : Nat) (w : World) (h1 : 0 ≤ b) (h2 : b ≤ 1) (h3 : 1 ≤ n) (h4 : n ≤ 40) (hs : s = ntext b n) :
    Calls Tryd.prog 18 #[.string s] w (RetNd b n 0 w) :=
  (Parse_calls s w (by have := (ntext_inv h3 h4 hs).2.1; omega)).mono fun e w' h => by
    obtain ⟨b', a', c, rfl, hx, h⟩ := h
    rcases h with ⟨rfl, g1, g2, m, rfl, g3, g4, g5⟩ | ⟨_, _, _, h⟩
    · obtain ⟨rfl, rfl⟩ := ntext_inj h1 h2 g1 g2 h3 h4 g3 g4 (hs.symm.trans g5)
      exact ⟨rfl, hx⟩
    · exact absurd hs (h b n h1 h2 h3 h4)
theorem Parse_none (s : ByteArray) (w : World) (hm : s.size ≤ 9223372036854775807) (h : noText s) :
    Calls Tryd.prog 18 #[.string s] w (RetNd 0 0 4 w) :=
  (Parse_calls s w hm).mono fun e w' hh => by
    obtain ⟨b', a', c, rfl, hx, hh⟩ := hh
    rcases hh with ⟨rfl, g1, g2, m, rfl, g3, g4, g5⟩ | ⟨rfl, rfl, rfl, _⟩
    · exact absurd g5 (h b' m g1 g2 g3 g4)
    · exact ⟨rfl, hx⟩

theorem noText_f0 : noText ⟨#[102, 48]⟩ := fun b n b0 b1 n1 n2 h => by
  obtain ⟨_, _, _, _, g⟩ := ntext_inv n1 n2 h
  have : dvf ((⟨#[102, 48]⟩ : ByteArray).data.toList.drop 1) ((⟨#[102, 48]⟩ : ByteArray).size - 1) = 0 := by decide
  omega
theorem ntext_b3 : (⟨#[98, 51]⟩ : ByteArray) = ntext 1 3 := by unfold ntext nbytes; rw [digits1 (by decide)]; rfl
theorem ntext_f12 : (⟨#[102, 49, 50]⟩ : ByteArray) = ntext 0 12 := by unfold ntext nbytes; rw [digits2 (by decide) (by decide)]; rfl
theorem noText_f07 : noText ⟨#[102, 48, 55]⟩ := fun b n b0 b1 n1 n2 h => by
  obtain ⟨_, _, _, _, g⟩ := ntext_inv n1 n2 h
  have e : dvf ((⟨#[102, 48, 55]⟩ : ByteArray).data.toList.drop 1) ((⟨#[102, 48, 55]⟩ : ByteArray).size - 1) = 7 := by decide
  obtain rfl : n = 7 := by omega
  unfold ntext nbytes at h
  rw [digits1 (by decide)] at h
  have h3 : (3 : Nat) = 2 := congrArg ByteArray.size h
  omega


theorem Spot_val (b a r v : Int) (w : World) (h1 : 0 ≤ b) (h2 : b ≤ 255) (h : nspotF b a r = v) :
    Calls Tryd.prog 11 #[.agg #[.int .u8 b, .int .i64 a], .int .i64 r] w fun e w' => e = .returned (.int .i64 v) ∧ Ext w w' := by
  rw [← h]; exact Spot_calls b a r w h1 h2

set_option maxHeartbeats 2000000 in
set_option maxRecDepth 100000 in
theorem lives_calls (w : World) : Calls Tryd.prog 12 #[] w fun e w' => e = .returned (.bool true) ∧ Ext w w' := by
  have hA1 := fun w => At_found 6 0 1 3 w (by omega) (by omega) (by omega) (by omega) (by omega) (by decide)
  have hA2 := fun w => At_found 16 1 1 3 w (by omega) (by omega) (by omega) (by omega) (by omega) (by decide)
  have hA3 := fun w => At_none 4 3 w (by omega) (fun b a h1 h2 h3 h4 => by unfold nspot; split <;> omega)
  have HA1 := Lib.hid hA1; have HA2 := Lib.hid hA2; have HA3 := Lib.hid hA3
  clear hA1 hA2 hA3
  go_enter Tryd.func12, Tryd.ntmps12
  have Bf_0 := Lib.hid ((B2.new w (.int .u8 0) (.int .i64 1) 24).alloc (.cells #[.int .u8 1, .int .i64 1] 24))
  have Bb_0 : Hid (B2 ((w.alloc (.cells #[.int .u8 0, .int .i64 1] 24)).alloc (.cells #[.int .u8 1, .int .i64 1] 24)) (w.heap.size + 1) (.int .u8 1) (.int .i64 1) 24) := Lib.hid (by simpa using (B2.new (w.alloc (.cells #[.int .u8 0, .int .i64 1] 24)) (.int .u8 1) (.int .i64 1) 24))
  have X_0 := Lib.hid (((Ext.refl w).alloc (.cells #[.int .u8 0, .int .i64 1] 24)).alloc (.cells #[.int .u8 1, .int .i64 1] 24))
  go_wp2_with fail
  refine (HA1.out _).mono ?_
  rintro e w1 ⟨rfl, x1⟩
  have Bf_1 := Lib.hid (Bf_0.out.ext x1)
  have Bb_1 := Lib.hid (Bb_0.out.ext x1)
  have X_1 := Lib.hid (X_0.out.trans x1)
  clear x1
  go_wp2_with fail
  refine (HA2.out _).mono ?_
  rintro e w2 ⟨rfl, x2⟩
  have Bf_2 := Lib.hid ((Bf_1.out.alloc (.cells #[.int .u8 0, .int .i64 1] 24)).ext x2)
  have Bb_2 := Lib.hid ((Bb_1.out.alloc (.cells #[.int .u8 0, .int .i64 1] 24)).ext x2)
  have Ba_2 := Lib.hid ((B2.new w1 (.int .u8 0) (.int .i64 1) 24).ext x2)
  have X_2 := Lib.hid ((X_1.out.alloc (.cells #[.int .u8 0, .int .i64 1] 24)).trans x2)
  clear x2
  go_wp2_with fail
  refine (HA3.out _).mono ?_
  rintro e w3 ⟨rfl, x3⟩
  have Bf_3 := Lib.hid ((Bf_2.out.alloc (.cells #[.int .u8 1, .int .i64 1] 24)).ext x3)
  have Bb_3 := Lib.hid ((Bb_2.out.alloc (.cells #[.int .u8 1, .int .i64 1] 24)).ext x3)
  have Ba_3 := Lib.hid ((Ba_2.out.alloc (.cells #[.int .u8 1, .int .i64 1] 24)).ext x3)
  have Bc_3 := Lib.hid ((B2.new w2 (.int .u8 1) (.int .i64 1) 24).ext x3)
  have X_3 := Lib.hid ((X_2.out.alloc (.cells #[.int .u8 1, .int .i64 1] 24)).trans x3)
  clear x3
  have c0f_3 := Bf_3.out.c0
  have c1f_3 := Bf_3.out.c1
  have ltf_3 := Bf_3.out.lt
  go_wp2_with fail
  clear c0f_3 c1f_3 ltf_3
  refine (Spot_val 0 1 0 6 _ (by omega) (by omega) (by decide)).mono ?_
  rintro e w4 ⟨rfl, x4⟩
  have Bf_4 := Lib.hid ((Bf_3.out.alloc (.cells #[.int .u8 0, .int .i64 0] 24)).ext x4)
  have Bb_4 := Lib.hid ((Bb_3.out.alloc (.cells #[.int .u8 0, .int .i64 0] 24)).ext x4)
  have Ba_4 := Lib.hid ((Ba_3.out.alloc (.cells #[.int .u8 0, .int .i64 0] 24)).ext x4)
  have Bc_4 := Lib.hid ((Bc_3.out.alloc (.cells #[.int .u8 0, .int .i64 0] 24)).ext x4)
  have Bz_4 := Lib.hid ((B2.new w3 (.int .u8 0) (.int .i64 0) 24).ext x4)
  have X_4 := Lib.hid ((X_3.out.alloc (.cells #[.int .u8 0, .int .i64 0] 24)).trans x4)
  clear x4
  have c0b_4 := Bb_4.out.c0
  have c1b_4 := Bb_4.out.c1
  have ltb_4 := Bb_4.out.lt
  go_wp2_with fail
  clear c0b_4 c1b_4 ltb_4
  refine (Spot_val 1 1 0 4 _ (by omega) (by omega) (by decide)).mono ?_
  rintro e w5 ⟨rfl, x5⟩
  have Bf_5 := Lib.hid (Bf_4.out.ext x5)
  have Bb_5 := Lib.hid (Bb_4.out.ext x5)
  have Ba_5 := Lib.hid (Ba_4.out.ext x5)
  have Bc_5 := Lib.hid (Bc_4.out.ext x5)
  have Bz_5 := Lib.hid (Bz_4.out.ext x5)
  have X_5 := Lib.hid (X_4.out.trans x5)
  clear x5
  go_wp2_with fail
  refine (Spot_val 1 40 0 160 _ (by omega) (by omega) (by decide)).mono ?_
  rintro e w6 ⟨rfl, x6⟩
  have Bf_6 := Lib.hid (Bf_5.out.ext x6)
  have Bb_6 := Lib.hid (Bb_5.out.ext x6)
  have Ba_6 := Lib.hid (Ba_5.out.ext x6)
  have Bc_6 := Lib.hid (Bc_5.out.ext x6)
  have Bz_6 := Lib.hid (Bz_5.out.ext x6)
  have X_6 := Lib.hid (X_5.out.trans x6)
  clear x6
  have c0b_6 := Bb_6.out.c0
  have c1b_6 := Bb_6.out.c1
  have ltb_6 := Bb_6.out.lt
  go_wp2_with fail
  clear c0b_6 c1b_6 ltb_6
  refine (Spot_val 1 1 (-4) (-12) _ (by omega) (by omega) (by decide)).mono ?_
  rintro e w7 ⟨rfl, x7⟩
  have Bf_7 := Lib.hid (Bf_6.out.ext x7)
  have Bb_7 := Lib.hid (Bb_6.out.ext x7)
  have Ba_7 := Lib.hid (Ba_6.out.ext x7)
  have Bc_7 := Lib.hid (Bc_6.out.ext x7)
  have Bz_7 := Lib.hid (Bz_6.out.ext x7)
  have X_7 := Lib.hid (X_6.out.trans x7)
  clear x7
  have c0f_7 := Bf_7.out.c0
  have c1f_7 := Bf_7.out.c1
  have ltf_7 := Bf_7.out.lt
  have c0a_7 := Ba_7.out.c0
  have c1a_7 := Ba_7.out.c1
  have lta_7 := Ba_7.out.lt
  have c0b_7 := Bb_7.out.c0
  have c1b_7 := Bb_7.out.c1
  have ltb_7 := Bb_7.out.lt
  have c0c_7 := Bc_7.out.c0
  have c1c_7 := Bc_7.out.c1
  have ltc_7 := Bc_7.out.lt
  go_wp2_with fail
  clear c0f_7 c1f_7 ltf_7 c0a_7 c1a_7 lta_7 c0b_7 c1b_7 ltb_7 c0c_7 c1c_7 ltc_7
  refine (Opp_fok 0 4 3 _ rfl (by omega) (by omega) (by omega) (by omega) (by omega) (by omega)).mono ?_
  rintro e w8 ⟨rfl, x8⟩
  have Bf_8 := Lib.hid (Bf_7.out.ext x8)
  have Bb_8 := Lib.hid (Bb_7.out.ext x8)
  have Ba_8 := Lib.hid (Ba_7.out.ext x8)
  have Bc_8 := Lib.hid (Bc_7.out.ext x8)
  have Bz_8 := Lib.hid (Bz_7.out.ext x8)
  have X_8 := Lib.hid (X_7.out.trans x8)
  clear x8
  have c0a_8 := Ba_8.out.c0
  have c1a_8 := Ba_8.out.c1
  have lta_8 := Ba_8.out.lt
  have f0a_8 := Ba_8.out.f0
  have f1a_8 := Ba_8.out.f1
  go_wp2_with fail
  clear c0a_8 c1a_8 lta_8 f0a_8 f1a_8
  refine (Opp_bok 1 40 0 _ rfl (by omega) (by omega) (by omega) (by omega) (by omega) (by omega)).mono ?_
  rintro e w9 ⟨rfl, x9⟩
  have Bf_9 := Lib.hid ((Bf_8.out.setOther2 (w1.heap.size) (by have := Bf_1.out.lt; omega) (.int .u8 1) (.int .i64 1)).ext x9)
  have Bb_9 := Lib.hid ((Bb_8.out.setOther2 (w1.heap.size) (by have := Bb_1.out.lt; omega) (.int .u8 1) (.int .i64 1)).ext x9)
  have Ba_9 := Lib.hid ((Ba_8.out.set2 (.int .u8 1) (.int .i64 1)).ext x9)
  have Bc_9 := Lib.hid ((Bc_8.out.setOther2 (w1.heap.size) (by have := Ba_2.out.lt; omega) (.int .u8 1) (.int .i64 1)).ext x9)
  have Bz_9 := Lib.hid ((Bz_8.out.setOther2 (w1.heap.size) (by have := Ba_3.out.lt; omega) (.int .u8 1) (.int .i64 1)).ext x9)
  have X_9 := Lib.hid ((X_8.out.set2 (w1.heap.size) (by have := X_1.out.size; omega) (.int .u8 1) (.int .i64 1)).trans x9)
  clear x9
  have c0c_9 := Bc_9.out.c0
  have c1c_9 := Bc_9.out.c1
  have ltc_9 := Bc_9.out.lt
  have f0c_9 := Bc_9.out.f0
  have f1c_9 := Bc_9.out.f1
  go_wp2_with fail
  clear c0c_9 c1c_9 ltc_9 f0c_9 f1c_9
  refine (Opp_bno 1 40 1 _ rfl (by omega) (by omega) (by omega) (by omega) (by omega)).mono ?_
  rintro e w10 ⟨rfl, x10⟩
  have Bf_10 := Lib.hid ((Bf_9.out.setOther2 (w2.heap.size) (by have := Bf_2.out.lt; omega) (.int .u8 0) (.int .i64 40)).ext x10)
  have Bb_10 := Lib.hid ((Bb_9.out.setOther2 (w2.heap.size) (by have := Bb_2.out.lt; omega) (.int .u8 0) (.int .i64 40)).ext x10)
  have Ba_10 := Lib.hid ((Ba_9.out.setOther2 (w2.heap.size) (by have := Ba_2.out.lt; omega) (.int .u8 0) (.int .i64 40)).ext x10)
  have Bc_10 := Lib.hid ((Bc_9.out.set2 (.int .u8 0) (.int .i64 40)).ext x10)
  have Bz_10 := Lib.hid ((Bz_9.out.setOther2 (w2.heap.size) (by have := Bc_3.out.lt; omega) (.int .u8 0) (.int .i64 40)).ext x10)
  have X_10 := Lib.hid ((X_9.out.set2 (w2.heap.size) (by have := X_2.out.size; omega) (.int .u8 0) (.int .i64 40)).trans x10)
  clear x10
  go_wp2_with fail
  refine (Parse_found _ 1 3 _ (by omega) (by omega) (by omega) (by omega) ntext_b3).mono ?_
  rintro e w11 ⟨rfl, x11⟩
  have Bf_11 := Lib.hid (Bf_10.out.ext x11)
  have Bb_11 := Lib.hid (Bb_10.out.ext x11)
  have Ba_11 := Lib.hid (Ba_10.out.ext x11)
  have Bc_11 := Lib.hid (Bc_10.out.ext x11)
  have Bz_11 := Lib.hid (Bz_10.out.ext x11)
  have X_11 := Lib.hid (X_10.out.trans x11)
  clear x11
  go_wp2_with fail
  refine (Parse_none _ _ (by decide) noText_f0).mono ?_
  rintro e w12 ⟨rfl, x12⟩
  have Bf_12 := Lib.hid ((Bf_11.out.alloc (.cells #[.int .u8 1, .int .i64 3] 24)).ext x12)
  have Bb_12 := Lib.hid ((Bb_11.out.alloc (.cells #[.int .u8 1, .int .i64 3] 24)).ext x12)
  have Ba_12 := Lib.hid ((Ba_11.out.alloc (.cells #[.int .u8 1, .int .i64 3] 24)).ext x12)
  have Bc_12 := Lib.hid ((Bc_11.out.alloc (.cells #[.int .u8 1, .int .i64 3] 24)).ext x12)
  have Bz_12 := Lib.hid ((Bz_11.out.alloc (.cells #[.int .u8 1, .int .i64 3] 24)).ext x12)
  have Bd_12 := Lib.hid ((B2.new w11 (.int .u8 1) (.int .i64 3) 24).ext x12)
  have X_12 := Lib.hid ((X_11.out.alloc (.cells #[.int .u8 1, .int .i64 3] 24)).trans x12)
  clear x12
  go_wp2_with fail
  refine (Parse_none _ _ (by decide) noText_f07).mono ?_
  rintro e w13 ⟨rfl, x13⟩
  have Bf_13 := Lib.hid ((Bf_12.out.alloc (.cells #[.int .u8 0, .int .i64 0] 24)).ext x13)
  have Bb_13 := Lib.hid ((Bb_12.out.alloc (.cells #[.int .u8 0, .int .i64 0] 24)).ext x13)
  have Ba_13 := Lib.hid ((Ba_12.out.alloc (.cells #[.int .u8 0, .int .i64 0] 24)).ext x13)
  have Bc_13 := Lib.hid ((Bc_12.out.alloc (.cells #[.int .u8 0, .int .i64 0] 24)).ext x13)
  have Bz_13 := Lib.hid ((Bz_12.out.alloc (.cells #[.int .u8 0, .int .i64 0] 24)).ext x13)
  have Bd_13 := Lib.hid ((Bd_12.out.alloc (.cells #[.int .u8 0, .int .i64 0] 24)).ext x13)
  have By_13 := Lib.hid ((B2.new w12 (.int .u8 0) (.int .i64 0) 24).ext x13)
  have X_13 := Lib.hid ((X_12.out.alloc (.cells #[.int .u8 0, .int .i64 0] 24)).trans x13)
  clear x13
  have c0a_13 := Ba_13.out.c0
  have c1a_13 := Ba_13.out.c1
  have lta_13 := Ba_13.out.lt
  have c0b_13 := Bb_13.out.c0
  have c1b_13 := Bb_13.out.c1
  have ltb_13 := Bb_13.out.lt
  have c0c_13 := Bc_13.out.c0
  have c1c_13 := Bc_13.out.c1
  have ltc_13 := Bc_13.out.lt
  go_wp2_with fail
  clear c0a_13 c1a_13 lta_13 c0b_13 c1b_13 ltb_13 c0c_13 c1c_13 ltc_13
  refine (Text_0 12 _ (by omega) (by omega)).mono ?_
  rintro e w14 ⟨rfl, x14⟩
  have Bf_14 := Lib.hid ((Bf_13.out.alloc (.cells #[.int .u8 0, .int .i64 0] 24)).ext x14)
  have Bb_14 := Lib.hid ((Bb_13.out.alloc (.cells #[.int .u8 0, .int .i64 0] 24)).ext x14)
  have Ba_14 := Lib.hid ((Ba_13.out.alloc (.cells #[.int .u8 0, .int .i64 0] 24)).ext x14)
  have Bc_14 := Lib.hid ((Bc_13.out.alloc (.cells #[.int .u8 0, .int .i64 0] 24)).ext x14)
  have Bz_14 := Lib.hid ((Bz_13.out.alloc (.cells #[.int .u8 0, .int .i64 0] 24)).ext x14)
  have Bd_14 := Lib.hid ((Bd_13.out.alloc (.cells #[.int .u8 0, .int .i64 0] 24)).ext x14)
  have By_14 := Lib.hid ((By_13.out.alloc (.cells #[.int .u8 0, .int .i64 0] 24)).ext x14)
  have Bx_14 := Lib.hid ((B2.new w13 (.int .u8 0) (.int .i64 0) 24).ext x14)
  have X_14 := Lib.hid ((X_13.out.alloc (.cells #[.int .u8 0, .int .i64 0] 24)).trans x14)
  clear x14
  have c0d_14 := Bd_14.out.c0
  have c1d_14 := Bd_14.out.c1
  have ltd_14 := Bd_14.out.lt
  have ht : (ntext 0 12).toList = [102, 49, 50] := by rw [← ntext_f12]; exact ByteArray.toList_mk [102, 49, 50]
  go_wp2
  go_ret
  exact ⟨rfl, X_14.out⟩
end Go.Proofs.YthjihkclccpnhaaDoor
