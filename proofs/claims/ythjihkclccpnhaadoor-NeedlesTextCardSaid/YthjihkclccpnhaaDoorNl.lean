/- The law NeedlesText: its walk. -/
import Derived.Test.YthjihkclccpnhaaDoorNi
import Derived.Deep.Cut
import Derived.Outline
namespace Go.Proofs.YthjihkclccpnhaaDoor
set_option linter.unusedVariables false
set_option linter.unusedSimpArgs false
open Go Go.RowKit

/-- A string of one byte. -/
def one (x : Int) : ByteArray := ⟨#[UInt8.ofNat x.toNat]⟩
theorem one_size (x : Int) : (one x).size = 1 := rfl
theorem conv_one (x : Int) (W : World) (g : Nat) (hg : g = W.heap.size) :
    (convert 37 9 (.slice (some ⟨g, 0, none⟩) 1 1)).run Tryd.prog (W.alloc (.cells #[.int .u8 x] 5)) = .ok (.string (one x)) (W.alloc (.cells #[.int .u8 x] 5)) := by
  have h : IS .u8 (W.alloc (.cells #[.int .u8 x] 5)) (.slice (some ⟨g, 0, none⟩) 1 1) 1 [x] := IS.lit rfl hg rfl (by omega)
  exact run_bstr h Tryd.underlying37 Tryd.underlying5 Tryd.underlying9

theorem Text_len (s : ByteArray) (v : Value) (w : World) (b a : Int) (hv : v = .agg #[.int .u8 b, .int .i64 a]) (hs : 20 < s.size) (hm : s.size ≤ 9223372036854775807) :
    Calls Tryd.prog 6 #[v, .string s] w fun e w' => e = .returned (.bool true) ∧ Ext w w' := by
  subst hv
  go_enter Tryd.func6, Tryd.ntmps6
  go_wp2_with fail
  refine (lives_calls _).mono ?_
  rintro e w1 ⟨rfl, x1⟩
  go_wp2
  go_ret
  exact ⟨rfl, ((Ext.refl w).alloc _).trans x1⟩

theorem Text_val (b : Int) (n : Nat) (w : World) (b0 : 0 ≤ b) (b1 : b ≤ 1) (h1 : 1 ≤ n) (h2 : n ≤ 40) :
    Calls Tryd.prog 17 #[.agg #[.int .u8 b, .int .i64 n]] w fun e w' => e = .returned (.string (ntext b n)) ∧ Ext w w' := by
  rcases (show b = 0 ∨ b = 1 by omega) with rfl | rfl
  · exact Text_0 n w h1 h2
  · exact Text_1 n w h1 h2
theorem ntext_size {b : Int} {n : Nat} (h1 : 1 ≤ n) (h2 : n ≤ 40) : 0 < (ntext b n).size := by have := (ntext_inv (s := ntext b n) h1 h2 rfl).1; omega
theorem want9 (b : Int) (a : Nat) (h : a ≤ 9) : (⟨#[if b = 1 then 98 else 102]⟩ : ByteArray) ++ one (48 + (a : Int) % 10) = ntext b a := by
  unfold ntext nbytes one
  rw [digits1 (by omega)]
  apply ByteArray.ext
  rw [ByteArray.data_append, show (48 + (a : Int) % 10).toNat = 48 + a by omega]
  simp
theorem want40 (b : Int) (a : Nat) (h : ¬ a < 10) (h2 : a ≤ 40) : (⟨#[if b = 1 then 98 else 102]⟩ : ByteArray) ++ one (48 + (a : Int) / 10) ++ one (48 + (a : Int) % 10) = ntext b a := by
  unfold ntext nbytes one
  rw [digits2 h (by omega)]
  apply ByteArray.ext
  rw [ByteArray.data_append, ByteArray.data_append, show (48 + (a : Int) % 10).toNat = 48 + a % 10 by omega, show (48 + (a : Int) / 10).toNat = 48 + a / 10 by omega]
  simp

set_option maxHeartbeats 2000000 in
theorem Text_bad' (b a : Int) (s : ByteArray) (w : World) (h1 : 0 ≤ b) (h2 : b ≤ 255) (hv : ¬ (b ≤ 1 ∧ 1 ≤ a ∧ a ≤ 40)) (hs : s.size ≤ 20) :
    Calls Tryd.prog 6 #[.agg #[.int .u8 b, .int .i64 a], .string s] w fun e w' => e = .returned (.bool true) ∧ Ext w w' := by
  have hs' : s.size ≤ 9223372036854775807 := by omega
  have HV := Lib.hid hv
  clear hv
  go_enter Tryd.func6, Tryd.ntmps6
  go_wp2_with fail
  refine (valid_val b a 0 _ h1 h2 (nval0 HV.out)).mono ?_
  rintro e w1 ⟨rfl, x1⟩
  have n1 := (B2.new w (.int .u8 b) (.int .i64 a) 24).ext x1
  have c0 := n1.c0; have c1 := n1.c1; have lt := n1.lt
  have X1 := Lib.hid (((Ext.refl w).alloc (.cells #[.int .u8 b, .int .i64 a] 24)).trans x1)
  clear n1 x1
  go_wp2_with fail
  clear c0 c1 lt
  refine (Text_bad b a _ h1 h2 HV.out).mono ?_
  rintro e w2 ⟨rfl, x2⟩
  have YY := Lib.hid (X1.out.trans x2)
  clear x2
  by_cases hf : ∃ b' n', 0 ≤ b' ∧ b' ≤ (1 : Int) ∧ 1 ≤ n' ∧ n' ≤ 40 ∧ s = ntext b' n'
  · obtain ⟨b', n', g1, g2, g3, g4, g5⟩ := hf
    have hz := str_eq g5.symm
    have G5 := Lib.hid g5
    clear g5
    go_wp2_with fail
    refine (Parse_found s b' n' _ g1 g2 g3 g4 G5.out).mono ?_
    rintro e w5 ⟨rfl, x5⟩
    have Y5 := Lib.hid (YY.out.trans (x5.alloc (.cells #[.int .u8 b', .int .i64 n'] 24)))
    clear x5
    go_wp2_with fail
    refine (valid_val b' n' 1 _ g1 (by omega) (nval1 ⟨g2, by omega, by omega⟩)).mono ?_
    rintro e w6 ⟨rfl, x6⟩
    have mm := (B2.new w5 (.int .u8 b') (.int .i64 n') 24).ext x6
    have d0 := mm.c0; have d1 := mm.c1; have d2 := mm.lt
    have Y6 := Lib.hid (Y5.out.trans x6)
    clear x6 mm
    go_wp2_with fail
    refine (Text_val b' n' _ g1 g2 g3 g4).mono ?_
    rintro e w7 ⟨rfl, x7⟩
    have Y7 := Lib.hid (Y6.out.trans x7)
    clear x7
    go_wp2_with fail
    refine (lives_calls _).mono ?_
    rintro e w8 ⟨rfl, x8⟩
    go_wp2
    go_ret
    exact ⟨rfl, Y7.out.trans x8⟩
  · have hno : noText s := fun b' n' g1 g2 g3 g4 g5 => hf ⟨b', n', g1, g2, g3, g4, g5⟩
    have Hno := Lib.hid hno
    clear hf hno
    go_wp2_with fail
    refine (Parse_none s _ hs' Hno.out).mono ?_
    rintro e w5 ⟨rfl, x5⟩
    have M5 := Lib.hid (B2.new w5 (.int .u8 0) (.int .i64 0) 24)
    have Y5 := Lib.hid (YY.out.trans (x5.alloc (.cells #[.int .u8 0, .int .i64 0] 24)))
    clear x5
    go_wp2
    obtain ⟨w6, hw6⟩ : ∃ w6, w6 = w5.alloc (.cells #[.int .u8 0, .int .i64 0] 24) := ⟨_, rfl⟩
    rw [← hw6] at M5 Y5 ⊢
    clear hw6
    go_loopw [10] (fun i wx => ∃ k : Nat, k ≤ 80 ∧ i = .int .i64 k ∧ Hid (Ext w6 wx)) (fun i _ => 80 - (intOf i).toNat)
    case atStart => exact ⟨0, Nat.zero_le _, rfl, Lib.hid (Ext.refl _)⟩
    case round =>
      obtain ⟨k, hk, rfl, H⟩ := hrel
      by_cases hlt : k < 80
      · have kb : (k : Int) < 80 := by omega
        obtain ⟨n', hn'⟩ : ∃ n' : Nat, (n' : Int) = 1 + (k : Int) % 40 := ⟨1 + k % 40, by omega⟩
        obtain ⟨b', hb'⟩ : ∃ b', b' = (k : Int) % 80 / 40 := ⟨_, rfl⟩
        have b0 : 0 ≤ b' := by omega
        have b1 : b' ≤ 1 := by omega
        have n0 : 1 ≤ n' := by omega
        have n1 : n' ≤ 40 := by omega
        have N : Hid (∀ w, Calls Tryd.prog 15 #[.int .u8 k] w fun e w' => e = .returned (.agg #[.int .u8 b', .int .i64 n']) ∧ Ext w w') := fun w => needle_val' k b' n' w (by omega) (by omega) hb' hn'
        have hz := str_ne (fun h => Hno.out b' n' b0 b1 n0 n1 h.symm)
        clear hn' hb'
        go_wp2_with fail
        refine (N.out _).mono ?_
        rintro e w7 ⟨rfl, x7⟩
        go_wp2_with fail
        refine (Text_val b' n' _ b0 b1 n0 n1).mono ?_
        rintro e w8 ⟨rfl, x8⟩
        have X8 := Lib.hid (H.out.trans (x7.trans x8))
        clear x7 x8
        go_wp2
        go_roundw
        case rel => exact ⟨k + 1, by omega, by go_num, X8⟩
        case measure => simp [intOf]; omega
      · have d0 := (M5.out.ext H.out).c0; have d1 := (M5.out.ext H.out).c1; have d2 := (M5.out.ext H.out).lt
        have Y7 := Lib.hid (Y5.out.trans H.out)
        clear H
        obtain rfl : k = 80 := by omega
        go_wp2_with fail
        refine (lives_calls _).mono ?_
        rintro e w8 ⟨rfl, x8⟩
        go_wp2
        go_ret
        exact ⟨rfl, Y7.out.trans x8⟩

set_option maxHeartbeats 2000000 in
theorem Text_ok09 (a : Nat) (s : ByteArray) (w : World) (a1 : 1 ≤ a) (a2 : a ≤ 9) (hs : s.size ≤ 20) :
    Calls Tryd.prog 6 #[.agg #[.int .u8 0, .int .i64 a], .string s] w fun e w' => e = .returned (.bool true) ∧ Ext w w' := by
  have hs' : s.size ≤ 9223372036854775807 := by omega
  have hc := conv_one
  have hz := one_size
  have hw : (⟨#[102]⟩ : ByteArray) ++ one (48 + (a : Int) % 10) = ntext 0 a := want9 0 a a2
  have hne := str_nonempty (ntext_size (b := 0) (n := a) (by omega) (by omega))
  have HC := Lib.hid hc; have HW := Lib.hid hw; have HZ := Lib.hid hz; have HNE := Lib.hid hne
  clear hc hw hz hne
  go_enter Tryd.func6, Tryd.ntmps6
  go_wp2_with fail
  refine (valid_val 0 a 1 _ (by omega) (by omega) (nval1 ⟨by omega, by omega, by omega⟩)).mono ?_
  rintro e w1 ⟨rfl, x1⟩
  have n1 := (B2.new w (.int .u8 0) (.int .i64 a) 24).ext x1
  have c0 := n1.c0; have c1 := n1.c1; have lt := n1.lt
  have lt1 : w.heap.size < w1.heap.size + 1 := by omega
  have lt2 : w.heap.size < w1.heap.size + 1 + 1 := by omega
  have lt3 : w.heap.size < w1.heap.size + 1 + 1 + 1 := by omega
  have X1 := Lib.hid (((Ext.refl w).alloc (.cells #[.int .u8 0, .int .i64 a] 24)).trans x1)
  have N1 := Lib.hid n1
  have hc := HC.out; have hz := HZ.out; have hw := HW.out; have hne := HNE.out
  clear n1 x1
  go_wp2_with fail
  clear c0 c1 lt lt1 lt2 lt3 hc hz hw
  refine (Text_0 a _ (by omega) (by omega)).mono ?_
  rintro e w2 ⟨rfl, x2⟩
  have x2' : Ext w1 w2 := Ext.trans (by repeat (first | exact Ext.refl _ | refine Ext.alloc ?_ _)) x2
  have X2 := Lib.hid (X1.out.trans x2')
  have N2 := Lib.hid (N1.out.ext x2')
  clear x2 x2'
  go_wp2_with fail
  refine (Parse_found (ntext 0 a) 0 a _ (by omega) (by omega) (by omega) (by omega) rfl).mono ?_
  rintro e w3 ⟨rfl, x3⟩
  have n3 := (N2.out.ext x3).alloc (.cells #[.int .u8 0, .int .i64 a] 24)
  have YY := Lib.hid (X2.out.trans (x3.alloc (.cells #[.int .u8 0, .int .i64 a] 24)))
  have c0 := (N2.out.ext x3).c0; have c1 := (N2.out.ext x3).c1; have lt := (N2.out.ext x3).lt
  clear x3 n3 hne
  by_cases hf : ∃ b' n', 0 ≤ b' ∧ b' ≤ (1 : Int) ∧ 1 ≤ n' ∧ n' ≤ 40 ∧ s = ntext b' n'
  · obtain ⟨b', n', g1, g2, g3, g4, g5⟩ := hf
    have hz := str_eq g5.symm
    have G5 := Lib.hid g5
    clear g5
    go_wp2_with fail
    refine (Parse_found s b' n' _ g1 g2 g3 g4 G5.out).mono ?_
    rintro e w5 ⟨rfl, x5⟩
    have Y5 := Lib.hid (YY.out.trans (x5.alloc (.cells #[.int .u8 b', .int .i64 n'] 24)))
    clear x5
    go_wp2_with fail
    refine (valid_val b' n' 1 _ g1 (by omega) (nval1 ⟨g2, by omega, by omega⟩)).mono ?_
    rintro e w6 ⟨rfl, x6⟩
    have mm := (B2.new w5 (.int .u8 b') (.int .i64 n') 24).ext x6
    have d0 := mm.c0; have d1 := mm.c1; have d2 := mm.lt
    have Y6 := Lib.hid (Y5.out.trans x6)
    clear x6 mm
    go_wp2_with fail
    refine (Text_val b' n' _ g1 g2 g3 g4).mono ?_
    rintro e w7 ⟨rfl, x7⟩
    have Y7 := Lib.hid (Y6.out.trans x7)
    clear x7
    go_wp2_with fail
    refine (lives_calls _).mono ?_
    rintro e w8 ⟨rfl, x8⟩
    go_wp2
    go_ret
    exact ⟨rfl, Y7.out.trans x8⟩
  · have hno : noText s := fun b' n' g1 g2 g3 g4 g5 => hf ⟨b', n', g1, g2, g3, g4, g5⟩
    have Hno := Lib.hid hno
    clear hf hno
    go_wp2_with fail
    refine (Parse_none s _ hs' Hno.out).mono ?_
    rintro e w5 ⟨rfl, x5⟩
    have M5 := Lib.hid (B2.new w5 (.int .u8 0) (.int .i64 0) 24)
    have Y5 := Lib.hid (YY.out.trans (x5.alloc (.cells #[.int .u8 0, .int .i64 0] 24)))
    clear x5
    go_wp2
    obtain ⟨w6, hw6⟩ : ∃ w6, w6 = w5.alloc (.cells #[.int .u8 0, .int .i64 0] 24) := ⟨_, rfl⟩
    rw [← hw6] at M5 Y5 ⊢
    clear hw6
    go_loopw [10] (fun i wx => ∃ k : Nat, k ≤ 80 ∧ i = .int .i64 k ∧ Hid (Ext w6 wx)) (fun i _ => 80 - (intOf i).toNat)
    case atStart => exact ⟨0, Nat.zero_le _, rfl, Lib.hid (Ext.refl _)⟩
    case round =>
      obtain ⟨k, hk, rfl, H⟩ := hrel
      by_cases hlt : k < 80
      · have kb : (k : Int) < 80 := by omega
        obtain ⟨n', hn'⟩ : ∃ n' : Nat, (n' : Int) = 1 + (k : Int) % 40 := ⟨1 + k % 40, by omega⟩
        obtain ⟨b', hb'⟩ : ∃ b', b' = (k : Int) % 80 / 40 := ⟨_, rfl⟩
        have b0 : 0 ≤ b' := by omega
        have b1 : b' ≤ 1 := by omega
        have n0 : 1 ≤ n' := by omega
        have n1 : n' ≤ 40 := by omega
        have N : Hid (∀ w, Calls Tryd.prog 15 #[.int .u8 k] w fun e w' => e = .returned (.agg #[.int .u8 b', .int .i64 n']) ∧ Ext w w') := fun w => needle_val' k b' n' w (by omega) (by omega) hb' hn'
        have hz := str_ne (fun h => Hno.out b' n' b0 b1 n0 n1 h.symm)
        clear hn' hb'
        go_wp2_with fail
        refine (N.out _).mono ?_
        rintro e w7 ⟨rfl, x7⟩
        go_wp2_with fail
        refine (Text_val b' n' _ b0 b1 n0 n1).mono ?_
        rintro e w8 ⟨rfl, x8⟩
        have X8 := Lib.hid (H.out.trans (x7.trans x8))
        clear x7 x8
        go_wp2
        go_roundw
        case rel => exact ⟨k + 1, by omega, by go_num, X8⟩
        case measure => simp [intOf]; omega
      · have d0 := (M5.out.ext H.out).c0; have d1 := (M5.out.ext H.out).c1; have d2 := (M5.out.ext H.out).lt
        have Y7 := Lib.hid (Y5.out.trans H.out)
        clear H
        obtain rfl : k = 80 := by omega
        go_wp2_with fail
        refine (lives_calls _).mono ?_
        rintro e w8 ⟨rfl, x8⟩
        go_wp2
        go_ret
        exact ⟨rfl, Y7.out.trans x8⟩

set_option maxHeartbeats 2000000 in
theorem Text_ok040 (a : Nat) (s : ByteArray) (w : World) (a1 : 10 ≤ a) (a2 : a ≤ 40) (hs : s.size ≤ 20) :
    Calls Tryd.prog 6 #[.agg #[.int .u8 0, .int .i64 a], .string s] w fun e w' => e = .returned (.bool true) ∧ Ext w w' := by
  have hs' : s.size ≤ 9223372036854775807 := by omega
  have hc := conv_one
  have hz := one_size
  have hw : (⟨#[102]⟩ : ByteArray) ++ one (48 + (a : Int) / 10) ++ one (48 + (a : Int) % 10) = ntext 0 a := want40 0 a (by omega) a2
  have hne := str_nonempty (ntext_size (b := 0) (n := a) (by omega) (by omega))
  have HC := Lib.hid hc; have HW := Lib.hid hw; have HZ := Lib.hid hz; have HNE := Lib.hid hne
  clear hc hw hz hne
  go_enter Tryd.func6, Tryd.ntmps6
  go_wp2_with fail
  refine (valid_val 0 a 1 _ (by omega) (by omega) (nval1 ⟨by omega, by omega, by omega⟩)).mono ?_
  rintro e w1 ⟨rfl, x1⟩
  have n1 := (B2.new w (.int .u8 0) (.int .i64 a) 24).ext x1
  have c0 := n1.c0; have c1 := n1.c1; have lt := n1.lt
  have lt1 : w.heap.size < w1.heap.size + 1 := by omega
  have lt2 : w.heap.size < w1.heap.size + 1 + 1 := by omega
  have lt3 : w.heap.size < w1.heap.size + 1 + 1 + 1 := by omega
  have X1 := Lib.hid (((Ext.refl w).alloc (.cells #[.int .u8 0, .int .i64 a] 24)).trans x1)
  have N1 := Lib.hid n1
  have hc := HC.out; have hz := HZ.out; have hw := HW.out; have hne := HNE.out
  clear n1 x1
  go_wp2_with fail
  clear c0 c1 lt lt1 lt2 lt3 hc hz hw
  refine (Text_0 a _ (by omega) (by omega)).mono ?_
  rintro e w2 ⟨rfl, x2⟩
  have x2' : Ext w1 w2 := Ext.trans (by repeat (first | exact Ext.refl _ | refine Ext.alloc ?_ _)) x2
  have X2 := Lib.hid (X1.out.trans x2')
  have N2 := Lib.hid (N1.out.ext x2')
  clear x2 x2'
  go_wp2_with fail
  refine (Parse_found (ntext 0 a) 0 a _ (by omega) (by omega) (by omega) (by omega) rfl).mono ?_
  rintro e w3 ⟨rfl, x3⟩
  have n3 := (N2.out.ext x3).alloc (.cells #[.int .u8 0, .int .i64 a] 24)
  have YY := Lib.hid (X2.out.trans (x3.alloc (.cells #[.int .u8 0, .int .i64 a] 24)))
  have c0 := (N2.out.ext x3).c0; have c1 := (N2.out.ext x3).c1; have lt := (N2.out.ext x3).lt
  clear x3 n3 hne
  by_cases hf : ∃ b' n', 0 ≤ b' ∧ b' ≤ (1 : Int) ∧ 1 ≤ n' ∧ n' ≤ 40 ∧ s = ntext b' n'
  · obtain ⟨b', n', g1, g2, g3, g4, g5⟩ := hf
    have hz := str_eq g5.symm
    have G5 := Lib.hid g5
    clear g5
    go_wp2_with fail
    refine (Parse_found s b' n' _ g1 g2 g3 g4 G5.out).mono ?_
    rintro e w5 ⟨rfl, x5⟩
    have Y5 := Lib.hid (YY.out.trans (x5.alloc (.cells #[.int .u8 b', .int .i64 n'] 24)))
    clear x5
    go_wp2_with fail
    refine (valid_val b' n' 1 _ g1 (by omega) (nval1 ⟨g2, by omega, by omega⟩)).mono ?_
    rintro e w6 ⟨rfl, x6⟩
    have mm := (B2.new w5 (.int .u8 b') (.int .i64 n') 24).ext x6
    have d0 := mm.c0; have d1 := mm.c1; have d2 := mm.lt
    have Y6 := Lib.hid (Y5.out.trans x6)
    clear x6 mm
    go_wp2_with fail
    refine (Text_val b' n' _ g1 g2 g3 g4).mono ?_
    rintro e w7 ⟨rfl, x7⟩
    have Y7 := Lib.hid (Y6.out.trans x7)
    clear x7
    go_wp2_with fail
    refine (lives_calls _).mono ?_
    rintro e w8 ⟨rfl, x8⟩
    go_wp2
    go_ret
    exact ⟨rfl, Y7.out.trans x8⟩
  · have hno : noText s := fun b' n' g1 g2 g3 g4 g5 => hf ⟨b', n', g1, g2, g3, g4, g5⟩
    have Hno := Lib.hid hno
    clear hf hno
    go_wp2_with fail
    refine (Parse_none s _ hs' Hno.out).mono ?_
    rintro e w5 ⟨rfl, x5⟩
    have M5 := Lib.hid (B2.new w5 (.int .u8 0) (.int .i64 0) 24)
    have Y5 := Lib.hid (YY.out.trans (x5.alloc (.cells #[.int .u8 0, .int .i64 0] 24)))
    clear x5
    go_wp2
    obtain ⟨w6, hw6⟩ : ∃ w6, w6 = w5.alloc (.cells #[.int .u8 0, .int .i64 0] 24) := ⟨_, rfl⟩
    rw [← hw6] at M5 Y5 ⊢
    clear hw6
    go_loopw [10] (fun i wx => ∃ k : Nat, k ≤ 80 ∧ i = .int .i64 k ∧ Hid (Ext w6 wx)) (fun i _ => 80 - (intOf i).toNat)
    case atStart => exact ⟨0, Nat.zero_le _, rfl, Lib.hid (Ext.refl _)⟩
    case round =>
      obtain ⟨k, hk, rfl, H⟩ := hrel
      by_cases hlt : k < 80
      · have kb : (k : Int) < 80 := by omega
        obtain ⟨n', hn'⟩ : ∃ n' : Nat, (n' : Int) = 1 + (k : Int) % 40 := ⟨1 + k % 40, by omega⟩
        obtain ⟨b', hb'⟩ : ∃ b', b' = (k : Int) % 80 / 40 := ⟨_, rfl⟩
        have b0 : 0 ≤ b' := by omega
        have b1 : b' ≤ 1 := by omega
        have n0 : 1 ≤ n' := by omega
        have n1 : n' ≤ 40 := by omega
        have N : Hid (∀ w, Calls Tryd.prog 15 #[.int .u8 k] w fun e w' => e = .returned (.agg #[.int .u8 b', .int .i64 n']) ∧ Ext w w') := fun w => needle_val' k b' n' w (by omega) (by omega) hb' hn'
        have hz := str_ne (fun h => Hno.out b' n' b0 b1 n0 n1 h.symm)
        clear hn' hb'
        go_wp2_with fail
        refine (N.out _).mono ?_
        rintro e w7 ⟨rfl, x7⟩
        go_wp2_with fail
        refine (Text_val b' n' _ b0 b1 n0 n1).mono ?_
        rintro e w8 ⟨rfl, x8⟩
        have X8 := Lib.hid (H.out.trans (x7.trans x8))
        clear x7 x8
        go_wp2
        go_roundw
        case rel => exact ⟨k + 1, by omega, by go_num, X8⟩
        case measure => simp [intOf]; omega
      · have d0 := (M5.out.ext H.out).c0; have d1 := (M5.out.ext H.out).c1; have d2 := (M5.out.ext H.out).lt
        have Y7 := Lib.hid (Y5.out.trans H.out)
        clear H
        obtain rfl : k = 80 := by omega
        go_wp2_with fail
        refine (lives_calls _).mono ?_
        rintro e w8 ⟨rfl, x8⟩
        go_wp2
        go_ret
        exact ⟨rfl, Y7.out.trans x8⟩

set_option maxHeartbeats 2000000 in
theorem Text_ok19 (a : Nat) (s : ByteArray) (w : World) (a1 : 1 ≤ a) (a2 : a ≤ 9) (hs : s.size ≤ 20) :
    Calls Tryd.prog 6 #[.agg #[.int .u8 1, .int .i64 a], .string s] w fun e w' => e = .returned (.bool true) ∧ Ext w w' := by
  have hs' : s.size ≤ 9223372036854775807 := by omega
  have hc := conv_one
  have hz := one_size
  have hw : (⟨#[98]⟩ : ByteArray) ++ one (48 + (a : Int) % 10) = ntext 1 a := want9 1 a a2
  have hne := str_nonempty (ntext_size (b := 1) (n := a) (by omega) (by omega))
  have HC := Lib.hid hc; have HW := Lib.hid hw; have HZ := Lib.hid hz; have HNE := Lib.hid hne
  clear hc hw hz hne
  go_enter Tryd.func6, Tryd.ntmps6
  go_wp2_with fail
  refine (valid_val 1 a 1 _ (by omega) (by omega) (nval1 ⟨by omega, by omega, by omega⟩)).mono ?_
  rintro e w1 ⟨rfl, x1⟩
  have n1 := (B2.new w (.int .u8 1) (.int .i64 a) 24).ext x1
  have c0 := n1.c0; have c1 := n1.c1; have lt := n1.lt
  have lt1 : w.heap.size < w1.heap.size + 1 := by omega
  have lt2 : w.heap.size < w1.heap.size + 1 + 1 := by omega
  have lt3 : w.heap.size < w1.heap.size + 1 + 1 + 1 := by omega
  have X1 := Lib.hid (((Ext.refl w).alloc (.cells #[.int .u8 1, .int .i64 a] 24)).trans x1)
  have N1 := Lib.hid n1
  have hc := HC.out; have hz := HZ.out; have hw := HW.out; have hne := HNE.out
  clear n1 x1
  go_wp2_with fail
  clear c0 c1 lt lt1 lt2 lt3 hc hz hw
  refine (Text_1 a _ (by omega) (by omega)).mono ?_
  rintro e w2 ⟨rfl, x2⟩
  have x2' : Ext w1 w2 := Ext.trans (by repeat (first | exact Ext.refl _ | refine Ext.alloc ?_ _)) x2
  have X2 := Lib.hid (X1.out.trans x2')
  have N2 := Lib.hid (N1.out.ext x2')
  clear x2 x2'
  go_wp2_with fail
  refine (Parse_found (ntext 1 a) 1 a _ (by omega) (by omega) (by omega) (by omega) rfl).mono ?_
  rintro e w3 ⟨rfl, x3⟩
  have n3 := (N2.out.ext x3).alloc (.cells #[.int .u8 1, .int .i64 a] 24)
  have YY := Lib.hid (X2.out.trans (x3.alloc (.cells #[.int .u8 1, .int .i64 a] 24)))
  have c0 := (N2.out.ext x3).c0; have c1 := (N2.out.ext x3).c1; have lt := (N2.out.ext x3).lt
  clear x3 n3 hne
  by_cases hf : ∃ b' n', 0 ≤ b' ∧ b' ≤ (1 : Int) ∧ 1 ≤ n' ∧ n' ≤ 40 ∧ s = ntext b' n'
  · obtain ⟨b', n', g1, g2, g3, g4, g5⟩ := hf
    have hz := str_eq g5.symm
    have G5 := Lib.hid g5
    clear g5
    go_wp2_with fail
    refine (Parse_found s b' n' _ g1 g2 g3 g4 G5.out).mono ?_
    rintro e w5 ⟨rfl, x5⟩
    have Y5 := Lib.hid (YY.out.trans (x5.alloc (.cells #[.int .u8 b', .int .i64 n'] 24)))
    clear x5
    go_wp2_with fail
    refine (valid_val b' n' 1 _ g1 (by omega) (nval1 ⟨g2, by omega, by omega⟩)).mono ?_
    rintro e w6 ⟨rfl, x6⟩
    have mm := (B2.new w5 (.int .u8 b') (.int .i64 n') 24).ext x6
    have d0 := mm.c0; have d1 := mm.c1; have d2 := mm.lt
    have Y6 := Lib.hid (Y5.out.trans x6)
    clear x6 mm
    go_wp2_with fail
    refine (Text_val b' n' _ g1 g2 g3 g4).mono ?_
    rintro e w7 ⟨rfl, x7⟩
    have Y7 := Lib.hid (Y6.out.trans x7)
    clear x7
    go_wp2_with fail
    refine (lives_calls _).mono ?_
    rintro e w8 ⟨rfl, x8⟩
    go_wp2
    go_ret
    exact ⟨rfl, Y7.out.trans x8⟩
  · have hno : noText s := fun b' n' g1 g2 g3 g4 g5 => hf ⟨b', n', g1, g2, g3, g4, g5⟩
    have Hno := Lib.hid hno
    clear hf hno
    go_wp2_with fail
    refine (Parse_none s _ hs' Hno.out).mono ?_
    rintro e w5 ⟨rfl, x5⟩
    have M5 := Lib.hid (B2.new w5 (.int .u8 0) (.int .i64 0) 24)
    have Y5 := Lib.hid (YY.out.trans (x5.alloc (.cells #[.int .u8 0, .int .i64 0] 24)))
    clear x5
    go_wp2
    obtain ⟨w6, hw6⟩ : ∃ w6, w6 = w5.alloc (.cells #[.int .u8 0, .int .i64 0] 24) := ⟨_, rfl⟩
    rw [← hw6] at M5 Y5 ⊢
    clear hw6
    go_loopw [10] (fun i wx => ∃ k : Nat, k ≤ 80 ∧ i = .int .i64 k ∧ Hid (Ext w6 wx)) (fun i _ => 80 - (intOf i).toNat)
    case atStart => exact ⟨0, Nat.zero_le _, rfl, Lib.hid (Ext.refl _)⟩
    case round =>
      obtain ⟨k, hk, rfl, H⟩ := hrel
      by_cases hlt : k < 80
      · have kb : (k : Int) < 80 := by omega
        obtain ⟨n', hn'⟩ : ∃ n' : Nat, (n' : Int) = 1 + (k : Int) % 40 := ⟨1 + k % 40, by omega⟩
        obtain ⟨b', hb'⟩ : ∃ b', b' = (k : Int) % 80 / 40 := ⟨_, rfl⟩
        have b0 : 0 ≤ b' := by omega
        have b1 : b' ≤ 1 := by omega
        have n0 : 1 ≤ n' := by omega
        have n1 : n' ≤ 40 := by omega
        have N : Hid (∀ w, Calls Tryd.prog 15 #[.int .u8 k] w fun e w' => e = .returned (.agg #[.int .u8 b', .int .i64 n']) ∧ Ext w w') := fun w => needle_val' k b' n' w (by omega) (by omega) hb' hn'
        have hz := str_ne (fun h => Hno.out b' n' b0 b1 n0 n1 h.symm)
        clear hn' hb'
        go_wp2_with fail
        refine (N.out _).mono ?_
        rintro e w7 ⟨rfl, x7⟩
        go_wp2_with fail
        refine (Text_val b' n' _ b0 b1 n0 n1).mono ?_
        rintro e w8 ⟨rfl, x8⟩
        have X8 := Lib.hid (H.out.trans (x7.trans x8))
        clear x7 x8
        go_wp2
        go_roundw
        case rel => exact ⟨k + 1, by omega, by go_num, X8⟩
        case measure => simp [intOf]; omega
      · have d0 := (M5.out.ext H.out).c0; have d1 := (M5.out.ext H.out).c1; have d2 := (M5.out.ext H.out).lt
        have Y7 := Lib.hid (Y5.out.trans H.out)
        clear H
        obtain rfl : k = 80 := by omega
        go_wp2_with fail
        refine (lives_calls _).mono ?_
        rintro e w8 ⟨rfl, x8⟩
        go_wp2
        go_ret
        exact ⟨rfl, Y7.out.trans x8⟩

set_option maxHeartbeats 2000000 in
theorem Text_ok140 (a : Nat) (s : ByteArray) (w : World) (a1 : 10 ≤ a) (a2 : a ≤ 40) (hs : s.size ≤ 20) :
    Calls Tryd.prog 6 #[.agg #[.int .u8 1, .int .i64 a], .string s] w fun e w' => e = .returned (.bool true) ∧ Ext w w' := by
  have hs' : s.size ≤ 9223372036854775807 := by omega
  have hc := conv_one
  have hz := one_size
  have hw : (⟨#[98]⟩ : ByteArray) ++ one (48 + (a : Int) / 10) ++ one (48 + (a : Int) % 10) = ntext 1 a := want40 1 a (by omega) a2
  have hne := str_nonempty (ntext_size (b := 1) (n := a) (by omega) (by omega))
  have HC := Lib.hid hc; have HW := Lib.hid hw; have HZ := Lib.hid hz; have HNE := Lib.hid hne
  clear hc hw hz hne
  go_enter Tryd.func6, Tryd.ntmps6
  go_wp2_with fail
  refine (valid_val 1 a 1 _ (by omega) (by omega) (nval1 ⟨by omega, by omega, by omega⟩)).mono ?_
  rintro e w1 ⟨rfl, x1⟩
  have n1 := (B2.new w (.int .u8 1) (.int .i64 a) 24).ext x1
  have c0 := n1.c0; have c1 := n1.c1; have lt := n1.lt
  have lt1 : w.heap.size < w1.heap.size + 1 := by omega
  have lt2 : w.heap.size < w1.heap.size + 1 + 1 := by omega
  have lt3 : w.heap.size < w1.heap.size + 1 + 1 + 1 := by omega
  have X1 := Lib.hid (((Ext.refl w).alloc (.cells #[.int .u8 1, .int .i64 a] 24)).trans x1)
  have N1 := Lib.hid n1
  have hc := HC.out; have hz := HZ.out; have hw := HW.out; have hne := HNE.out
  clear n1 x1
  go_wp2_with fail
  clear c0 c1 lt lt1 lt2 lt3 hc hz hw
  refine (Text_1 a _ (by omega) (by omega)).mono ?_
  rintro e w2 ⟨rfl, x2⟩
  have x2' : Ext w1 w2 := Ext.trans (by repeat (first | exact Ext.refl _ | refine Ext.alloc ?_ _)) x2
  have X2 := Lib.hid (X1.out.trans x2')
  have N2 := Lib.hid (N1.out.ext x2')
  clear x2 x2'
  go_wp2_with fail
  refine (Parse_found (ntext 1 a) 1 a _ (by omega) (by omega) (by omega) (by omega) rfl).mono ?_
  rintro e w3 ⟨rfl, x3⟩
  have n3 := (N2.out.ext x3).alloc (.cells #[.int .u8 1, .int .i64 a] 24)
  have YY := Lib.hid (X2.out.trans (x3.alloc (.cells #[.int .u8 1, .int .i64 a] 24)))
  have c0 := (N2.out.ext x3).c0; have c1 := (N2.out.ext x3).c1; have lt := (N2.out.ext x3).lt
  clear x3 n3 hne
  by_cases hf : ∃ b' n', 0 ≤ b' ∧ b' ≤ (1 : Int) ∧ 1 ≤ n' ∧ n' ≤ 40 ∧ s = ntext b' n'
  · obtain ⟨b', n', g1, g2, g3, g4, g5⟩ := hf
    have hz := str_eq g5.symm
    have G5 := Lib.hid g5
    clear g5
    go_wp2_with fail
    refine (Parse_found s b' n' _ g1 g2 g3 g4 G5.out).mono ?_
    rintro e w5 ⟨rfl, x5⟩
    have Y5 := Lib.hid (YY.out.trans (x5.alloc (.cells #[.int .u8 b', .int .i64 n'] 24)))
    clear x5
    go_wp2_with fail
    refine (valid_val b' n' 1 _ g1 (by omega) (nval1 ⟨g2, by omega, by omega⟩)).mono ?_
    rintro e w6 ⟨rfl, x6⟩
    have mm := (B2.new w5 (.int .u8 b') (.int .i64 n') 24).ext x6
    have d0 := mm.c0; have d1 := mm.c1; have d2 := mm.lt
    have Y6 := Lib.hid (Y5.out.trans x6)
    clear x6 mm
    go_wp2_with fail
    refine (Text_val b' n' _ g1 g2 g3 g4).mono ?_
    rintro e w7 ⟨rfl, x7⟩
    have Y7 := Lib.hid (Y6.out.trans x7)
    clear x7
    go_wp2_with fail
    refine (lives_calls _).mono ?_
    rintro e w8 ⟨rfl, x8⟩
    go_wp2
    go_ret
    exact ⟨rfl, Y7.out.trans x8⟩
  · have hno : noText s := fun b' n' g1 g2 g3 g4 g5 => hf ⟨b', n', g1, g2, g3, g4, g5⟩
    have Hno := Lib.hid hno
    clear hf hno
    go_wp2_with fail
    refine (Parse_none s _ hs' Hno.out).mono ?_
    rintro e w5 ⟨rfl, x5⟩
    have M5 := Lib.hid (B2.new w5 (.int .u8 0) (.int .i64 0) 24)
    have Y5 := Lib.hid (YY.out.trans (x5.alloc (.cells #[.int .u8 0, .int .i64 0] 24)))
    clear x5
    go_wp2
    obtain ⟨w6, hw6⟩ : ∃ w6, w6 = w5.alloc (.cells #[.int .u8 0, .int .i64 0] 24) := ⟨_, rfl⟩
    rw [← hw6] at M5 Y5 ⊢
    clear hw6
    go_loopw [10] (fun i wx => ∃ k : Nat, k ≤ 80 ∧ i = .int .i64 k ∧ Hid (Ext w6 wx)) (fun i _ => 80 - (intOf i).toNat)
    case atStart => exact ⟨0, Nat.zero_le _, rfl, Lib.hid (Ext.refl _)⟩
    case round =>
      obtain ⟨k, hk, rfl, H⟩ := hrel
      by_cases hlt : k < 80
      · have kb : (k : Int) < 80 := by omega
        obtain ⟨n', hn'⟩ : ∃ n' : Nat, (n' : Int) = 1 + (k : Int) % 40 := ⟨1 + k % 40, by omega⟩
        obtain ⟨b', hb'⟩ : ∃ b', b' = (k : Int) % 80 / 40 := ⟨_, rfl⟩
        have b0 : 0 ≤ b' := by omega
        have b1 : b' ≤ 1 := by omega
        have n0 : 1 ≤ n' := by omega
        have n1 : n' ≤ 40 := by omega
        have N : Hid (∀ w, Calls Tryd.prog 15 #[.int .u8 k] w fun e w' => e = .returned (.agg #[.int .u8 b', .int .i64 n']) ∧ Ext w w') := fun w => needle_val' k b' n' w (by omega) (by omega) hb' hn'
        have hz := str_ne (fun h => Hno.out b' n' b0 b1 n0 n1 h.symm)
        clear hn' hb'
        go_wp2_with fail
        refine (N.out _).mono ?_
        rintro e w7 ⟨rfl, x7⟩
        go_wp2_with fail
        refine (Text_val b' n' _ b0 b1 n0 n1).mono ?_
        rintro e w8 ⟨rfl, x8⟩
        have X8 := Lib.hid (H.out.trans (x7.trans x8))
        clear x7 x8
        go_wp2
        go_roundw
        case rel => exact ⟨k + 1, by omega, by go_num, X8⟩
        case measure => simp [intOf]; omega
      · have d0 := (M5.out.ext H.out).c0; have d1 := (M5.out.ext H.out).c1; have d2 := (M5.out.ext H.out).lt
        have Y7 := Lib.hid (Y5.out.trans H.out)
        clear H
        obtain rfl : k = 80 := by omega
        go_wp2_with fail
        refine (lives_calls _).mono ?_
        rintro e w8 ⟨rfl, x8⟩
        go_wp2
        go_ret
        exact ⟨rfl, Y7.out.trans x8⟩

theorem NeedlesText_walk (b a : Int) (s : ByteArray) (w : World) (hb : 0 ≤ b ∧ b ≤ 255) (hm : s.size ≤ 9223372036854775807) :
    Calls Tryd.prog 6 #[.agg #[.int .u8 b, .int .i64 a], .string s] w fun e w' => e = .returned (.bool true) ∧ Ext w w' := by
  by_cases hs : 20 < s.size
  · exact Text_len s _ w b a rfl hs hm
  by_cases hv : b ≤ 1 ∧ 1 ≤ a ∧ a ≤ 40
  · obtain ⟨n, rfl⟩ := Int.eq_ofNat_of_zero_le (show 0 ≤ a by omega)
    rcases (show b = 0 ∨ b = 1 by omega) with rfl | rfl
    · by_cases h9 : n ≤ 9
      · exact Text_ok09 n s w (by omega) h9 (by omega)
      · exact Text_ok040 n s w (by omega) (by omega) (by omega)
    · by_cases h9 : n ≤ 9
      · exact Text_ok19 n s w (by omega) h9 (by omega)
      · exact Text_ok140 n s w (by omega) (by omega) (by omega)
  · exact Text_bad' b a s w hb.1 hb.2 hv (by omega)
end Go.Proofs.YthjihkclccpnhaaDoor
