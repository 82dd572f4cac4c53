/- Contracts of chapter 1: Text, Parse. -/
import Derived.Test.YthjihkclccpnhaaDoorNc
import Derived.Lib.ConvBytes
import Derived.Lib.SmallJoins
import Derived.Outline
namespace Go.Proofs.YthjihkclccpnhaaDoor
set_option linter.unusedVariables false
set_option linter.unusedSimpArgs false
open Go Go.RowKit

/-- The bytes of a needle's text. -/
def nbytes (b : Int) (a : Nat) : List UInt8 := (if b = 1 then 98 else 102) :: Lib.decDigits a
def ntext (b : Int) (a : Nat) : ByteArray := ⟨(nbytes b a).toArray⟩

theorem digits1 {a : Nat} (h : a < 10) : Lib.decDigits a = [UInt8.ofNat (48 + a)] := by rw [Lib.decDigits, dif_pos h]
theorem digits2 {a : Nat} (h : ¬ a < 10) (h2 : a < 100) : Lib.decDigits a = [UInt8.ofNat (48 + a / 10), UInt8.ofNat (48 + a % 10)] := by
  rw [Lib.decDigits, dif_neg h, digits1 (by omega)]; rfl
theorem digits_len {a : Nat} (h : a < 100) : (Lib.decDigits a).length ≤ 2 := by
  by_cases h1 : a < 10
  · rw [digits1 h1]; simp
  · rw [digits2 h1 h]; simp

theorem Text_bad (b a : Int) (w : World) (h1 : 0 ≤ b) (h2 : b ≤ 255) (hv : ¬ (b ≤ 1 ∧ 1 ≤ a ∧ a ≤ 40)) :
    Calls Tryd.prog 17 #[.agg #[.int .u8 b, .int .i64 a]] w fun e w' => e = .returned (.string ⟨#[]⟩) ∧ Ext w w' := by
  have hc := fun w => Check_calls b a w h1 h2
  rw [nval0 hv] at hc
  have Hc := Lib.hid hc; clear hc hv
  go_enter Tryd.func17, Tryd.ntmps17
  go_wp2_with fail
  refine (Hc.out _).mono ?_
  rintro e w1 ⟨rfl, x1⟩
  go_wp2
  go_ret
  exact ⟨rfl, ((Ext.refl w).alloc _).trans x1⟩

theorem Text_0 (a : Nat) (w : World) (h1 : 1 ≤ a) (h2 : a ≤ 40) :
    Calls Tryd.prog 17 #[.agg #[.int .u8 0, .int .i64 a]] w fun e w' => e = .returned (.string (ntext 0 a)) ∧ Ext w w' := by
  have hc := fun w => Check_calls 0 a w (by omega) (by omega)
  rw [nval1 ⟨by omega, by omega, by omega⟩] at hc
  have Hc := Lib.hid hc; clear hc
  go_enter Tryd.func17, Tryd.ntmps17
  go_wp2_with fail
  refine (Hc.out _).mono ?_
  rintro e w1 ⟨rfl, x1⟩
  have ha := (B2.new w (.int .u8 0) (.int .i64 a) 24).ext x1
  have c0 := ha.c0; have c1 := ha.c1
  have X1 := Lib.hid (((Ext.refl w).alloc _).trans x1)
  clear ha x1
  have hl := digits_len (a := a) (by omega)
  go_wp2_with fail
  refine (Tryd.strconv_Itoa_small a (by omega) _).mono ?_
  rintro e w2 ⟨rfl, rfl⟩
  go_wp2
  go_ret
  exact ⟨congrArg (fun x => Ending.returned (.string x)) (by unfold ntext nbytes; apply ByteArray.ext; simp [ByteArray.data_append]), X1.out⟩

theorem Text_1 (a : Nat) (w : World) (h1 : 1 ≤ a) (h2 : a ≤ 40) :
    Calls Tryd.prog 17 #[.agg #[.int .u8 1, .int .i64 a]] w fun e w' => e = .returned (.string (ntext 1 a)) ∧ Ext w w' := by
  have hc := fun w => Check_calls 1 a w (by omega) (by omega)
  rw [nval1 ⟨by omega, by omega, by omega⟩] at hc
  have Hc := Lib.hid hc; clear hc
  go_enter Tryd.func17, Tryd.ntmps17
  go_wp2_with fail
  refine (Hc.out _).mono ?_
  rintro e w1 ⟨rfl, x1⟩
  have ha := (B2.new w (.int .u8 1) (.int .i64 a) 24).ext x1
  have c0 := ha.c0; have c1 := ha.c1
  have X1 := Lib.hid (((Ext.refl w).alloc _).trans x1)
  clear ha x1
  have hl := digits_len (a := a) (by omega)
  go_wp2_with fail
  refine (Tryd.strconv_Itoa_small a (by omega) _).mono ?_
  rintro e w2 ⟨rfl, rfl⟩
  go_wp2
  go_ret
  exact ⟨congrArg (fun x => Ending.returned (.string x)) (by unfold ntext nbytes; apply ByteArray.ext; simp [ByteArray.data_append]), X1.out⟩

/-- The digits of a text behind its first letter, as a number. -/
def dvf (l : List UInt8) : Nat → Int
  | 0 => 0
  | k + 1 => 10 * dvf l k + (((l.getD k 0).toNat : Int) - 48)
def isdig (l : List UInt8) (k : Nat) : Prop := ∀ j, j < k → 48 ≤ ((l.getD j 0).toNat : Int) ∧ ((l.getD j 0).toNat : Int) ≤ 57
theorem dvf_bd {l : List UInt8} {k : Nat} (h : isdig l k) (hk : k ≤ 2) : 0 ≤ dvf l k ∧ dvf l k ≤ 99 := by
  have h0 := h 0
  have h1 := h 1
  rcases (show k = 0 ∨ k = 1 ∨ k = 2 by omega) with rfl | rfl | rfl
  · simp [dvf]
  · have := h0 (by omega); simp only [dvf]; omega
  · have := h0 (by omega); have := h1 (by omega); simp only [dvf]; omega

/-- The digits of a needle's text. -/
theorem nbytes_inv {b : Int} {a : Nat} (h1 : 1 ≤ a) (h2 : a ≤ 40) : ∃ l : List UInt8, nbytes b a = (if b = 1 then 98 else 102) :: l ∧ 1 ≤ l.length ∧ l.length ≤ 2 ∧ isdig l l.length ∧ dvf l l.length = a := by
  refine ⟨Lib.decDigits a, rfl, ?_⟩
  by_cases h : a < 10
  · rw [digits1 h]
    refine ⟨by simp, by simp, ?_, ?_⟩
    · intro j hj
      have : j = 0 := by simpa using hj
      subst this
      simp [UInt8.toNat_ofNat']; omega
    · simp [dvf, UInt8.toNat_ofNat']; omega
  · rw [digits2 h (by omega)]
    refine ⟨by simp, by simp, ?_, ?_⟩
    · intro j hj
      rcases (show j = 0 ∨ j = 1 by simp at hj; omega) with rfl | rfl
      · simp [UInt8.toNat_ofNat']; omega
      · simp [UInt8.toNat_ofNat']; omega
    · simp [dvf, UInt8.toNat_ofNat']; omega
end Go.Proofs.YthjihkclccpnhaaDoor
