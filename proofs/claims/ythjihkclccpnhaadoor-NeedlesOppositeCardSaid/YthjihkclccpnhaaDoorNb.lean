/- Contracts of chapter 1: At. -/
import Derived.Test.YthjihkclccpnhaaDoorNa
import Derived.Test.YthjihkclccpnhaaDoorLibd
import Derived.Deep.LoopGhost
import Derived.Outline
namespace Go.Proofs.YthjihkclccpnhaaDoor
set_option linter.unusedVariables false
set_option linter.unusedSimpArgs false
open Go Go.RowKit

/-- What At returns at a valid rack. -/
def RetAt (s r : Int) (w : World) (e : Ending) (w' : World) : Prop :=
  ∃ b a c : Int, e = .returned (.tuple #[.agg #[.int .u8 b, .int .i64 a], .int .i64 c]) ∧ Ext w w' ∧
    ((c = 0 ∧ 0 ≤ b ∧ b ≤ 1 ∧ 1 ≤ a ∧ a ≤ 40 ∧ nspot b a r = s) ∨ (c = 7 ∧ b = 0 ∧ a = 0 ∧ ∀ b' a', 0 ≤ b' → b' ≤ 1 → 1 ≤ a' → a' ≤ 40 → nspot b' a' r ≠ s))

set_option maxHeartbeats 1000000 in
theorem At_ok (s r : Int) (w : World) (hr : -4 ≤ r ∧ r ≤ 4) :
    Calls Tryd.prog 13 #[.int .i64 s, .int .i64 r] w (RetAt s r w) := by
  have hk := fun w => racked_calls r w
  rw [rval1 hr] at hk
  have Hk := Lib.hid hk; clear hk
  obtain ⟨r1, r2⟩ := hr
  have i0 : ∀ w, (Instr.index 43 (.agg #[.int .u8 0, .int .u8 1]) (.int .i64 0)).run Tryd.prog w = .ok (.int .u8 0) w := fun _ => by kernel_rfl
  have i1 : ∀ w, (Instr.index 43 (.agg #[.int .u8 0, .int .u8 1]) (.int .i64 1)).run Tryd.prog w = .ok (.int .u8 1) w := fun _ => by kernel_rfl
  have I0 := Lib.hid i0; have I1 := Lib.hid i1; clear i0 i1
  go_enter Tryd.func13, Tryd.ntmps13
  go_wp2
  go_step3
  go_wp2_with fail
  refine (Hk.out _).mono ?_
  rintro e w1 ⟨rfl, rfl⟩
  go_wp2
  go_step3
  go_wp2
  clear Hk
  have hb0 := (B2.new w (.int .u8 0) (.int .i64 0) 24).alloc (.cells #[.int .u8 0, .int .i64 0] 24)
  have hb1 := B2.new (w.alloc (.cells #[.int .u8 0, .int .i64 0] 24)) (.int .u8 0) (.int .i64 0) 24
  have hx : Ext w ((w.alloc (.cells #[.int .u8 0, .int .i64 0] 24)).alloc (.cells #[.int .u8 0, .int .i64 0] 24)) := ((Ext.refl w).alloc _).alloc _
  rw [show (w.alloc (.cells #[.int .u8 0, .int .i64 0] 24)).heap.size = w.heap.size + 1 by simp] at hb1
  obtain ⟨w0, hw0⟩ : ∃ w0, w0 = ((w.alloc (.cells #[.int .u8 0, .int .i64 0] 24)).alloc (.cells #[.int .u8 0, .int .i64 0] 24)) := ⟨_, rfl⟩
  rw [← hw0] at hb0 hb1 hx ⊢
  have HB0 := Lib.hid hb0; have HB1 := Lib.hid hb1; have HX := Lib.hid hx
  clear hw0 hb0 hb1 hx
  go_loopg [7, 9, 10, 11, 18, 19, 20, 21, 22, 23, 24, 25, 26, 27, 28, 29, 30, 31, 32, 34, 35] 2 (fun g s7 _ _ _ s18 _ _ _ _ _ _ _ _ _ _ _ _ _ _ _ _ wx => ∃ k : Nat, k + g = 2 ∧ s7 = .int .i64 7 ∧ s18 = .int .i64 k ∧ Hid (Ext w0 wx ∧ ∀ b' a' : Int, 0 ≤ b' → b' < k → 1 ≤ a' → a' ≤ 40 → nspot b' a' r ≠ s))
  case atStart => exact ⟨0, rfl, rfl, rfl, Lib.hid ⟨Ext.refl _, fun b' a' h1 h2 _ _ => by omega⟩⟩
  case round =>
    obtain ⟨k, hk, rfl, rfl, H⟩ := hrel
    by_cases hlt : k < 2
    · obtain ⟨bed, hbed⟩ : ∃ bed : Int, bed = k := ⟨_, rfl⟩
      have hi : ∀ w, (Instr.index 43 (.agg #[.int .u8 0, .int .u8 1]) (.int .i64 k)).run Tryd.prog w = .ok (.int .u8 bed) w := by
        rcases (show k = 0 ∨ k = 1 by omega) with rfl | rfl
        · rw [hbed]; exact I0.out
        · rw [hbed]; exact I1.out
      have hbd0 : 0 ≤ bed := by omega
      have hbd1 : bed ≤ 1 := by omega
      have HB := Lib.hid hbed; clear hbed
      have hd : decide ((k : Int) < 2) = true := by simp; omega
      go_wp2
      go_loopg [7, 10, 11, 21, 22, 23, 24, 25, 26, 27, 28, 29, 30, 31, 32, 34] 40 (fun g2 s7 _ _ s21 _ _ _ _ _ _ _ _ _ _ _ _ wy => ∃ i : Nat, i + g2 = 40 ∧ s7 = .int .i64 7 ∧ s21 = .int .i64 i ∧ Hid (Ext w0 wy ∧ ∀ a' : Int, 1 ≤ a' → a' ≤ i → nspot bed a' r ≠ s))
      case atStart => exact ⟨0, rfl, rfl, rfl, Lib.hid ⟨H.out.1, fun a' h1 h2 => by omega⟩⟩
      case round =>
        obtain ⟨i, hi40, rfl, rfl, H2⟩ := hrel
        by_cases hi2 : i < 40
        · have hsp := fun w => Spot_calls bed (i + 1) r w hbd0 (by omega)
          rw [nspotF_ok ⟨hbd1, by omega, by omega, r1, r2⟩] at hsp
          have Hsp := Lib.hid hsp
          clear hsp
          go_wp2_with fail
          refine (Hsp.out _).mono ?_
          rintro e w3 ⟨rfl, x3⟩
          have X3 := Lib.hid (H2.out.1.trans (((Ext.refl _).alloc _).trans x3))
          by_cases hs : nspot bed (i + 1) r = s
          · have hs' : (nspot bed (i + 1) r == s) = true := by simpa using hs
            have Hs := Lib.hid hs; clear hs
            have mb := ((B2.new wr (.int .u8 bed) (.int .i64 (i + 1)) 24)).ext x3
            have m0 := mb.c0
            have m1 := mb.c1
            have c0 := (HB1.out.ext X3.out).c0
            have c1 := (HB1.out.ext X3.out).c1
            have f0 := (HB1.out.ext X3.out).f0
            have f1 := (HB1.out.ext X3.out).f1
            have d0 := (HB0.out.ext X3.out).c0
            have d1 := (HB0.out.ext X3.out).c1
            have g0 := (HB0.out.ext X3.out).f0
            have g1 := (HB0.out.ext X3.out).f1
            clear x3 mb
            go_wp2
            rw [Exit.noGoto_ret]
            refine bodyPost_ret (v := .tuple #[.agg #[.int .u8 bed, .int .i64 (i + 1)], .int .i64 0]) (by simp [results, Tryd.results13, go_sem, d0, d1]) rfl ?_
            exact ⟨bed, i + 1, 0, rfl, ((((HX.out.trans X3.out).setCell (by simp) _).setCell (by simp) _).setCell (by simp) _).setCell (by simp) _, .inl ⟨rfl, hbd0, hbd1, by omega, by omega, Hs.out⟩⟩
          · have hs' : (nspot bed (i + 1) r == s) = false := by simpa using hs
            have Hs := Lib.hid hs; clear hs x3
            go_wp2
            go_roundg (39 - i)
            case measure => omega
            case rel => exact ⟨i + 1, by omega, rfl, by go_num, Lib.hid ⟨X3.out, fun a' h1 h2 => by
              by_cases e : a' ≤ i
              · exact H2.out.2 a' h1 e
              · rw [show a' = (i : Int) + 1 by omega]; exact Hs.out⟩⟩
        · go_wp2
          obtain rfl : i = 40 := by omega
          go_roundg (1 - k)
          case measure => omega
          case rel => exact ⟨k + 1, by omega, rfl, by go_num, Lib.hid ⟨H2.out.1, fun b' a' h1 h2 h3 h4 => by
              by_cases e : b' < k
              · exact H.out.2 b' a' h1 e h3 h4
              · rw [show b' = bed by have := HB.out; omega]; exact H2.out.2 a' h3 (by omega)⟩⟩
    · have c0 := (HB1.out.ext H.out.1).c0
      have c1 := (HB1.out.ext H.out.1).c1
      have d0 := (HB0.out.ext H.out.1).c0
      have d1 := (HB0.out.ext H.out.1).c1
      have f0 := (HB0.out.ext H.out.1).f0
      have f1 := (HB0.out.ext H.out.1).f1
      obtain rfl : k = 2 := by omega
      go_wp2
      rw [Exit.noGoto_ret]
      refine bodyPost_ret (v := .tuple #[.agg #[.int .u8 0, .int .i64 0], .int .i64 7]) (by simp [results, Tryd.results13, go_sem, d0, d1]) rfl ?_
      exact ⟨0, 0, 7, rfl, ((HX.out.trans H.out.1).setCell (by simp) _).setCell (by simp) _, .inr ⟨rfl, rfl, rfl, fun b' a' h1 h2 h3 h4 => H.out.2 b' a' h1 (by omega) h3 h4⟩⟩
end Go.Proofs.YthjihkclccpnhaaDoor
