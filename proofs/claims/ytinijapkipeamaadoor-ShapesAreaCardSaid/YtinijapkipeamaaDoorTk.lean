/- shapes.narrower. -/
import Derived.Test.YtinijapkipeamaaDoorTj
namespace Go.Proofs.YtinijapkipeamaaDoor
set_option linter.unusedVariables false
set_option linter.unusedSimpArgs false
set_option maxRecDepth 8000
open Go Go.RowKit

/-- The rows of a narrower row. -/
def narR (n : Nat) (l r : Bool) : List (List St) := [List.replicate (cnt l) (kst 4), List.replicate (n - 2 * cnt l - 2 * cnt r) (kst 1), List.replicate (cnt r) (kst 4)]
set_option maxHeartbeats 2000000 in
theorem narrower_calls (n : Nat) (l r : Bool) (w : World) (hn : 2 * cnt l + 2 * cnt r ≤ n ∧ 1 ≤ n ∧ n ≤ 100) : Calls Tryd.prog 48 #[.int .i64 n, .bool l, .bool r] w (RetRO w (narR n l r).flatten) := by
  have hpos : 0 < (narR n l r).flatten.length := by simp [narR]; omega
  have hl := cnt_le l
  have hr := cnt_le r
  have K1 := Lib.hid (fun w => kinds_calls 4 (cnt l) w (by omega))
  have K2 := Lib.hid (fun w => kinds_calls 1 (n - 2 * cnt l - 2 * cnt r) w (by omega))
  have K3 := Lib.hid (fun w => kinds_calls 4 (cnt r) w (by omega))
  have C1 := Lib.hid (fun w => count_calls2 l w)
  have C2 := Lib.hid (fun w => count_calls2 r w)
  obtain ⟨N, hN⟩ : ∃ N, N = n - 2 * cnt l - 2 * cnt r := ⟨_, rfl⟩
  obtain ⟨L, hL⟩ : ∃ L, L = cnt l := ⟨_, rfl⟩
  obtain ⟨R, hR⟩ : ∃ R, R = cnt r := ⟨_, rfl⟩
  have t0 : IntKind.i64.wrap (2 * (L : Int)) = 2 * (L : Int) := IntWalk.i64_in _ ⟨by omega, by omega⟩
  have t1 : IntKind.i64.wrap ((n : Int) - 2 * (L : Int)) = (n : Int) - 2 * (L : Int) := IntWalk.i64_in _ ⟨by omega, by omega⟩
  have t2 : IntKind.i64.wrap (2 * (R : Int)) = 2 * (R : Int) := IntWalk.i64_in _ ⟨by omega, by omega⟩
  have t3 : IntKind.i64.wrap ((n : Int) - 2 * (L : Int) - 2 * (R : Int)) = (N : Int) := by rw [show (n : Int) - 2 * (L : Int) - 2 * (R : Int) = (N : Int) by omega]; exact IntWalk.i64_in _ ⟨by omega, by omega⟩
  rw [← hN] at K2
  rw [← hL] at hl K1 C1
  rw [← hR] at hr K3 C2
  have HN := Lib.hid hN; have HL := Lib.hid hL; have HR := Lib.hid hR; have HP := Lib.hid hpos
  have hN2 : N ≤ 100 := by omega
  have hn1 := hn.1
  have hn3 := hn.2.2
  rw [← hL, ← hR] at hn1
  clear hN hL hR hpos hn
  go_enter Tryd.func48, Tryd.ntmps48
  go_wp2_with fail
  refine (C1.out _).mono ?_
  rintro e w1' ⟨rfl, hw⟩
  obtain rfl := hw
  go_wp2_with fail
  refine (K1.out _).mono ?_
  rintro e w1 ⟨g1, c1, m1, rfl, hm1, hg1, hro1, hx1⟩
  have H1 := Lib.hid (And.intro hm1 (And.intro hg1 hro1)); have X1 := Lib.hid hx1
  clear hm1 hg1 hro1 hx1
  go_wp2_with fail
  refine (C1.out _).mono ?_
  rintro e w1' ⟨rfl, hw⟩
  obtain rfl := hw
  go_wp2_with fail
  refine (C2.out _).mono ?_
  rintro e w1' ⟨rfl, hw⟩
  obtain rfl := hw
  go_wp2_with fail
  refine (K2.out _).mono ?_
  rintro e w2 ⟨g2, c2, m2, rfl, hm2, hg2, hro2, hx2⟩
  have H2 := Lib.hid (And.intro hm2 (And.intro hg2 hro2)); have X2 := Lib.hid hx2
  clear hm2 hg2 hro2 hx2
  go_wp2_with fail
  refine (C2.out _).mono ?_
  rintro e w3' ⟨rfl, hw⟩
  obtain rfl := hw
  go_wp2_with fail
  refine (K3.out _).mono ?_
  rintro e w3 ⟨g3, c3, m3, rfl, hm3, hg3, hro3, hx3⟩
  have H3 := Lib.hid (And.intro hm3 (And.intro hg3 hro3)); have X3 := Lib.hid hx3
  clear hm3 hg3 hro3 hx3
  obtain ⟨W, hW⟩ : ∃ W : World, W = w3.alloc (.cells #[.slice (some ⟨g1, 0, none⟩) m1 c1, .slice (some ⟨g2, 0, none⟩) m2 c2, .slice (some ⟨g3, 0, none⟩) m3 c3] 48) := ⟨_, rfl⟩
  have hX : Ext w3 W := by rw [hW]; exact (Ext.refl w3).alloc _
  have hXX := X1.out.trans (X2.out.trans X3.out)
  have hJ : Calls Tryd.prog 63 #[.slice (some ⟨w3.heap.size, 0, none⟩) 3 3] W (RetRO W (narR n l r).flatten) := by
    have e1 := H1.out.1; have e2 := H2.out.1; have e3 := H3.out.1
    simp only [List.length_replicate] at e1 e2 e3
    have hc : ∀ i v, (#[.slice (some ⟨g1, 0, none⟩) m1 c1, .slice (some ⟨g2, 0, none⟩) m2 c2, .slice (some ⟨g3, 0, none⟩) m3 c3] : Array Value)[i]? = some v → W.cell? ⟨w3.heap.size, i, none⟩ = some v := fun i v h => by
      rw [hW]; simp only [World.cell?, blk_at rfl]; simpa using h
    refine joined_calls (narR n l r) W w3.heap.size 3 (fun i => [g1, g2, g3].getD i 0) (fun i => [c1, c2, c3].getD i 0) rfl HP.out (by decide) (fun i hi => ?_)
    match i, hi with
    | 0, _ => exact ⟨hc 0 _ (by rw [e1, HL.out]; simp [narR, sw]), by have := (H1.out.2.2.ext (X2.out.trans X3.out)).ext hX; rw [HL.out] at this; exact this, by have := cnt_le l; simp [narR, sw]; omega⟩
    | 1, _ => exact ⟨hc 1 _ (by rw [e2, HN.out]; simp [narR, sw]), by have := (H2.out.2.2.ext X3.out).ext hX; rw [HN.out] at this; exact this, by simp [narR, sw]; omega⟩
    | 2, _ => exact ⟨hc 2 _ (by rw [e3, HR.out]; simp [narR, sw]), by have := H3.out.2.2.ext hX; rw [HR.out] at this; exact this, by have := cnt_le r; simp [narR, sw]; omega⟩
  rw [hW] at hJ
  have HJ := Lib.hid hJ
  have HXX := Lib.hid (hXX.trans (by rw [hW] at hX; exact hX))
  clear hJ hX hXX hW H1 H2 H3 X1 X2 X3 HN HL HR HP
  go_wp2_with fail
  refine HJ.out.mono ?_
  rintro e w6 ⟨g, c, m, rfl, hm, hg, hro, hx⟩
  have H := Lib.hid (And.intro hm (And.intro (Nat.le_trans HXX.out.size hg) (And.intro hro (HXX.out.trans hx))))
  clear hm hg hro hx HJ
  go_wp2
  go_ret
  exact ⟨g, c, m, rfl, H.out.1, H.out.2.1, H.out.2.2.1, H.out.2.2.2⟩
end Go.Proofs.YtinijapkipeamaaDoor
