/- shapes.plain, wider, narrower. -/
import Derived.Test.YtinijapkipeamaaDoorTi
namespace Go.Proofs.YtinijapkipeamaaDoor
set_option linter.unusedVariables false
set_option linter.unusedSimpArgs false
set_option maxRecDepth 8000
open Go Go.RowKit

def cnt (b : Bool) : Nat := if b then 1 else 0
theorem cnt_le (b : Bool) : cnt b ≤ 1 := by cases b <;> simp [cnt]
theorem count_calls2 (b : Bool) (w : World) : Calls Tryd.prog 64 #[.bool b] w fun e w' => e = .returned (.int .i64 ((cnt b : Nat) : Int)) ∧ w = w' := by
  refine (count_calls b w).mono ?_
  rintro e w' ⟨rfl, rfl⟩
  cases b <;> exact ⟨rfl, rfl⟩
theorem plain_calls (n : Nat) (l r : Bool) (w : World) (hn : n ≤ 1000) : Calls Tryd.prog 46 #[.int .i64 n, .bool l, .bool r] w (RetRO w (List.replicate n (kst 1))) := by
  have HK := Lib.hid (kinds_calls 1 n w hn)
  go_enter Tryd.func46, Tryd.ntmps46
  go_wp2_with fail
  refine HK.out.mono ?_
  rintro e w1 ⟨g, c, m, rfl, hm, hg, hro, hx⟩
  have H := Lib.hid (And.intro hm (And.intro hg (And.intro hro hx)))
  clear hm hg hro hx HK
  go_wp2
  go_ret
  exact ⟨g, c, m, rfl, H.out.1, H.out.2.1, H.out.2.2.1, H.out.2.2.2⟩

/-- The rows of a wider row. -/
def widR (n : Nat) (l r : Bool) : List (List St) := [List.replicate 1 (kst 1), List.replicate (cnt l) (kst 3), List.replicate (n - 2) (kst 1), List.replicate (cnt r) (kst 3), List.replicate 1 (kst 1)]
set_option maxHeartbeats 2000000 in
theorem wider_calls (n : Nat) (l r : Bool) (w : World) (hn : 2 ≤ n ∧ n ≤ 100) : Calls Tryd.prog 47 #[.int .i64 n, .bool l, .bool r] w (RetRO w (widR n l r).flatten) := by
  have hl := cnt_le l
  have hr := cnt_le r
  have K1 := Lib.hid (fun w => kinds_calls 1 1 w (by omega))
  have K2 := Lib.hid (fun w => kinds_calls 3 (cnt l) w (by omega))
  have K3 := Lib.hid (fun w => kinds_calls 1 (n - 2) w (by omega))
  have K4 := Lib.hid (fun w => kinds_calls 3 (cnt r) w (by omega))
  have C1 := Lib.hid (fun w => count_calls2 l w)
  have C2 := Lib.hid (fun w => count_calls2 r w)
  have t1 : IntKind.i64.wrap ((n : Int) - 2) = ((n - 2 : Nat) : Int) := by rw [show (n : Int) - 2 = ((n - 2 : Nat) : Int) by omega]; exact IntWalk.i64_in _ ⟨by omega, by omega⟩
  obtain ⟨N, hN⟩ : ∃ N, N = n - 2 := ⟨_, rfl⟩
  obtain ⟨L, hL⟩ : ∃ L, L = cnt l := ⟨_, rfl⟩
  obtain ⟨R, hR⟩ : ∃ R, R = cnt r := ⟨_, rfl⟩
  rw [← hN] at t1 K3
  rw [← hL] at hl K2 C1
  rw [← hR] at hr K4 C2
  have HN := Lib.hid hN; have HL := Lib.hid hL; have HR := Lib.hid hR
  have hN2 : N ≤ 98 := by omega
  clear hN hL hR
  go_enter Tryd.func47, Tryd.ntmps47
  go_wp2_with fail
  refine (K1.out _).mono ?_
  rintro e w1 ⟨g1, c1, m1, rfl, hm1, hg1, hro1, hx1⟩
  have H1 := Lib.hid (And.intro hm1 (And.intro hg1 hro1)); have X1 := Lib.hid hx1
  clear hm1 hg1 hro1 hx1
  go_wp2_with fail
  refine (C1.out _).mono ?_
  rintro e w1' ⟨rfl, hw⟩
  obtain rfl := hw
  go_wp2_with fail
  refine (K2.out _).mono ?_
  rintro e w2 ⟨g2, c2, m2, rfl, hm2, hg2, hro2, hx2⟩
  have H2 := Lib.hid (And.intro hm2 (And.intro hg2 hro2)); have X2 := Lib.hid hx2
  clear hm2 hg2 hro2 hx2
  go_wp2_with fail
  refine (K3.out _).mono ?_
  rintro e w3 ⟨g3, c3, m3, rfl, hm3, hg3, hro3, hx3⟩
  have H3 := Lib.hid (And.intro hm3 (And.intro hg3 hro3)); have X3 := Lib.hid hx3
  clear hm3 hg3 hro3 hx3
  go_wp2_with fail
  refine (C2.out _).mono ?_
  rintro e w3' ⟨rfl, hw⟩
  obtain rfl := hw
  go_wp2_with fail
  refine (K4.out _).mono ?_
  rintro e w4 ⟨g4, c4, m4, rfl, hm4, hg4, hro4, hx4⟩
  have H4 := Lib.hid (And.intro hm4 (And.intro hg4 hro4)); have X4 := Lib.hid hx4
  clear hm4 hg4 hro4 hx4
  go_wp2_with fail
  refine (K1.out _).mono ?_
  rintro e w5 ⟨g5, c5, m5, rfl, hm5, hg5, hro5, hx5⟩
  have H5 := Lib.hid (And.intro hm5 (And.intro hg5 hro5)); have X5 := Lib.hid hx5
  clear hm5 hg5 hro5 hx5
  obtain ⟨W, hW⟩ : ∃ W : World, W = w5.alloc (.cells #[.slice (some ⟨g1, 0, none⟩) m1 c1, .slice (some ⟨g2, 0, none⟩) m2 c2, .slice (some ⟨g3, 0, none⟩) m3 c3, .slice (some ⟨g4, 0, none⟩) m4 c4, .slice (some ⟨g5, 0, none⟩) m5 c5] 48) := ⟨_, rfl⟩
  have hX : Ext w5 W := by rw [hW]; exact (Ext.refl w5).alloc _
  have hXX := X1.out.trans (X2.out.trans (X3.out.trans (X4.out.trans X5.out)))
  have hJ : Calls Tryd.prog 63 #[.slice (some ⟨w5.heap.size, 0, none⟩) 5 5] W (RetRO W (widR n l r).flatten) := by
    have e1 := H1.out.1; have e2 := H2.out.1; have e3 := H3.out.1; have e4 := H4.out.1; have e5 := H5.out.1
    simp only [List.length_replicate] at e1 e2 e3 e4 e5
    have hc : ∀ i v, (#[.slice (some ⟨g1, 0, none⟩) m1 c1, .slice (some ⟨g2, 0, none⟩) m2 c2, .slice (some ⟨g3, 0, none⟩) m3 c3, .slice (some ⟨g4, 0, none⟩) m4 c4, .slice (some ⟨g5, 0, none⟩) m5 c5] : Array Value)[i]? = some v → W.cell? ⟨w5.heap.size, i, none⟩ = some v := fun i v h => by
      rw [hW]; simp only [World.cell?, blk_at rfl]; simpa using h
    refine joined_calls (widR n l r) W w5.heap.size 5 (fun i => [g1, g2, g3, g4, g5].getD i 0) (fun i => [c1, c2, c3, c4, c5].getD i 0) rfl (by simp [widR]) (by decide) (fun i hi => ?_)
    match i, hi with
    | 0, _ => exact ⟨hc 0 _ (by rw [e1]; rfl), (H1.out.2.2.ext (X2.out.trans (X3.out.trans (X4.out.trans X5.out)))).ext hX, by simp [widR, sw]⟩
    | 1, _ => exact ⟨hc 1 _ (by rw [e2, HL.out]; simp [widR, sw]), by have := (H2.out.2.2.ext (X3.out.trans (X4.out.trans X5.out))).ext hX; rw [HL.out] at this; exact this, by have := cnt_le l; simp [widR, sw]; omega⟩
    | 2, _ => exact ⟨hc 2 _ (by rw [e3, HN.out]; simp [widR, sw]), by have := (H3.out.2.2.ext (X4.out.trans X5.out)).ext hX; rw [HN.out] at this; exact this, by simp [widR, sw]; omega⟩
    | 3, _ => exact ⟨hc 3 _ (by rw [e4, HR.out]; simp [widR, sw]), by have := (H4.out.2.2.ext X5.out).ext hX; rw [HR.out] at this; exact this, by have := cnt_le r; simp [widR, sw]; omega⟩
    | 4, _ => exact ⟨hc 4 _ (by rw [e5]; rfl), H5.out.2.2.ext hX, by simp [widR, sw]⟩
  rw [hW] at hJ
  have HJ := Lib.hid hJ
  have HXX := Lib.hid (hXX.trans (by rw [hW] at hX; exact hX))
  clear hJ hX hXX hW H1 H2 H3 H4 H5 X1 X2 X3 X4 X5 HN HL HR
  go_wp2_with fail
  refine HJ.out.mono ?_
  rintro e w6 ⟨g, c, m, rfl, hm, hg, hro, hx⟩
  have H := Lib.hid (And.intro hm (And.intro (Nat.le_trans HXX.out.size hg) (And.intro hro (HXX.out.trans hx))))
  clear hm hg hro hx HJ
  go_wp2
  go_ret
  exact ⟨g, c, m, rfl, H.out.1, H.out.2.1, H.out.2.2.1, H.out.2.2.2⟩
end Go.Proofs.YtinijapkipeamaaDoor
