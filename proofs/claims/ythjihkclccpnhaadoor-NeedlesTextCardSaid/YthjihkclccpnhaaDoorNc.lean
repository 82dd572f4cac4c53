/- Contracts of chapter 1: At with a rack that is not valid, Opposite, Text. -/
import Derived.Test.YthjihkclccpnhaaDoorNb
import Derived.Test.YthjihkclccpnhaaDoorShelf
namespace Go.Proofs.YthjihkclccpnhaaDoor
set_option linter.unusedVariables false
set_option linter.unusedSimpArgs false
open Go Go.RowKit

/-- A needle and an error. -/
def RetNd (b a c : Int) (w : World) (e : Ending) (w' : World) : Prop := e = .returned (.tuple #[.agg #[.int .u8 b, .int .i64 a], .int .i64 c]) ∧ Ext w w'

theorem At_rack (s r : Int) (w : World) (hr : ¬ (-4 ≤ r ∧ r ≤ 4)) :
    Calls Tryd.prog 13 #[.int .i64 s, .int .i64 r] w (RetNd 0 0 11 w) := by
  have hk := fun w => racked_calls r w
  rw [rval0 hr] at hk
  have Hk := Lib.hid hk; clear hk hr
  go_enter Tryd.func13, Tryd.ntmps13
  go_wp2
  go_step3
  go_wp2_with fail
  refine (Hk.out _).mono ?_
  rintro e w1 ⟨rfl, rfl⟩
  go_wp2
  rw [Exit.noGoto_ret]
  exact bodyPost_ret (v := .tuple #[.agg #[.int .u8 0, .int .i64 0], .int .i64 11]) (by simp [results, Tryd.results13, go_sem]) rfl ⟨rfl, (Ext.refl w).alloc _⟩

theorem Opp_bad (b a r : Int) (w : World) (h1 : 0 ≤ b) (h2 : b ≤ 255) (hv : ¬ (b ≤ 1 ∧ 1 ≤ a ∧ a ≤ 40)) :
    Calls Tryd.prog 16 #[.agg #[.int .u8 b, .int .i64 a], .int .i64 r] w (RetNd 0 0 1 w) := by
  have hc := fun w => Check_calls b a w h1 h2
  rw [nval0 hv] at hc
  have Hc := Lib.hid hc; clear hc hv
  go_enter Tryd.func16, Tryd.ntmps16
  go_wp2_with fail
  refine (Hc.out _).mono ?_
  rintro e w1 ⟨rfl, x1⟩
  have hb := ((B2.new (w.alloc (.cells #[.int .u8 b, .int .i64 a] 24)) (.int .u8 0) (.int .i64 0) 24)).ext x1
  simp only [World.size_alloc] at hb
  have c0 := hb.c0; have c1 := hb.c1; have f0 := hb.f0; have f1 := hb.f1
  have X := Lib.hid ((((Ext.refl w).alloc _).alloc _).trans x1)
  clear hb x1
  go_wp2
  exact bodyPost_ret (v := .tuple #[.agg #[.int .u8 0, .int .i64 0], .int .i64 1]) (by simp [results, Tryd.results16, go_sem, c0, c1]) rfl ⟨rfl, (X.out.setCell (by simp) _).setCell (by simp) _⟩

theorem Opp_rack (b a r : Int) (w : World) (h1 : 0 ≤ b) (h2 : b ≤ 255) (hv : b ≤ 1 ∧ 1 ≤ a ∧ a ≤ 40) (hr : ¬ (-4 ≤ r ∧ r ≤ 4)) :
    Calls Tryd.prog 16 #[.agg #[.int .u8 b, .int .i64 a], .int .i64 r] w (RetNd 0 0 11 w) := by
  have hc := fun w => Check_calls b a w h1 h2
  rw [nval1 hv] at hc
  have hk := fun w => racked_calls r w
  rw [rval0 hr] at hk
  have Hc := Lib.hid hc; have Hk := Lib.hid hk; clear hc hv hk hr
  go_enter Tryd.func16, Tryd.ntmps16
  go_wp2_with fail
  refine (Hc.out _).mono ?_
  rintro e w1 ⟨rfl, x1⟩
  have hb := ((B2.new (w.alloc (.cells #[.int .u8 b, .int .i64 a] 24)) (.int .u8 0) (.int .i64 0) 24)).ext x1
  simp only [World.size_alloc] at hb
  have c0 := hb.c0; have c1 := hb.c1; have f0 := hb.f0; have f1 := hb.f1
  have X := Lib.hid ((((Ext.refl w).alloc _).alloc _).trans x1)
  clear hb x1
  go_wp2_with fail
  refine (Hk.out _).mono ?_
  rintro e w2 ⟨rfl, rfl⟩
  go_wp2
  exact bodyPost_ret (v := .tuple #[.agg #[.int .u8 0, .int .i64 0], .int .i64 11]) (by simp [results, Tryd.results16, go_sem, c0, c1]) rfl ⟨rfl, (X.out.setCell (by simp) _).setCell (by simp) _⟩

theorem Opp_fok (b a r : Int) (w : World) (hb1 : b = 0) (h1 : 1 ≤ a) (h2 : a ≤ 40) (r1 : -4 ≤ r) (r2 : r ≤ 4) (g1 : 1 ≤ a - r) (g2 : a - r ≤ 40) :
    Calls Tryd.prog 16 #[.agg #[.int .u8 b, .int .i64 a], .int .i64 r] w (RetNd 1 (a - r) 0 w) := by
  have hc := fun w => Check_calls b a w (by omega) (by omega)
  rw [nval1 ⟨by omega, h1, h2⟩] at hc
  have hk := fun w => racked_calls r w
  rw [rval1 ⟨r1, r2⟩] at hk
  have hd := fun w => Check_calls 1 (a - r) w (by omega) (by omega)
  rw [nval1 ⟨by omega, g1, g2⟩] at hd
  subst hb1
  have Hc := Lib.hid hc; have Hk := Lib.hid hk; have Hd := Lib.hid hd; clear hc hk hd
  go_enter Tryd.func16, Tryd.ntmps16
  go_wp2_with fail
  refine (Hc.out _).mono ?_
  rintro e w1 ⟨rfl, x1⟩
  have ha := (((B2.new w (.int .u8 0) (.int .i64 a) 24)).alloc (.cells #[.int .u8 0, .int .i64 0] 24)).ext x1
  have hb := ((B2.new (w.alloc (.cells #[.int .u8 0, .int .i64 a] 24)) (.int .u8 0) (.int .i64 0) 24)).ext x1
  have hz := x1.size
  simp only [World.size_alloc] at ha hb hz
  have hz1 : w.heap.size < w1.heap.size := by omega
  have hz2 : w.heap.size + 1 < w1.heap.size := by omega
  have HA := Lib.hid ha; have HB := Lib.hid hb
  have a0 := ha.c0; have a1 := ha.c1
  have X := Lib.hid ((((Ext.refl w).alloc _).alloc _).trans x1)
  clear ha hb x1
  go_wp2_with fail
  refine (Hk.out _).mono ?_
  rintro e w2 ⟨rfl, rfl⟩
  go_wp2_with fail
  refine (Hd.out _).mono ?_
  rintro e w3 ⟨rfl, x3⟩
  have hb := HB.out.ext (((Ext.refl _).alloc _).trans x3)
  have c0 := hb.c0; have c1 := hb.c1; have f0 := hb.f0; have f1 := hb.f1
  have hn := (B2.new w1 (.int .u8 1) (.int .i64 (a - r)) 24).ext x3
  have n0 := hn.c0; have n1 := hn.c1
  have X3 := Lib.hid (X.out.trans (((Ext.refl _).alloc _).trans x3))
  clear hb x3 hn
  go_wp2
  exact bodyPost_ret (v := .tuple #[.agg #[.int .u8 1, .int .i64 (a - r)], .int .i64 0]) (by simp [results, Tryd.results16, go_sem, c0, c1]) rfl ⟨rfl, (X3.out.setCell (by simp) _).setCell (by simp) _⟩

theorem Opp_fno (b a r : Int) (w : World) (hb1 : b = 0) (h1 : 1 ≤ a) (h2 : a ≤ 40) (r1 : -4 ≤ r) (r2 : r ≤ 4) (g : ¬ (1 ≤ a - r ∧ a - r ≤ 40)) :
    Calls Tryd.prog 16 #[.agg #[.int .u8 b, .int .i64 a], .int .i64 r] w (RetNd 0 0 11 w) := by
  have hc := fun w => Check_calls b a w (by omega) (by omega)
  rw [nval1 ⟨by omega, h1, h2⟩] at hc
  have hk := fun w => racked_calls r w
  rw [rval1 ⟨r1, r2⟩] at hk
  have hd := fun w => Check_calls 1 (a - r) w (by omega) (by omega)
  rw [nval0 (fun h => g h.2)] at hd
  subst hb1
  have Hc := Lib.hid hc; have Hk := Lib.hid hk; have Hd := Lib.hid hd; clear hc hk hd
  go_enter Tryd.func16, Tryd.ntmps16
  go_wp2_with fail
  refine (Hc.out _).mono ?_
  rintro e w1 ⟨rfl, x1⟩
  have ha := (((B2.new w (.int .u8 0) (.int .i64 a) 24)).alloc (.cells #[.int .u8 0, .int .i64 0] 24)).ext x1
  have hb := ((B2.new (w.alloc (.cells #[.int .u8 0, .int .i64 a] 24)) (.int .u8 0) (.int .i64 0) 24)).ext x1
  have hz := x1.size
  simp only [World.size_alloc] at ha hb hz
  have hz1 : w.heap.size < w1.heap.size := by omega
  have hz2 : w.heap.size + 1 < w1.heap.size := by omega
  have HA := Lib.hid ha; have HB := Lib.hid hb
  have a0 := ha.c0; have a1 := ha.c1
  have X := Lib.hid ((((Ext.refl w).alloc _).alloc _).trans x1)
  clear ha hb x1
  go_wp2_with fail
  refine (Hk.out _).mono ?_
  rintro e w2 ⟨rfl, rfl⟩
  go_wp2_with fail
  refine (Hd.out _).mono ?_
  rintro e w3 ⟨rfl, x3⟩
  have hb := HB.out.ext (((Ext.refl _).alloc _).trans x3)
  have c0 := hb.c0; have c1 := hb.c1; have f0 := hb.f0; have f1 := hb.f1
  have hn := (B2.new w1 (.int .u8 1) (.int .i64 (a - r)) 24).ext x3
  have n0 := hn.c0; have n1 := hn.c1
  have X3 := Lib.hid (X.out.trans (((Ext.refl _).alloc _).trans x3))
  clear hb x3 hn
  go_wp2
  exact bodyPost_ret (v := .tuple #[.agg #[.int .u8 0, .int .i64 0], .int .i64 11]) (by simp [results, Tryd.results16, go_sem, c0, c1]) rfl ⟨rfl, (X3.out.setCell (by simp) _).setCell (by simp) _⟩

theorem Opp_bok (b a r : Int) (w : World) (hb1 : b = 1) (h1 : 1 ≤ a) (h2 : a ≤ 40) (r1 : -4 ≤ r) (r2 : r ≤ 4) (g1 : 1 ≤ a + r) (g2 : a + r ≤ 40) :
    Calls Tryd.prog 16 #[.agg #[.int .u8 b, .int .i64 a], .int .i64 r] w (RetNd 0 (a + r) 0 w) := by
  have hc := fun w => Check_calls b a w (by omega) (by omega)
  rw [nval1 ⟨by omega, h1, h2⟩] at hc
  have hk := fun w => racked_calls r w
  rw [rval1 ⟨r1, r2⟩] at hk
  have hd := fun w => Check_calls 0 (a + r) w (by omega) (by omega)
  rw [nval1 ⟨by omega, g1, g2⟩] at hd
  subst hb1
  have Hc := Lib.hid hc; have Hk := Lib.hid hk; have Hd := Lib.hid hd; clear hc hk hd
  go_enter Tryd.func16, Tryd.ntmps16
  go_wp2_with fail
  refine (Hc.out _).mono ?_
  rintro e w1 ⟨rfl, x1⟩
  have ha := (((B2.new w (.int .u8 1) (.int .i64 a) 24)).alloc (.cells #[.int .u8 0, .int .i64 0] 24)).ext x1
  have hb := ((B2.new (w.alloc (.cells #[.int .u8 1, .int .i64 a] 24)) (.int .u8 0) (.int .i64 0) 24)).ext x1
  have hz := x1.size
  simp only [World.size_alloc] at ha hb hz
  have hz1 : w.heap.size < w1.heap.size := by omega
  have hz2 : w.heap.size + 1 < w1.heap.size := by omega
  have HA := Lib.hid ha; have HB := Lib.hid hb
  have a0 := ha.c0; have a1 := ha.c1
  have X := Lib.hid ((((Ext.refl w).alloc _).alloc _).trans x1)
  clear ha hb x1
  go_wp2_with fail
  refine (Hk.out _).mono ?_
  rintro e w2 ⟨rfl, rfl⟩
  go_wp2_with fail
  refine (Hd.out _).mono ?_
  rintro e w3 ⟨rfl, x3⟩
  have hb := HB.out.ext (((Ext.refl _).alloc _).trans x3)
  have c0 := hb.c0; have c1 := hb.c1; have f0 := hb.f0; have f1 := hb.f1
  have hn := (B2.new w1 (.int .u8 0) (.int .i64 (a + r)) 24).ext x3
  have n0 := hn.c0; have n1 := hn.c1
  have X3 := Lib.hid (X.out.trans (((Ext.refl _).alloc _).trans x3))
  clear hb x3 hn
  go_wp2
  exact bodyPost_ret (v := .tuple #[.agg #[.int .u8 0, .int .i64 (a + r)], .int .i64 0]) (by simp [results, Tryd.results16, go_sem, c0, c1]) rfl ⟨rfl, (X3.out.setCell (by simp) _).setCell (by simp) _⟩

theorem Opp_bno (b a r : Int) (w : World) (hb1 : b = 1) (h1 : 1 ≤ a) (h2 : a ≤ 40) (r1 : -4 ≤ r) (r2 : r ≤ 4) (g : ¬ (1 ≤ a + r ∧ a + r ≤ 40)) :
    Calls Tryd.prog 16 #[.agg #[.int .u8 b, .int .i64 a], .int .i64 r] w (RetNd 0 0 11 w) := by
  have hc := fun w => Check_calls b a w (by omega) (by omega)
  rw [nval1 ⟨by omega, h1, h2⟩] at hc
  have hk := fun w => racked_calls r w
  rw [rval1 ⟨r1, r2⟩] at hk
  have hd := fun w => Check_calls 0 (a + r) w (by omega) (by omega)
  rw [nval0 (fun h => g h.2)] at hd
  subst hb1
  have Hc := Lib.hid hc; have Hk := Lib.hid hk; have Hd := Lib.hid hd; clear hc hk hd
  go_enter Tryd.func16, Tryd.ntmps16
  go_wp2_with fail
  refine (Hc.out _).mono ?_
  rintro e w1 ⟨rfl, x1⟩
  have ha := (((B2.new w (.int .u8 1) (.int .i64 a) 24)).alloc (.cells #[.int .u8 0, .int .i64 0] 24)).ext x1
  have hb := ((B2.new (w.alloc (.cells #[.int .u8 1, .int .i64 a] 24)) (.int .u8 0) (.int .i64 0) 24)).ext x1
  have hz := x1.size
  simp only [World.size_alloc] at ha hb hz
  have hz1 : w.heap.size < w1.heap.size := by omega
  have hz2 : w.heap.size + 1 < w1.heap.size := by omega
  have HA := Lib.hid ha; have HB := Lib.hid hb
  have a0 := ha.c0; have a1 := ha.c1
  have X := Lib.hid ((((Ext.refl w).alloc _).alloc _).trans x1)
  clear ha hb x1
  go_wp2_with fail
  refine (Hk.out _).mono ?_
  rintro e w2 ⟨rfl, rfl⟩
  go_wp2_with fail
  refine (Hd.out _).mono ?_
  rintro e w3 ⟨rfl, x3⟩
  have hb := HB.out.ext (((Ext.refl _).alloc _).trans x3)
  have c0 := hb.c0; have c1 := hb.c1; have f0 := hb.f0; have f1 := hb.f1
  have hn := (B2.new w1 (.int .u8 0) (.int .i64 (a + r)) 24).ext x3
  have n0 := hn.c0; have n1 := hn.c1
  have X3 := Lib.hid (X.out.trans (((Ext.refl _).alloc _).trans x3))
  clear hb x3 hn
  go_wp2
  exact bodyPost_ret (v := .tuple #[.agg #[.int .u8 0, .int .i64 0], .int .i64 11]) (by simp [results, Tryd.results16, go_sem, c0, c1]) rfl ⟨rfl, (X3.out.setCell (by simp) _).setCell (by simp) _⟩
end Go.Proofs.YthjihkclccpnhaaDoor
