/- Contracts of the two closures of permutations.join. -/
import Derived.Test.YtpcbadagffeehaaPf
namespace Go.Proofs.Ytpcbadagffeehaa
set_option linter.unusedVariables false
set_option linter.unusedSimpArgs false
open Go Go.RowKit Go.Shelf
attribute [local go_sem] Oper.semAt_some

set_option maxHeartbeats 1000000 in
theorem join1_calls (B1 B2' P1 P2 n : Nat) (v1 v2 : Value) (c1 c2 : Nat) (xs ys : List Int) (hx : n = xs.length) (hy : n = ys.length) (h8 : n ≤ 8) (x : Pr n) (w : World)
    (hP : w.cell? ⟨P1, 0, none⟩ = some (.func (.func 48) #[] #[.pointer (some ⟨B1, 0, none⟩)])) (hQ : w.cell? ⟨P2, 0, none⟩ = some (.func (.func 48) #[] #[.pointer (some ⟨B2', 0, none⟩)]))
    (hB : w.cell? ⟨B1, 0, none⟩ = some v1) (hB' : w.cell? ⟨B2', 0, none⟩ = some v2) (h : IS .u8 w v1 c1 xs) (h' : IS .u8 w v2 c2 ys) :
    Calls Try.prog 50 #[x.val, .pointer (some ⟨P1, 0, none⟩), .pointer (some ⟨P2, 0, none⟩)] w fun e w' => e = .returned (.bool (crossB xs x.1.1 x.1.2 || crossB ys x.1.1 x.1.2)) ∧ Ext w w' := by
  have hf : ∀ wr, Ext w wr → Calls Try.prog 48 #[x.val, .pointer (some ⟨B1, 0, none⟩)] wr fun e w' => e = .returned (.bool (crossB xs x.1.1 x.1.2)) ∧ Ext wr w' :=
    fun wr hw => crossing1_as B1 v1 c1 xs n hx x wr (hw.cell hB) (h.ext hw) h8
  have hg : ∀ wr, Ext w wr → Calls Try.prog 48 #[x.val, .pointer (some ⟨B2', 0, none⟩)] wr fun e w' => e = .returned (.bool (crossB ys x.1.1 x.1.2)) ∧ Ext wr w' :=
    fun wr hw => crossing1_as B2' v2 c2 ys n hy x wr (hw.cell hB') (h'.ext hw) h8
  obtain ⟨⟨a, b⟩, p1, p2, p3⟩ := x
  unfold Pr.val at hf hg ⊢
  simp only at hf hg ⊢
  have x1 : Ext w (w.alloc (.cells #[.int .u8 (a : Int), .int .u8 (b : Int)] 36)) := (Ext.refl w).alloc _
  have bX := B2.new w (.int .u8 (a : Int)) (.int .u8 (b : Int)) 36
  have k0 := bX.c0
  have k1 := bX.c1
  have kP := x1.cell hP
  have kQ := x1.cell hQ
  have c1 := hf _ x1
  have HG := Lib.hid hg
  have HX := Lib.hid x1
  have HC := Lib.hid c1
  clear hf hg hP hQ hB hB' h h' bX x1 c1
  cases hv : crossB xs a b with
  | true =>
    rw [hv] at HC
    have HV := Lib.hid hv; clear hv
    go_enter Try.func50, Try.ntmps50
    go_wp2_with fail
    refine HC.out.mono ?_
    rintro e w' ⟨rfl, hx⟩
    have HX2 := Lib.hid hx; clear hx
    go_wp2
    go_ret
    exact ⟨by simp, HX.out.trans HX2.out⟩
  | false =>
    rw [hv] at HC
    have HV := Lib.hid hv; clear hv
    go_enter Try.func50, Try.ntmps50
    go_wp2_with fail
    refine HC.out.mono ?_
    rintro e w' ⟨rfl, hx⟩
    have q0 := hx.cell k0; have q1 := hx.cell k1; have qQ := hx.cell kQ
    have HD := Lib.hid (HG.out w' (HX.out.trans hx))
    have HX2 := Lib.hid hx; clear hx
    go_wp2_with fail
    refine HD.out.mono ?_
    rintro e w2 ⟨rfl, hx3⟩
    have HX3 := Lib.hid hx3; clear hx3
    go_wp2
    go_ret
    exact ⟨by simp, (HX.out.trans HX2.out).trans HX3.out⟩

/-- A square of truth values. -/
def CR (w : World) (B : Nat) (C : Nat → Nat → Bool) : Prop := ∃ f, w.rowIs B 76 81 f ∧ ∀ i j, i < 9 → j < 9 → f (i * 9 + j) = .bool (C i j)
theorem CR.cell {w : World} {B : Nat} {C : Nat → Nat → Bool} (h : CR w B C) {i j : Nat} (hi : i < 9) (hj : j < 9) : w.cell? ⟨B, i * 9 + j, none⟩ = some (.bool (C i j)) := by
  obtain ⟨f, hr, hf⟩ := h
  rw [hr.cell (by omega), hf i j hi hj]
theorem CR.ext {w w' : World} {B : Nat} {C : Nat → Nat → Bool} (h : CR w B C) (e : Ext w w') : CR w' B C := by
  obtain ⟨f, hr, hf⟩ := h
  exact ⟨f, e.row hr, hf⟩
def cset (C : Nat → Nat → Bool) (a b : Nat) : Nat → Nat → Bool := fun i j => decide (i = a ∧ j = b) || C i j
theorem CR.set {w : World} {B : Nat} {C : Nat → Nat → Bool} (h : CR w B C) {a b : Nat} (ha : a < 9) (hb : b < 9) : CR (w.setCell ⟨B, a * 9 + b, none⟩ (.bool true)) B (cset C a b) := by
  obtain ⟨f, hr, hf⟩ := h
  refine ⟨_, hr.set _ _, fun i j hi hj => ?_⟩
  unfold cset
  by_cases e : i = a ∧ j = b
  · obtain ⟨rfl, rfl⟩ := e; simp
  · have : ¬ i * 9 + j = a * 9 + b := fun h => e ⟨by omega, by omega⟩
    simp [this, e, hf i j hi hj]

set_option maxHeartbeats 1000000 in
theorem join2_calls (B n : Nat) (C : Nat → Nat → Bool) (h8 : n ≤ 8) (x : Pr n) (w : World) (h : CR w B C) :
    Calls Try.prog 51 #[x.val, .pointer (some ⟨B, 0, none⟩)] w fun e w' => e = .returned (.bool (C x.1.1 x.1.2)) ∧ Ext w w' := by
  obtain ⟨⟨a, b⟩, p1, p2, p3⟩ := x
  unfold Pr.val
  simp only at p1 p2 p3 ⊢
  have x1 : Ext w (w.alloc (.cells #[.int .u8 (a : Int), .int .u8 (b : Int)] 36)) := (Ext.refl w).alloc _
  have bX := B2.new w (.int .u8 (a : Int)) (.int .u8 (b : Int)) 36
  have k0 := bX.c0
  have k1 := bX.c1
  have kc := (h.ext x1).cell (i := a) (j := b) (by omega) (by omega)
  have HX := Lib.hid x1
  clear bX x1 h
  have hs65 : ∀ w, (sizeOf 65).run Try.prog w = .ok 9 w := fun w => by kernel_rfl
  go_enter Try.func51, Try.ntmps51
  go_wp2
  go_quiet (fail)
  go_wp2
  go_ret
  exact ⟨rfl, HX.out.drewN _⟩
end Go.Proofs.Ytpcbadagffeehaa
