/- yarns.Reduce, of passes in one direction. -/
import Derived.Test.YtlhkehfplcclgaaDoorVk
namespace Go.Proofs.YtlhkehfplcclgaaDoor
set_option linter.unusedVariables false
set_option linter.unusedSimpArgs false
set_option maxRecDepth 8000
open Go Go.RowKit

theorem make_k0 {P : Program} {t e : TypeId} {z : Value} {k bytes : Nat} (ek : EK P t e z k bytes) (hb : bytes ≤ 1000) (n : Nat) (hn : n ≤ 1000000) (kl kc : IntKind) (w : World) :
    (Instr.makeSlice t (.int kl 0) (.int kc (n : Int))).run P w = .ok (.slice (some ⟨w.heap.size, 0, none⟩) 0 n) (w.alloc (.cells (madeCells z.cells (n * k)) e)) := by
  obtain ⟨i, hi, hz0, hz1, hz2⟩ := info_parts ek.info
  have h2 : bytes * n ≤ 1000 * 1000000 := Nat.mul_le_mul hb hn
  have h3 : ((bytes * n : Nat) : Int) = (bytes : Int) * (n : Int) := Int.natCast_mul _ _
  have hr := run_make (P := P) w t e i z ek.und hi hz0 kl kc 0 n (Int.le_refl _) (by omega) (by rw [hz2]; omega) (by omega)
  simp only [Int.toNat_natCast, hz1] at hr
  exact hr
theorem own_made {w : World} {e : TypeId} {k n : Nat} {z : Array Value} (hn : n ≤ maxLen) : (w.alloc (.cells (madeCells z (n * k)) e)).ownsRow w.heap.size e k (.slice (some ⟨w.heap.size, 0, none⟩) 0 n) 0 ([] : List Value) :=
  ⟨by simp, .inr ⟨_, n, _, rfl, Nat.le_refl _, Deep.blk_alloc_new _ _, Nat.zero_le _, hn, size_madeCells _ _, by simp⟩⟩
set_option maxHeartbeats 4000000 in
theorem Reduce_calls (lv : Value) (c : Nat) (l : List Ps) (w : World) (hl : PL w lv c l) (h9 : l.length ≤ 1000) (hd : OneD l) :
    Calls Tryd.prog 90 #[lv] w fun e w' => ∃ g n, n = l.length ∧ e = .returned (.slice (some ⟨g, 0, none⟩) n n) ∧ Ext w w' := by
  obtain ⟨la, n, rfl, hn, hnc, hc9, hat⟩ := hl.open
  have n9 : n ≤ 1000 := by omega
  have hmk : ∀ w, (Instr.makeSlice 44 (.int .i64 0) (.int .i64 (n : Int))).run Tryd.prog w = .ok (.slice (some ⟨w.heap.size, 0, none⟩) 0 n) (w.alloc (.cells (madeCells #[.int .u8 0, .int .i64 0, .bool false, .int .u8 0] (n * 4)) 50)) := fun w => make_k0 ekP (by decide) n (by omega) .i64 .i64 w
  have HP := Lib.hid (fun sv w' hb ho => Push_calls sv (.slice la n c) c l w w' hl h9 hd hb ho)
  have HC := Lib.hid (fun (v : Value) (w' : World) (ho : w'.ownsRow w.heap.size 50 4 v l.length (l.map Ps.cs).flatten) => (by
    obtain ⟨cc, hck⟩ := CK.of_own ho (Ks.ps l) (by simp) (by decide)
    exact YCopP_calls v cc (l.map Ps.cs) w' hck (Ks.ps l) (by simp; omega) : Calls Tryd.prog 93 #[v] w' (RetK w' 50 (l.map Ps.cs))))
  obtain ⟨W, hW⟩ : ∃ W, W = w.alloc (.cells (madeCells #[.int .u8 0, .int .i64 0, .bool false, .int .u8 0] (n * 4)) 50) := ⟨_, rfl⟩
  have HO := Lib.hid (show W.ownsRow w.heap.size 50 4 (.slice (some ⟨w.heap.size, 0, none⟩) 0 n) 0 ([] : List Value) by rw [hW]; exact own_made (by unfold maxLen; omega))
  have X := Lib.hid (show Ext w W by rw [hW]; exact (Ext.refl _).alloc _)
  have HW := Lib.hid hW
  have HN := Lib.hid hn
  clear hat hn hl h9 hd hW
  go_enter Tryd.func90, Tryd.ntmps90
  go_wp2_with fail
  rw [← HW.out]
  refine (HP.out _ W X.out HO.out).mono ?_
  rintro e w2 ⟨v, rfl, ho, x2⟩
  have H2 := Lib.hid ho
  have X2 := Lib.hid x2
  clear ho x2
  obtain ⟨a1, c1, rfl, _⟩ := own_slice H2.out
  go_wp2_with fail
  refine (HC.out _ w2 H2.out).mono ?_
  rintro e w3 ⟨g, m, hm, rfl, _, _, x3⟩
  have X3 := Lib.hid (X2.out.trans x3)
  have HM := Lib.hid (show m = l.length by rw [hm]; simp)
  clear hm x3
  go_wp2
  go_ret
  exact ⟨g, m, HM.out, rfl, X3.out⟩
end Go.Proofs.YtlhkehfplcclgaaDoor
