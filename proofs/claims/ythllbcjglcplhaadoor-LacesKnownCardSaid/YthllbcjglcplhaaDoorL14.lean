/- Texts of this claim in one file: libraries and walks. -/
import Derived.Test.YthllbcjglcplhaaDoorL4
import Derived.Test.YthllbcjglcplhaaDoorL7
import Derived.Test.YthllbcjglcplhaaDoorL8
import Derived.Test.YthllbcjglcplhaaDoorL9
import Derived.Test.YthllbcjglcplhaaDoorL11
import Derived.Test.YthllbcjglcplhaaDoorL13
/- The examples of chapter 20. -/
namespace Go.Proofs.YthllbcjglcplhaaDoor
set_option linter.unusedVariables false
set_option linter.unusedSimpArgs false
set_option maxRecDepth 20000
open Go Go.RowKit

def hA : List (List Ho) := [[⟨1, false⟩]]
def hB : List (List Ho) := [[⟨1, true⟩, ⟨3, false⟩]]
def hC : List (List Ho) := [[⟨1, true⟩, ⟨2, false⟩]]
def tA : ByteArray := { data := #[107, 32, 111, 32, 47, 32, 107, 32, 107, 10] }
def tB : ByteArray := { data := #[47, 32, 111, 32, 107, 32, 111, 32, 47, 10] }
def tC : ByteArray := { data := #[47, 32, 111, 32, 111, 32, 47, 10] }
def gA : ByteArray := { data := #[46, 79, 47, 46, 46, 10] }
def gB : ByteArray := { data := #[47, 79, 46, 79, 47, 10] }
def gC : ByteArray := { data := #[47, 79, 79, 47, 10] }
def rO : List (List St) := [[⟨3, 1, 0, 0, false⟩, ⟨1, 1, 0, 0, false⟩, ⟨4, 1, 0, 0, false⟩]]
theorem ex20a : (lcE 5 1 hA = 0 ∧ ctx (lcR 5 1 hA) = [107, 32, 111, 32, 47, 32, 107, 32, 107, 10] ∧ ltx 5 hA = [46, 79, 47, 46, 46, 10]) ∧ (lcE 5 1 hB = 0 ∧ ctx (lcR 5 1 hB) = [47, 32, 111, 32, 107, 32, 111, 32, 47, 10] ∧ ltx 5 hB = [47, 79, 46, 79, 47, 10]) ∧ (lcE 4 1 hC = 0 ∧ ctx (lcR 4 1 hC) = [47, 32, 111, 32, 111, 32, 47, 10] ∧ ltx 4 hC = [47, 79, 79, 47, 10]) := by decide
theorem ex20b : (shE 5 2 hA = 0 ∧ shR 5 2 hA = [[⟨3, false⟩]] ∧ shW 5 2 hA = 5) ∧ shE 5 3 hA = 1 ∧ (lcR 5 1 hB).length = 1 ∧ (prE (sw (lcR 5 1 hB) 0) = 0 ∧ ixs isO 0 (sw (lcR 5 1 hB) 0) = [1, 3] ∧ ixs isT 0 (sw (lcR 5 1 hB) 0) = [0, 4]) ∧ (cloads rO).1 = 0 ∧ rdL 0 (lineP (sw rO 0)) = none ∧ lchk 5 [[⟨1, false⟩, ⟨2, false⟩]] = 1 ∧ lmir 5 hB = hB := by decide
/-- Two rows of holes written out. -/
theorem HR.lit1 {w : World} {g q c : Nat} {l : List Ho} (hb : w.heap[g]? = some (.cells #[.slice (some ⟨q, 0, none⟩) l.length c] 37 (0, 0))) (h : HO w q c l) : HR w (.slice (some ⟨g, 0, none⟩) 1 1) 1 [l] := by
  refine ⟨_, fun _ => .slice (some ⟨q, 0, none⟩) l.length c, fun _ => c, rfl, Nat.le_refl _, by unfold maxLen; simp, .inr ⟨g, 0, rfl, fun i hi => ?_⟩, fun i hi => ?_⟩
  · obtain rfl : i = 0 := by simpa using hi
    simp [World.cell?, hb]
  · obtain rfl : i = 0 := by simpa using hi
    exact h.rs
theorem ex20c : shR 5 3 hA = [] ∧ shW 5 3 hA = 0 := by decide
theorem RR.lit1' {w : World} {g q c : Nat} {l : List St} (hb : w.heap[g]? = some (.cells #[.slice (some ⟨q, 0, none⟩) l.length c] 41 (0, 0))) (h : RO w q c l) : RR w (.slice (some ⟨g, 0, none⟩) 1 1) 1 [l] := by
  refine ⟨_, fun _ => .slice (some ⟨q, 0, none⟩) l.length c, fun _ => c, rfl, Nat.le_refl _, by unfold maxLen; simp, .inr ⟨g, 0, rfl, fun i hi => ?_⟩, fun i hi => ?_⟩
  · obtain rfl : i = 0 := by simpa using hi
    simp [World.cell?, hb]
  · obtain rfl : i = 0 := by simpa using hi
    exact h.rs
theorem chk_12 {w0 w W : World} (x : Ext ((w.alloc (.cells #[.int .i64 1, .bool false, .int .i64 2, .bool false] 39)).alloc (.cells #[.slice (some ⟨w.heap.size, 0, none⟩) 2 2] 37)) W) (h : lchk 5 [[⟨1, false⟩, ⟨2, false⟩]] = 1) :
    Calls Tryd.prog 15 #[.agg #[.int .i64 5, .slice (some ⟨w.heap.size + 1, 0, none⟩) 1 1]] W fun e w' => e = .returned (.int .i64 1) ∧ Ext W w' := by
  have hr : HR W (.slice (some ⟨w.heap.size + 1, 0, none⟩) 1 1) 1 [[⟨1, false⟩, ⟨2, false⟩]] := HR.lit1 (l := [⟨1, false⟩, ⟨2, false⟩]) (c := 2) (x.block (blk_at (by simp))) ((HO.of_blk (l := [⟨1, false⟩, ⟨2, false⟩]) (blk_at rfl) rfl (by simp)).ext (((Ext.refl _).alloc _).trans x))
  have := LCheck_calls 5 _ _ _ W hr
  rw [h] at this
  exact this
theorem mir_B {w : World} {v : Value} {c : Nat} (h : HR w v c hB) (hm : lmir 5 hB = hB) : Calls Tryd.prog 29 #[.agg #[.int .i64 5, v]] w (RetL w 5 hB) := by
  have := LMirror_calls 5 v c hB w h (by decide) (by decide) (by decide) (by decide)
  rw [show lmir ((5 : Nat) : Int) hB = hB from hm] at this
  exact this
theorem hdf_c (W : Int) (v1 v2 : Value) (c1 c2 : Nat) (l : List (List Ho)) (w : World) (h1 : HR w v1 c1 l) (h2 : HR w v2 c2 l) : Calls Tryd.prog 21 #[.agg #[.int .i64 W, v1], .agg #[.int .i64 W, v2]] w fun e w' => e = .returned (.int .i64 0) ∧ Ext w w' := by
  have := HDiffer_calls W W v1 v2 c1 c2 l l w h1 h2
  rw [hdif_same] at this
  exact this
theorem hdf_3 {w W : World} {v : Value} {c : Nat} (x : Ext ((w.alloc (.cells #[.int .i64 3, .bool false] 39)).alloc (.cells #[.slice (some ⟨w.heap.size, 0, none⟩) 1 1] 37)) W) (h1 : HR W v c [[⟨3, false⟩]]) :
    Calls Tryd.prog 21 #[.agg #[.int .i64 5, v], .agg #[.int .i64 5, .slice (some ⟨w.heap.size + 1, 0, none⟩) 1 1]] W fun e w' => e = .returned (.int .i64 0) ∧ Ext W w' :=
  hdf_c 5 _ _ _ _ [[⟨3, false⟩]] W h1 (HR.lit1 (l := [⟨3, false⟩]) (c := 1) (x.block (blk_at (by simp))) ((HO.of_blk (l := [⟨3, false⟩]) (blk_at rfl) rfl (by simp)).ext (((Ext.refl _).alloc _).trans x)))
set_option maxHeartbeats 8000000 in
theorem lives20_calls (w : World) (hy : Sy w) : Calls Tryd.prog 17 #[] w fun e w' => e = .returned (.bool true) ∧ Ext w w' := by
  obtain ⟨W0, hW0⟩ : ∃ W0, W0 = ((((((((((((w.alloc (.cells #[.int .i64 1, .bool false] 39)).alloc (.cells #[.slice (some ⟨w.heap.size, 0, none⟩) 1 1] 37)).alloc (.cells #[.int .i64 5, .slice (some ⟨w.heap.size + 1, 0, none⟩) 1 1] 24)).alloc (.cells #[.int .i64 1, .bool true, .int .i64 3, .bool false] 39)).alloc (.cells #[.slice (some ⟨w.heap.size + 1 + 1 + 1, 0, none⟩) 2 2] 37)).alloc (.cells #[.int .i64 5, .slice (some ⟨w.heap.size + 1 + 1 + 1 + 1, 0, none⟩) 1 1] 24)).alloc (.cells #[.int .i64 1, .bool true, .int .i64 2, .bool false] 39)).alloc (.cells #[.slice (some ⟨w.heap.size + 1 + 1 + 1 + 1 + 1 + 1, 0, none⟩) 2 2] 37)).alloc (.cells #[.int .i64 4, .slice (some ⟨w.heap.size + 1 + 1 + 1 + 1 + 1 + 1 + 1, 0, none⟩) 1 1] 24)).alloc (.cells #[.int .i64 5, .slice (some ⟨w.heap.size + 1, 0, none⟩) 1 1, .int .i64 5, .slice (some ⟨w.heap.size + 1 + 1 + 1 + 1, 0, none⟩) 1 1, .int .i64 4, .slice (some ⟨w.heap.size + 1 + 1 + 1 + 1 + 1 + 1 + 1, 0, none⟩) 1 1] 24)).alloc (.cells #[.string { data := #[107, 32, 111, 32, 47, 32, 107, 32, 107, 10] }, .string { data := #[47, 32, 111, 32, 107, 32, 111, 32, 47, 10] }, .string { data := #[47, 32, 111, 32, 111, 32, 47, 10] }] 9)).alloc (.cells #[.string { data := #[46, 79, 47, 46, 46, 10] }, .string { data := #[47, 79, 46, 79, 47, 10] }, .string { data := #[47, 79, 79, 47, 10] }] 9)) := ⟨_, rfl⟩
  have x0 : Ext w W0 := by rw [hW0]; exact Ext.trans (Ext.refl w) (by repeat (first | exact Ext.refl _ | apply Ext.alloc))
  have b0 : W0.heap[w.heap.size]? = some (.cells #[.int .i64 1, .bool false] 39 (0, 0)) := by rw [hW0]; repeat (first | (exact blk_at (by simp; done)) | (exact blk_at (by simp <;> omega)) | (apply blk_old))
  have b1 : W0.heap[w.heap.size + 1]? = some (.cells #[.slice (some ⟨w.heap.size, 0, none⟩) 1 1] 37 (0, 0)) := by rw [hW0]; repeat (first | (exact blk_at (by simp; done)) | (exact blk_at (by simp <;> omega)) | (apply blk_old))
  have b2 : W0.heap[w.heap.size + 1 + 1]? = some (.cells #[.int .i64 5, .slice (some ⟨w.heap.size + 1, 0, none⟩) 1 1] 24 (0, 0)) := by rw [hW0]; repeat (first | (exact blk_at (by simp; done)) | (exact blk_at (by simp <;> omega)) | (apply blk_old))
  have b3 : W0.heap[w.heap.size + 1 + 1 + 1]? = some (.cells #[.int .i64 1, .bool true, .int .i64 3, .bool false] 39 (0, 0)) := by rw [hW0]; repeat (first | (exact blk_at (by simp; done)) | (exact blk_at (by simp <;> omega)) | (apply blk_old))
  have b4 : W0.heap[w.heap.size + 1 + 1 + 1 + 1]? = some (.cells #[.slice (some ⟨w.heap.size + 1 + 1 + 1, 0, none⟩) 2 2] 37 (0, 0)) := by rw [hW0]; repeat (first | (exact blk_at (by simp; done)) | (exact blk_at (by simp <;> omega)) | (apply blk_old))
  have b5 : W0.heap[w.heap.size + 1 + 1 + 1 + 1 + 1]? = some (.cells #[.int .i64 5, .slice (some ⟨w.heap.size + 1 + 1 + 1 + 1, 0, none⟩) 1 1] 24 (0, 0)) := by rw [hW0]; repeat (first | (exact blk_at (by simp; done)) | (exact blk_at (by simp <;> omega)) | (apply blk_old))
  have b6 : W0.heap[w.heap.size + 1 + 1 + 1 + 1 + 1 + 1]? = some (.cells #[.int .i64 1, .bool true, .int .i64 2, .bool false] 39 (0, 0)) := by rw [hW0]; repeat (first | (exact blk_at (by simp; done)) | (exact blk_at (by simp <;> omega)) | (apply blk_old))
  have b7 : W0.heap[w.heap.size + 1 + 1 + 1 + 1 + 1 + 1 + 1]? = some (.cells #[.slice (some ⟨w.heap.size + 1 + 1 + 1 + 1 + 1 + 1, 0, none⟩) 2 2] 37 (0, 0)) := by rw [hW0]; repeat (first | (exact blk_at (by simp; done)) | (exact blk_at (by simp <;> omega)) | (apply blk_old))
  have b8 : W0.heap[w.heap.size + 1 + 1 + 1 + 1 + 1 + 1 + 1 + 1]? = some (.cells #[.int .i64 4, .slice (some ⟨w.heap.size + 1 + 1 + 1 + 1 + 1 + 1 + 1, 0, none⟩) 1 1] 24 (0, 0)) := by rw [hW0]; repeat (first | (exact blk_at (by simp; done)) | (exact blk_at (by simp <;> omega)) | (apply blk_old))
  have b9 : W0.heap[w.heap.size + 1 + 1 + 1 + 1 + 1 + 1 + 1 + 1 + 1]? = some (.cells #[.int .i64 5, .slice (some ⟨w.heap.size + 1, 0, none⟩) 1 1, .int .i64 5, .slice (some ⟨w.heap.size + 1 + 1 + 1 + 1, 0, none⟩) 1 1, .int .i64 4, .slice (some ⟨w.heap.size + 1 + 1 + 1 + 1 + 1 + 1 + 1, 0, none⟩) 1 1] 24 (0, 0)) := by rw [hW0]; repeat (first | (exact blk_at (by simp; done)) | (exact blk_at (by simp <;> omega)) | (apply blk_old))
  have b10 : W0.heap[w.heap.size + 1 + 1 + 1 + 1 + 1 + 1 + 1 + 1 + 1 + 1]? = some (.cells #[.string { data := #[107, 32, 111, 32, 47, 32, 107, 32, 107, 10] }, .string { data := #[47, 32, 111, 32, 107, 32, 111, 32, 47, 10] }, .string { data := #[47, 32, 111, 32, 111, 32, 47, 10] }] 9 (0, 0)) := by rw [hW0]; repeat (first | (exact blk_at (by simp; done)) | (exact blk_at (by simp <;> omega)) | (apply blk_old))
  have b11 : W0.heap[w.heap.size + 1 + 1 + 1 + 1 + 1 + 1 + 1 + 1 + 1 + 1 + 1]? = some (.cells #[.string { data := #[46, 79, 47, 46, 46, 10] }, .string { data := #[47, 79, 46, 79, 47, 10] }, .string { data := #[47, 79, 79, 47, 10] }] 9 (0, 0)) := by rw [hW0]; repeat (first | (exact blk_at (by simp; done)) | (exact blk_at (by simp <;> omega)) | (apply blk_old))
  have rA : HR W0 (.slice (some ⟨w.heap.size + 1, 0, none⟩) 1 1) 1 hA := HR.lit1 (l := [⟨1, false⟩]) (c := 1) b1 (HO.of_blk b0 rfl (by simp))
  have rB : HR W0 (.slice (some ⟨w.heap.size + 1 + 1 + 1 + 1, 0, none⟩) 1 1) 1 hB := HR.lit1 (l := [⟨1, true⟩, ⟨3, false⟩]) (c := 2) b4 (HO.of_blk b3 rfl (by simp))
  have rC : HR W0 (.slice (some ⟨w.heap.size + 1 + 1 + 1 + 1 + 1 + 1 + 1, 0, none⟩) 1 1) 1 hC := HR.lit1 (l := [⟨1, true⟩, ⟨2, false⟩]) (c := 2) b7 (HO.of_blk b6 rfl (by simp))
  have RA := Lib.hid rA; have RB := Lib.hid rB; have RC := Lib.hid rC; have X0 := Lib.hid x0; have HW0 := Lib.hid hW0; have HY := Lib.hid (hy.ext x0)
  have F0 := Lib.hid (show W0.cell? ⟨w.heap.size + 1 + 1 + 1 + 1 + 1 + 1 + 1 + 1 + 1, 0, none⟩ = some (.int .i64 5) by simp [World.cell?, b9])
  have F1 := Lib.hid (show W0.cell? ⟨w.heap.size + 1 + 1 + 1 + 1 + 1 + 1 + 1 + 1 + 1, 1, none⟩ = some (.slice (some ⟨w.heap.size + 1, 0, none⟩) 1 1) by simp [World.cell?, b9])
  have F2 := Lib.hid (show W0.cell? ⟨w.heap.size + 1 + 1 + 1 + 1 + 1 + 1 + 1 + 1 + 1, 2, none⟩ = some (.int .i64 5) by simp [World.cell?, b9])
  have F3 := Lib.hid (show W0.cell? ⟨w.heap.size + 1 + 1 + 1 + 1 + 1 + 1 + 1 + 1 + 1, 3, none⟩ = some (.slice (some ⟨w.heap.size + 1 + 1 + 1 + 1, 0, none⟩) 1 1) by simp [World.cell?, b9])
  have F4 := Lib.hid (show W0.cell? ⟨w.heap.size + 1 + 1 + 1 + 1 + 1 + 1 + 1 + 1 + 1, 4, none⟩ = some (.int .i64 4) by simp [World.cell?, b9])
  have F5 := Lib.hid (show W0.cell? ⟨w.heap.size + 1 + 1 + 1 + 1 + 1 + 1 + 1 + 1 + 1, 5, none⟩ = some (.slice (some ⟨w.heap.size + 1 + 1 + 1 + 1 + 1 + 1 + 1, 0, none⟩) 1 1) by simp [World.cell?, b9])
  have F6 := Lib.hid (show W0.cell? ⟨w.heap.size + 1 + 1 + 1 + 1 + 1 + 1 + 1 + 1 + 1 + 1, 0, none⟩ = some (.string { data := #[107, 32, 111, 32, 47, 32, 107, 32, 107, 10] }) by simp [World.cell?, b10])
  have F7 := Lib.hid (show W0.cell? ⟨w.heap.size + 1 + 1 + 1 + 1 + 1 + 1 + 1 + 1 + 1 + 1, 1, none⟩ = some (.string { data := #[47, 32, 111, 32, 107, 32, 111, 32, 47, 10] }) by simp [World.cell?, b10])
  have F8 := Lib.hid (show W0.cell? ⟨w.heap.size + 1 + 1 + 1 + 1 + 1 + 1 + 1 + 1 + 1 + 1, 2, none⟩ = some (.string { data := #[47, 32, 111, 32, 111, 32, 47, 10] }) by simp [World.cell?, b10])
  have F9 := Lib.hid (show W0.cell? ⟨w.heap.size + 1 + 1 + 1 + 1 + 1 + 1 + 1 + 1 + 1 + 1 + 1, 0, none⟩ = some (.string { data := #[46, 79, 47, 46, 46, 10] }) by simp [World.cell?, b11])
  have F10 := Lib.hid (show W0.cell? ⟨w.heap.size + 1 + 1 + 1 + 1 + 1 + 1 + 1 + 1 + 1 + 1 + 1, 1, none⟩ = some (.string { data := #[47, 79, 46, 79, 47, 10] }) by simp [World.cell?, b11])
  have F11 := Lib.hid (show W0.cell? ⟨w.heap.size + 1 + 1 + 1 + 1 + 1 + 1 + 1 + 1 + 1 + 1 + 1, 2, none⟩ = some (.string { data := #[47, 79, 79, 47, 10] }) by simp [World.cell?, b11])
  have F12 := Lib.hid (show W0.cell? ⟨w.heap.size + 1 + 1, 0, none⟩ = some (.int .i64 5) by simp [World.cell?, b2])
  have F13 := Lib.hid (show W0.cell? ⟨w.heap.size + 1 + 1, 1, none⟩ = some (.slice (some ⟨w.heap.size + 1, 0, none⟩) 1 1) by simp [World.cell?, b2])
  have F14 := Lib.hid (show W0.cell? ⟨w.heap.size + 1 + 1 + 1 + 1 + 1, 0, none⟩ = some (.int .i64 5) by simp [World.cell?, b5])
  have F15 := Lib.hid (show W0.cell? ⟨w.heap.size + 1 + 1 + 1 + 1 + 1, 1, none⟩ = some (.slice (some ⟨w.heap.size + 1 + 1 + 1 + 1, 0, none⟩) 1 1) by simp [World.cell?, b5])
  clear b0 b1 b2 b3 b4 b5 b6 b7 b8 b9 b10 b11 rA rB rC x0 hW0 hy
  obtain ⟨⟨ea1, ea2, ea3⟩, ⟨eb1, eb2, eb3⟩, ec1, ec2, ec3⟩ := ex20a
  have EA1 := Lib.hid ea1; have EA2 := Lib.hid ea2; have EA3 := Lib.hid ea3; have EB1 := Lib.hid eb1; have EB2 := Lib.hid eb2; have EB3 := Lib.hid eb3; have EC1 := Lib.hid ec1; have EC2 := Lib.hid ec2; have EC3 := Lib.hid ec3
  clear ea1 ea2 ea3 eb1 eb2 eb3 ec1 ec2 ec3
  go_enter Tryd.func17, Tryd.ntmps17
  go_wp2
  rw [← HW0.out]
  go_loopw [7, 8, 9] (fun i _ _ wr => ∃ k : Nat, k ≤ 3 ∧ i = .int .i64 k ∧ Hid (Ext W0 wr)) (fun i _ _ _ => 3 - (intOf i).toNat)
  case atStart => exact ⟨0, by omega, rfl, Lib.hid (Ext.refl _)⟩
  case round =>
    obtain ⟨k, hk, rfl, HX⟩ := hrel
    rcases (show k = 0 ∨ k = 1 ∨ k = 2 ∨ k = 3 by omega) with rfl | rfl | rfl | rfl
    · skip
      have f0 := HX.out.cell F0.out
      have f1 := HX.out.cell F1.out
      have f6 := HX.out.cell F6.out
      have f9 := HX.out.cell F9.out
      have hch := LChart_calls 5 1 _ _ hA wr (RA.out.ext HX.out) (by decide)
      rw [EA1.out] at hch
      have HCh := Lib.hid hch
      clear hch
      go_wp2_with fail
      refine HCh.out.mono ?_
      rintro e w1 ⟨vc, rfl, hrc, x1⟩
      have htx := fun w' (x : Ext w1 w') => CText_calls _ _ _ w' (hrc.ext x) (HY.out.ext (HX.out.trans (x1.trans x)))
      rw [EA2.out, show bstr [107, 32, 111, 32, 47, 32, 107, 32, 107, 10] = { data := #[107, 32, 111, 32, 47, 32, 107, 32, 107, 10] } from rfl] at htx
      have hlt := fun w' (x : Ext w1 w') => LText_calls 5 _ _ hA w' (RA.out.ext (HX.out.trans (x1.trans x)))
      rw [EA3.out, show bstr [46, 79, 47, 46, 46, 10] = { data := #[46, 79, 47, 46, 46, 10] } from rfl] at hlt
      obtain ⟨ac, nc, rfl, hnc, hcc, hmc, _⟩ := hrc.open
      obtain ⟨cc, hccc⟩ : ∃ cc, cc = (lcR 5 1 hA).length := ⟨_, rfl⟩
      rw [← hccc] at htx ⊢
      have HTx := Lib.hid htx; have HLt := Lib.hid hlt; have X1 := Lib.hid (HX.out.trans x1)
      clear htx hlt hrc hnc hcc hmc hccc x1 HCh f0 f1 f6 f9
      obtain ⟨W1, hW1⟩ : ∃ W1, W1 = w1.alloc (.cells #[.slice ac nc cc] 28) := ⟨_, rfl⟩
      have x2 : Ext w1 W1 := by rw [hW1]; exact (Ext.refl w1).alloc _
      have q0_1 : W1.cell? ⟨w1.heap.size, 0, none⟩ = some (.slice ac nc cc) := by rw [hW1, World.cell?_alloc_at (hn := rfl)]; rfl
      have q0_2 := (X1.out.trans x2).cell F0.out
      have q0_3 := (X1.out.trans x2).cell F1.out
      have q0_4 := (X1.out.trans x2).cell F6.out
      have q0_5 := (X1.out.trans x2).cell F9.out
      have HW1 := Lib.hid hW1; have X2 := Lib.hid x2
      rw [hW1] at q0_1 q0_2 q0_3 q0_4 q0_5
      clear hW1 x2
      go_wp2
      rw [← HW1.out]
      rw [← HW1.out] at q0_1 q0_2 q0_3 q0_4 q0_5
      go_region_held3 (fun w' => w'.cell? ⟨w1.heap.size, 0, Option.none⟩ = some (.slice ac nc cc) ∧ w'.cell? ⟨w.heap.size + 1 + 1 + 1 + 1 + 1 + 1 + 1 + 1 + 1, 0, Option.none⟩ = some (.int .i64 5) ∧ w'.cell? ⟨w.heap.size + 1 + 1 + 1 + 1 + 1 + 1 + 1 + 1 + 1, 1, Option.none⟩ = some (.slice (some ⟨w.heap.size + 1, 0, none⟩) 1 1) ∧ w'.cell? ⟨w.heap.size + 1 + 1 + 1 + 1 + 1 + 1 + 1 + 1 + 1 + 1, 0, Option.none⟩ = some (.string { data := #[107, 32, 111, 32, 47, 32, 107, 32, 107, 10] }) ∧ w'.cell? ⟨w.heap.size + 1 + 1 + 1 + 1 + 1 + 1 + 1 + 1 + 1 + 1 + 1, 0, Option.none⟩ = some (.string { data := #[46, 79, 47, 46, 46, 10] })) (first | (with_reducible exact ⟨q0_1, q0_2, q0_3, q0_4, q0_5⟩) | (with_reducible exact ⟨q1_1, q1_2, q1_3, q1_4, q1_5⟩) | (with_reducible exact ⟨q2_1, q2_2, q2_3, q2_4, q2_5⟩) | go_keep) (first
        | (go_at_call 40; (refine (HTx.out _ (X2.out.trans ?_)).mono ?_); (focus (repeat (first | (with_reducible exact Ext.refl _) | (with_reducible apply Ext.drew) | (with_reducible apply Ext.drewN) | (with_reducible apply Ext.alloc)))); intro e wa hh; obtain ⟨rfl, x⟩ := hh; have Xa : Hid (Ext W1 wa) := Lib.hid (Ext.trans (by ((repeat (first | (with_reducible exact Ext.refl _) | (with_reducible apply Ext.drew) | (with_reducible apply Ext.drewN) | (with_reducible apply Ext.alloc))); done)) x); have q1_1 := Xa.out.cell q0_1; have q1_2 := Xa.out.cell q0_2; have q1_3 := Xa.out.cell q0_3; have q1_4 := Xa.out.cell q0_4; have q1_5 := Xa.out.cell q0_5; clear x)
        | (go_at_call 16; (refine (HLt.out _ (X2.out.trans ?_)).mono ?_); (focus (refine Ext.trans Xa.out ?_; (repeat (first | (with_reducible exact Ext.refl _) | (with_reducible apply Ext.drew) | (with_reducible apply Ext.drewN) | (with_reducible apply Ext.alloc))))); intro e wb hh; obtain ⟨rfl, x⟩ := hh; have Xb : Hid (Ext W1 wb) := Lib.hid (Ext.trans Xa.out (Ext.trans (by ((repeat (first | (with_reducible exact Ext.refl _) | (with_reducible apply Ext.drew) | (with_reducible apply Ext.drewN) | (with_reducible apply Ext.alloc))); done)) x)); have q2_1 := Xb.out.cell q0_1; have q2_2 := Xb.out.cell q0_2; have q2_3 := Xb.out.cell q0_3; have q2_4 := Xb.out.cell q0_4; have q2_5 := Xb.out.cell q0_5; clear x))
      try go_wp2
      go_roundw
      case rel => exact ⟨1, by omega, by go_num, Lib.hid (X1.out.trans (X2.out.trans Xb.out))⟩
      case measure => simp [intOf]
    · skip
      have f2 := HX.out.cell F2.out
      have f3 := HX.out.cell F3.out
      have f7 := HX.out.cell F7.out
      have f10 := HX.out.cell F10.out
      have hch := LChart_calls 5 1 _ _ hB wr (RB.out.ext HX.out) (by decide)
      rw [EB1.out] at hch
      have HCh := Lib.hid hch
      clear hch
      go_wp2_with fail
      refine HCh.out.mono ?_
      rintro e w1 ⟨vc, rfl, hrc, x1⟩
      have htx := fun w' (x : Ext w1 w') => CText_calls _ _ _ w' (hrc.ext x) (HY.out.ext (HX.out.trans (x1.trans x)))
      rw [EB2.out, show bstr [47, 32, 111, 32, 107, 32, 111, 32, 47, 10] = { data := #[47, 32, 111, 32, 107, 32, 111, 32, 47, 10] } from rfl] at htx
      have hlt := fun w' (x : Ext w1 w') => LText_calls 5 _ _ hB w' (RB.out.ext (HX.out.trans (x1.trans x)))
      rw [EB3.out, show bstr [47, 79, 46, 79, 47, 10] = { data := #[47, 79, 46, 79, 47, 10] } from rfl] at hlt
      obtain ⟨ac, nc, rfl, hnc, hcc, hmc, _⟩ := hrc.open
      obtain ⟨cc, hccc⟩ : ∃ cc, cc = (lcR 5 1 hB).length := ⟨_, rfl⟩
      rw [← hccc] at htx ⊢
      have HTx := Lib.hid htx; have HLt := Lib.hid hlt; have X1 := Lib.hid (HX.out.trans x1)
      clear htx hlt hrc hnc hcc hmc hccc x1 HCh f2 f3 f7 f10
      obtain ⟨W1, hW1⟩ : ∃ W1, W1 = w1.alloc (.cells #[.slice ac nc cc] 28) := ⟨_, rfl⟩
      have x2 : Ext w1 W1 := by rw [hW1]; exact (Ext.refl w1).alloc _
      have q0_1 : W1.cell? ⟨w1.heap.size, 0, none⟩ = some (.slice ac nc cc) := by rw [hW1, World.cell?_alloc_at (hn := rfl)]; rfl
      have q0_2 := (X1.out.trans x2).cell F2.out
      have q0_3 := (X1.out.trans x2).cell F3.out
      have q0_4 := (X1.out.trans x2).cell F7.out
      have q0_5 := (X1.out.trans x2).cell F10.out
      have HW1 := Lib.hid hW1; have X2 := Lib.hid x2
      rw [hW1] at q0_1 q0_2 q0_3 q0_4 q0_5
      clear hW1 x2
      go_wp2
      rw [← HW1.out]
      rw [← HW1.out] at q0_1 q0_2 q0_3 q0_4 q0_5
      go_region_held3 (fun w' => w'.cell? ⟨w1.heap.size, 0, Option.none⟩ = some (.slice ac nc cc) ∧ w'.cell? ⟨w.heap.size + 1 + 1 + 1 + 1 + 1 + 1 + 1 + 1 + 1, 2, Option.none⟩ = some (.int .i64 5) ∧ w'.cell? ⟨w.heap.size + 1 + 1 + 1 + 1 + 1 + 1 + 1 + 1 + 1, 3, Option.none⟩ = some (.slice (some ⟨w.heap.size + 1 + 1 + 1 + 1, 0, none⟩) 1 1) ∧ w'.cell? ⟨w.heap.size + 1 + 1 + 1 + 1 + 1 + 1 + 1 + 1 + 1 + 1, 1, Option.none⟩ = some (.string { data := #[47, 32, 111, 32, 107, 32, 111, 32, 47, 10] }) ∧ w'.cell? ⟨w.heap.size + 1 + 1 + 1 + 1 + 1 + 1 + 1 + 1 + 1 + 1 + 1, 1, Option.none⟩ = some (.string { data := #[47, 79, 46, 79, 47, 10] })) (first | (with_reducible exact ⟨q0_1, q0_2, q0_3, q0_4, q0_5⟩) | (with_reducible exact ⟨q1_1, q1_2, q1_3, q1_4, q1_5⟩) | (with_reducible exact ⟨q2_1, q2_2, q2_3, q2_4, q2_5⟩) | go_keep) (first
        | (go_at_call 40; (refine (HTx.out _ (X2.out.trans ?_)).mono ?_); (focus (repeat (first | (with_reducible exact Ext.refl _) | (with_reducible apply Ext.drew) | (with_reducible apply Ext.drewN) | (with_reducible apply Ext.alloc)))); intro e wa hh; obtain ⟨rfl, x⟩ := hh; have Xa : Hid (Ext W1 wa) := Lib.hid (Ext.trans (by ((repeat (first | (with_reducible exact Ext.refl _) | (with_reducible apply Ext.drew) | (with_reducible apply Ext.drewN) | (with_reducible apply Ext.alloc))); done)) x); have q1_1 := Xa.out.cell q0_1; have q1_2 := Xa.out.cell q0_2; have q1_3 := Xa.out.cell q0_3; have q1_4 := Xa.out.cell q0_4; have q1_5 := Xa.out.cell q0_5; clear x)
        | (go_at_call 16; (refine (HLt.out _ (X2.out.trans ?_)).mono ?_); (focus (refine Ext.trans Xa.out ?_; (repeat (first | (with_reducible exact Ext.refl _) | (with_reducible apply Ext.drew) | (with_reducible apply Ext.drewN) | (with_reducible apply Ext.alloc))))); intro e wb hh; obtain ⟨rfl, x⟩ := hh; have Xb : Hid (Ext W1 wb) := Lib.hid (Ext.trans Xa.out (Ext.trans (by ((repeat (first | (with_reducible exact Ext.refl _) | (with_reducible apply Ext.drew) | (with_reducible apply Ext.drewN) | (with_reducible apply Ext.alloc))); done)) x)); have q2_1 := Xb.out.cell q0_1; have q2_2 := Xb.out.cell q0_2; have q2_3 := Xb.out.cell q0_3; have q2_4 := Xb.out.cell q0_4; have q2_5 := Xb.out.cell q0_5; clear x))
      try go_wp2
      go_roundw
      case rel => exact ⟨2, by omega, by go_num, Lib.hid (X1.out.trans (X2.out.trans Xb.out))⟩
      case measure => simp [intOf]
    · skip
      have f4 := HX.out.cell F4.out
      have f5 := HX.out.cell F5.out
      have f8 := HX.out.cell F8.out
      have f11 := HX.out.cell F11.out
      have hch := LChart_calls 4 1 _ _ hC wr (RC.out.ext HX.out) (by decide)
      rw [EC1.out] at hch
      have HCh := Lib.hid hch
      clear hch
      go_wp2_with fail
      refine HCh.out.mono ?_
      rintro e w1 ⟨vc, rfl, hrc, x1⟩
      have htx := fun w' (x : Ext w1 w') => CText_calls _ _ _ w' (hrc.ext x) (HY.out.ext (HX.out.trans (x1.trans x)))
      rw [EC2.out, show bstr [47, 32, 111, 32, 111, 32, 47, 10] = { data := #[47, 32, 111, 32, 111, 32, 47, 10] } from rfl] at htx
      have hlt := fun w' (x : Ext w1 w') => LText_calls 4 _ _ hC w' (RC.out.ext (HX.out.trans (x1.trans x)))
      rw [EC3.out, show bstr [47, 79, 79, 47, 10] = { data := #[47, 79, 79, 47, 10] } from rfl] at hlt
      obtain ⟨ac, nc, rfl, hnc, hcc, hmc, _⟩ := hrc.open
      obtain ⟨cc, hccc⟩ : ∃ cc, cc = (lcR 4 1 hC).length := ⟨_, rfl⟩
      rw [← hccc] at htx ⊢
      have HTx := Lib.hid htx; have HLt := Lib.hid hlt; have X1 := Lib.hid (HX.out.trans x1)
      clear htx hlt hrc hnc hcc hmc hccc x1 HCh f4 f5 f8 f11
      obtain ⟨W1, hW1⟩ : ∃ W1, W1 = w1.alloc (.cells #[.slice ac nc cc] 28) := ⟨_, rfl⟩
      have x2 : Ext w1 W1 := by rw [hW1]; exact (Ext.refl w1).alloc _
      have q0_1 : W1.cell? ⟨w1.heap.size, 0, none⟩ = some (.slice ac nc cc) := by rw [hW1, World.cell?_alloc_at (hn := rfl)]; rfl
      have q0_2 := (X1.out.trans x2).cell F4.out
      have q0_3 := (X1.out.trans x2).cell F5.out
      have q0_4 := (X1.out.trans x2).cell F8.out
      have q0_5 := (X1.out.trans x2).cell F11.out
      have HW1 := Lib.hid hW1; have X2 := Lib.hid x2
      rw [hW1] at q0_1 q0_2 q0_3 q0_4 q0_5
      clear hW1 x2
      go_wp2
      rw [← HW1.out]
      rw [← HW1.out] at q0_1 q0_2 q0_3 q0_4 q0_5
      go_region_held3 (fun w' => w'.cell? ⟨w1.heap.size, 0, Option.none⟩ = some (.slice ac nc cc) ∧ w'.cell? ⟨w.heap.size + 1 + 1 + 1 + 1 + 1 + 1 + 1 + 1 + 1, 4, Option.none⟩ = some (.int .i64 4) ∧ w'.cell? ⟨w.heap.size + 1 + 1 + 1 + 1 + 1 + 1 + 1 + 1 + 1, 5, Option.none⟩ = some (.slice (some ⟨w.heap.size + 1 + 1 + 1 + 1 + 1 + 1 + 1, 0, none⟩) 1 1) ∧ w'.cell? ⟨w.heap.size + 1 + 1 + 1 + 1 + 1 + 1 + 1 + 1 + 1 + 1, 2, Option.none⟩ = some (.string { data := #[47, 32, 111, 32, 111, 32, 47, 10] }) ∧ w'.cell? ⟨w.heap.size + 1 + 1 + 1 + 1 + 1 + 1 + 1 + 1 + 1 + 1 + 1, 2, Option.none⟩ = some (.string { data := #[47, 79, 79, 47, 10] })) (first | (with_reducible exact ⟨q0_1, q0_2, q0_3, q0_4, q0_5⟩) | (with_reducible exact ⟨q1_1, q1_2, q1_3, q1_4, q1_5⟩) | (with_reducible exact ⟨q2_1, q2_2, q2_3, q2_4, q2_5⟩) | go_keep) (first
        | (go_at_call 40; (refine (HTx.out _ (X2.out.trans ?_)).mono ?_); (focus (repeat (first | (with_reducible exact Ext.refl _) | (with_reducible apply Ext.drew) | (with_reducible apply Ext.drewN) | (with_reducible apply Ext.alloc)))); intro e wa hh; obtain ⟨rfl, x⟩ := hh; have Xa : Hid (Ext W1 wa) := Lib.hid (Ext.trans (by ((repeat (first | (with_reducible exact Ext.refl _) | (with_reducible apply Ext.drew) | (with_reducible apply Ext.drewN) | (with_reducible apply Ext.alloc))); done)) x); have q1_1 := Xa.out.cell q0_1; have q1_2 := Xa.out.cell q0_2; have q1_3 := Xa.out.cell q0_3; have q1_4 := Xa.out.cell q0_4; have q1_5 := Xa.out.cell q0_5; clear x)
        | (go_at_call 16; (refine (HLt.out _ (X2.out.trans ?_)).mono ?_); (focus (refine Ext.trans Xa.out ?_; (repeat (first | (with_reducible exact Ext.refl _) | (with_reducible apply Ext.drew) | (with_reducible apply Ext.drewN) | (with_reducible apply Ext.alloc))))); intro e wb hh; obtain ⟨rfl, x⟩ := hh; have Xb : Hid (Ext W1 wb) := Lib.hid (Ext.trans Xa.out (Ext.trans (by ((repeat (first | (with_reducible exact Ext.refl _) | (with_reducible apply Ext.drew) | (with_reducible apply Ext.drewN) | (with_reducible apply Ext.alloc))); done)) x)); have q2_1 := Xb.out.cell q0_1; have q2_2 := Xb.out.cell q0_2; have q2_3 := Xb.out.cell q0_3; have q2_4 := Xb.out.cell q0_4; have q2_5 := Xb.out.cell q0_5; clear x))
      try go_wp2
      go_roundw
      case rel => exact ⟨3, by omega, by go_num, Lib.hid (X1.out.trans (X2.out.trans Xb.out))⟩
      case measure => simp [intOf]
    · skip
      have f12 := HX.out.cell F12.out
      have f13 := HX.out.cell F13.out
      have f14 := HX.out.cell F14.out
      have f15 := HX.out.cell F15.out
      have XA := HX
      obtain ⟨⟨es1, es2, es3⟩, es4, en1, ⟨ep1, ep2, ep3⟩, eo1, eo2, ek1, em1⟩ := ex20b
      obtain ⟨et1, et2⟩ := ex20c
      have hs1 := LShift_calls 5 2 _ _ hA wr (RA.out.ext HX.out) (by decide)
      have hs2 := fun w' (x : Ext wr w') => LShift_calls 5 3 _ _ hA w' (RA.out.ext (HX.out.trans x)) (by decide)
      have hc3 := fun w' (x : Ext wr w') => LChart_calls 5 1 _ _ hB w' (RB.out.ext (HX.out.trans x)) (by decide)
      rw [es1, es2, es3] at hs1
      rw [es4, et1, et2] at hs2
      rw [EB1.out] at hc3
      have HS1 := Lib.hid hs1; have HS2 := Lib.hid hs2; have HC3 := Lib.hid hc3; have EN1 := Lib.hid en1; have EP1 := Lib.hid ep1; have EP2 := Lib.hid ep2; have EP3 := Lib.hid ep3; have EO1 := Lib.hid eo1; have EO2 := Lib.hid eo2; have EK1 := Lib.hid ek1; have EM1 := Lib.hid em1
      clear hs1 hs2 hc3 es1 es2 es3 es4 et1 et2 en1 ep1 ep2 ep3 eo1 eo2 ek1 em1 EA1 EA2 EA3 EB1 EB2 EB3 EC1 EC2 EC3 RC hk
      go_wp2_with fail
      refine HS1.out.mono ?_
      rintro e w1 ⟨v1, rfl, hr1, x1⟩
      obtain ⟨a1, n1, hv, hn1, j2, j3, j4⟩ := hr1.open
      subst hv
      clear hn1 j2 j3 j4
      generalize [[(⟨3, false⟩ : Ho)]].length = c1 at hr1 ⊢
      have R1 := Lib.hid hr1; clear hr1
      have X1 := Lib.hid x1
      obtain ⟨W1, hW1⟩ : ∃ W1, W1 = w1.alloc (.cells #[.int .i64 5, .slice a1 n1 c1] 24) := ⟨_, rfl⟩
      have xW1 : Ext w1 W1 := by rw [hW1]; exact (Ext.refl _).alloc _
      have bA : B2 W1 w1.heap.size (.int .i64 5) (.slice a1 n1 c1) 24 := by rw [hW1]; exact B2.new _ _ _ _
      have BA := Lib.hid bA; have HW1 := Lib.hid hW1; have XW1 := Lib.hid (x1.trans xW1)
      have f12 := (HX.out.trans XW1.out).cell F12.out; have f13 := (HX.out.trans XW1.out).cell F13.out
      rw [hW1] at f12 f13
      clear x1 xW1 bA hW1
      go_wp2_with fail
      rw [← HW1.out]
      refine (HS2.out _ XW1.out).mono ?_
      rintro e w2 ⟨v2, rfl, hr2, x2⟩
      obtain ⟨a2, n2, hv, hn2, j2, j3, j4⟩ := hr2.open
      subst hv
      clear hr2 hn2 j2 j3 j4
      generalize ([] : List (List Ho)).length = c2
      obtain ⟨W2, hW2⟩ : ∃ W2, W2 = w2.alloc (.cells #[.int .i64 0, .slice a2 n2 c2] 24) := ⟨_, rfl⟩
      have xW2 : Ext w2 W2 := by rw [hW2]; exact (Ext.refl _).alloc _
      have HW2 := Lib.hid hW2; have XW2 := Lib.hid (XW1.out.trans (x2.trans xW2)); have Y2 := Lib.hid (x2.trans xW2)
      have f14 := (HX.out.trans XW2.out).cell F14.out; have f15 := (HX.out.trans XW2.out).cell F15.out
      rw [hW2] at f14 f15
      clear x2 xW2 hW2 f12 f13
      go_wp2_with fail
      rw [← HW2.out]
      refine (HC3.out _ XW2.out).mono ?_
      rintro e w3 ⟨v3, rfl, hr3, x3⟩
      obtain ⟨cc, hccc⟩ : ∃ cc, cc = (lcR 5 1 hB).length := ⟨_, rfl⟩
      rw [← hccc] at hr3
      obtain ⟨a3, n3, hv, hn3, j2, j3, hat⟩ := hr3.open
      subst hv
      obtain rfl : n3 = 1 := by rw [hn3, EN1.out]
      obtain ⟨b, o, ra, rm, rd, rfl, y1, y2⟩ := hat 0 (by omega)
      rw [Nat.add_zero] at y1
      have RP := Lib.hid y2; have Y1 := Lib.hid y1
      clear hr3 hn3 hccc j2 j3 hat y2
      obtain ⟨W3, hW3⟩ : ∃ W3, W3 = w3.alloc (.cells #[.slice (some ⟨b, o, none⟩) 1 cc] 28) := ⟨_, rfl⟩
      have xW3 : Ext w3 W3 := by rw [hW3]; exact (Ext.refl _).alloc _
      have g0 : W3.cell? ⟨w3.heap.size, 0, none⟩ = some (.slice (some ⟨b, o, none⟩) 1 cc) := by rw [hW3, World.cell?_alloc_at (hn := rfl)]; rfl
      have g1 := xW3.cell y1
      have HW3 := Lib.hid hW3; have XW3 := Lib.hid (XW2.out.trans (x3.trans xW3)); have Y3 := Lib.hid (Y2.out.trans (x3.trans xW3)); have Z3 := Lib.hid xW3
      rw [hW3] at g0 g1
      clear x3 xW3 hW3 f14 f15 y1
      have hpr := Pairs_calls _ rd (sw (lcR 5 1 hB) 0) W3 (RP.out.ext Z3.out) (by decide)
      have HPr := Lib.hid hpr; clear hpr
      go_wp2_with fail
      rw [← HW3.out]
      refine HPr.out.mono ?_
      rintro e w4 ⟨x4, h4⟩
      have h4b : ∃ v, e = .returned (.tuple #[v, .int .i64 0]) ∧ PB w4 v 2 (fun i => (gi [1, 3] i, gi [0, 4] i)) := by
        rcases h4 with ⟨_, v, h5, h6⟩ | ⟨h5, _⟩
        · rw [EP2.out, EP3.out] at h6; exact ⟨v, h5, h6⟩
        · rw [EP1.out] at h5; cases h5
      obtain ⟨v4, rfl, pg, rfl, hpc⟩ := h4b
      have P0 := Lib.hid (hpc 0 (by omega)); have P1 := Lib.hid (hpc 1 (by omega))
      have X4 := Lib.hid (XW3.out.trans x4); have Y4 := Lib.hid (Y3.out.trans x4)
      clear h4 hpc x4 HPr g0 g1
      obtain ⟨W4, hW4⟩ : ∃ W4, W4 = (w4.alloc (.cells #[.int .u8 3, .int .u8 1, .int .i64 0, .int .i64 0, .bool false, .int .u8 1, .int .u8 1, .int .i64 0, .int .i64 0, .bool false, .int .u8 4, .int .u8 1, .int .i64 0, .int .i64 0, .bool false] 49)).alloc (.cells #[.slice (some ⟨w4.heap.size, 0, none⟩) 3 3] 41) := ⟨_, rfl⟩
      have xW4 : Ext w4 W4 := by rw [hW4]; exact ((Ext.refl _).alloc _).alloc _
      have rO4 : RR W4 (.slice (some ⟨w4.heap.size + 1, 0, none⟩) 1 1) 1 rO := by
        rw [hW4]
        refine RR.lit1' (l := [⟨3, 1, 0, 0, false⟩, ⟨1, 1, 0, 0, false⟩, ⟨4, 1, 0, 0, false⟩]) (c := 3) (blk_at (by simp)) ?_
        exact ((RO.lit (w := w4) (l := [⟨3, 1, 0, 0, false⟩, ⟨1, 1, 0, 0, false⟩, ⟨4, 1, 0, 0, false⟩]) rfl (by simp)).ext ((Ext.refl _).alloc _))
      have hof := LOf_calls _ _ rO W4 rO4 (by decide)
      have HOf := Lib.hid hof; have HW4 := Lib.hid hW4; have X5 := Lib.hid (X4.out.trans xW4); have Y5 := Lib.hid (Y4.out.trans xW4); have Z5 := Lib.hid xW4
      clear hof rO4 hW4 xW4
      go_wp2_with fail
      rw [← HW4.out]
      refine HOf.out.mono ?_
      rintro e w5 ⟨x5, h5⟩
      have h5b : e = .returned (.tuple #[.agg #[.int .i64 0, .slice none 0 0], .int .u8 0, .int .i64 7]) := by
        rcases h5 with ⟨h6, _⟩ | ⟨_, _, h6⟩ | ⟨_, W', y', hs', v', c', hI, _⟩
        · exact absurd EO1.out h6
        · exact h6
        · have := (hI.rd.2 0 (by decide)).1; rw [EO2.out] at this; cases this
      obtain rfl := h5b
      obtain ⟨W5, hW5⟩ : ∃ W5, W5 = w5.alloc (.cells #[.int .i64 0, .slice none 0 0] 24) := ⟨_, rfl⟩
      have xW5 : Ext w5 W5 := by rw [hW5]; exact (Ext.refl _).alloc _
      have HW5 := Lib.hid hW5; have X6 := Lib.hid (X5.out.trans (x5.trans xW5)); have Y6 := Lib.hid (Y5.out.trans (x5.trans xW5)); have Z6 := Lib.hid (Z5.out.trans (x5.trans xW5))
      clear h5 x5 xW5 hW5 HOf
      have q0_1 : W5.cell? ⟨w1.heap.size, 0, none⟩ = some (.int .i64 5) := (BA.out.ext Y6.out).c0
      have q0_2 : W5.cell? ⟨w1.heap.size, 1, none⟩ = some (.slice a1 n1 c1) := (BA.out.ext Y6.out).c1
      have q0_3 := (HX.out.trans X6.out).cell F14.out; have q0_4 := (HX.out.trans X6.out).cell F15.out
      have q0_5 : W5.cell? ⟨pg, 0, none⟩ = some (.int .i64 1) := Z6.out.cell P0.out.1
      have q0_6 : W5.cell? ⟨pg, 1, none⟩ = some (.int .i64 0) := Z6.out.cell P0.out.2
      have q0_7 : W5.cell? ⟨pg, 2, none⟩ = some (.int .i64 3) := Z6.out.cell P1.out.1
      have q0_8 : W5.cell? ⟨pg, 3, none⟩ = some (.int .i64 4) := Z6.out.cell P1.out.2
      have hq1 : ∀ w, (binOp .eql 66 (.agg #[.int .i64 1, .int .i64 0]) (.agg #[.int .i64 1, .int .i64 0])).run Tryd.prog w = .ok (.bool true) w := fun w => by kernel_rfl
      have hq2 : ∀ w, (binOp .eql 66 (.agg #[.int .i64 3, .int .i64 4]) (.agg #[.int .i64 3, .int .i64 4])).run Tryd.prog w = .ok (.bool true) w := fun w => by kernel_rfl
      have RB5 := Lib.hid (RB.out.ext (HX.out.trans X6.out)); have R15 := Lib.hid (R1.out.ext (Ext.trans (show Ext w1 W1 by rw [HW1.out]; exact (Ext.refl _).alloc _) Y6.out))
      have XF := Lib.hid (X0.out.trans (HX.out.trans X6.out))
      clear F0 F1 F2 F3 F4 F5 F6 F7 F8 F9 F10 F11 F12 F13 F14 F15 X0 HX XA RA RB HY HW0 HS1 HS2 HC3 R1 X1 BA XW1 HW1 HW2 XW2 Y2 RP Y1 HW3 XW3 Y3 Z3 P0 P1 X4 Y4 HW4 X5 Y5 Z5 Y6 Z6 EO1 EO2 EN1 EP1 EP2 EP3
      go_wp2_with fail
      rw [← HW5.out]
      refine wp_region_held_drew (S := fun w' => w'.cell? ⟨w1.heap.size, 0, Option.none⟩ = some (.int .i64 5) ∧ w'.cell? ⟨w1.heap.size, 1, Option.none⟩ = some (.slice a1 n1 c1) ∧ w'.cell? ⟨w.heap.size + 1 + 1 + 1 + 1 + 1, 0, Option.none⟩ = some (.int .i64 5) ∧ w'.cell? ⟨w.heap.size + 1 + 1 + 1 + 1 + 1, 1, Option.none⟩ = some (.slice (some ⟨w.heap.size + 1 + 1 + 1 + 1, 0, none⟩) 1 1) ∧ w'.cell? ⟨pg, 0, Option.none⟩ = some (.int .i64 1) ∧ w'.cell? ⟨pg, 1, Option.none⟩ = some (.int .i64 0) ∧ w'.cell? ⟨pg, 2, Option.none⟩ = some (.int .i64 3) ∧ w'.cell? ⟨pg, 3, Option.none⟩ = some (.int .i64 4)) (by kernel_rfl) ?_ (fun hHeld => ?_)
      · exact ⟨q0_1, q0_2, q0_3, q0_4, q0_5, q0_6, q0_7, q0_8⟩
      refine wpAnyH_take (i := 0) (v := ?va348_0) rfl (by kernel_rfl) (by kernel_rfl) (by kernel_rfl) (fun _ _ _ h => h) (Or.inl ⟨by rfl, fun w hSw => ?ti348_0⟩) (by assumption) ?rest348_0
      case ti348_0 => ((try dsimp only at hSw); go_simp; (first | done | with_reducible rfl))
      try simp only [Act.put, List.getElem_toArray, List.getElem_cons_zero, List.getElem_cons_succ, List.setIfInBounds_toArray, List.set_cons_zero, List.set_cons_succ]
      refine wpAnyH_take (i := 1) (v := ?va351_1) rfl (by kernel_rfl) (by kernel_rfl) (by kernel_rfl) (fun _ _ _ h => h) (Or.inl ⟨by rfl, fun w hSw => ?ti351_1⟩) (by assumption) ?rest351_1
      case ti351_1 => ((try dsimp only at hSw); go_simp; (first | done | with_reducible rfl))
      try simp only [Act.put, List.getElem_toArray, List.getElem_cons_zero, List.getElem_cons_succ, List.setIfInBounds_toArray, List.set_cons_zero, List.set_cons_succ]
      refine wpAnyH_ready (rs := [2]) (by kernel_rfl) (by simp) ?_
      refine AllReadyH.cons rfl (fun K hK => ?_) AllReadyH.nil
      go_simp
      refine hK.out _ _ ?_ (fun hHeld => ?_)
      · exact ⟨(cell_alloc q0_1 _), (cell_alloc q0_2 _), (cell_alloc q0_3 _), (cell_alloc q0_4 _), (cell_alloc q0_5 _), (cell_alloc q0_6 _), (cell_alloc q0_7 _), (cell_alloc q0_8 _)⟩
      clear hK K
      try simp only [Act.put, List.getElem_toArray, List.getElem_cons_zero, List.getElem_cons_succ, List.setIfInBounds_toArray, List.set_cons_zero, List.set_cons_succ]
      refine wpAnyH_ready (rs := [3]) (by kernel_rfl) (by simp) ?_
      refine AllReadyH.cons rfl (fun K hK => ?_) AllReadyH.nil
      go_simp
      refine hK.out _ _ ?_ (fun hHeld => ?_)
      · exact ⟨(cell_alloc (cell_alloc q0_1 _) _), (cell_alloc (cell_alloc q0_2 _) _), (cell_alloc (cell_alloc q0_3 _) _), (cell_alloc (cell_alloc q0_4 _) _), (cell_alloc (cell_alloc q0_5 _) _), (cell_alloc (cell_alloc q0_6 _) _), (cell_alloc (cell_alloc q0_7 _) _), (cell_alloc (cell_alloc q0_8 _) _)⟩
      clear hK K
      try simp only [Act.put, List.getElem_toArray, List.getElem_cons_zero, List.getElem_cons_succ, List.setIfInBounds_toArray, List.set_cons_zero, List.set_cons_succ]
      refine wpAnyH_take (i := 4) (v := ?va368_4) rfl (by kernel_rfl) (by kernel_rfl) (by kernel_rfl) (fun _ _ _ h => h) (Or.inl ⟨by rfl, fun w hSw => ?ti368_4⟩) (by assumption) ?rest368_4
      case ti368_4 => ((try dsimp only at hSw); go_simp; (first | done | with_reducible rfl))
      try simp only [Act.put, List.getElem_toArray, List.getElem_cons_zero, List.getElem_cons_succ, List.setIfInBounds_toArray, List.set_cons_zero, List.set_cons_succ]
      refine wpAnyH_ready (rs := [5]) (by kernel_rfl) (by simp) ?_
      refine AllReadyH.cons rfl (fun K hK => ?_) AllReadyH.nil
      go_simp
      refine (chk_12 (w0 := W5) ?_ EK1.out).mono ?_
      · (repeat (first | (with_reducible exact Ext.refl _) | (with_reducible apply Ext.drew) | (with_reducible apply Ext.drewN) | (with_reducible apply Ext.alloc)))
      intro e y1 hh
      obtain ⟨rfl, x⟩ := hh
      have Z1 : Hid (Ext W5 y1) := Lib.hid (Ext.trans (by ((repeat (first | (with_reducible exact Ext.refl _) | (with_reducible apply Ext.drew) | (with_reducible apply Ext.drewN) | (with_reducible apply Ext.alloc))); done)) x)
      have q1_1 := Z1.out.cell q0_1
      have q1_2 := Z1.out.cell q0_2
      have q1_3 := Z1.out.cell q0_3
      have q1_4 := Z1.out.cell q0_4
      have q1_5 := Z1.out.cell q0_5
      have q1_6 := Z1.out.cell q0_6
      have q1_7 := Z1.out.cell q0_7
      have q1_8 := Z1.out.cell q0_8
      go_simp
      refine hK.out _ _ ?_ (fun hHeld => ?_)
      · exact ⟨q1_1, q1_2, q1_3, q1_4, q1_5, q1_6, q1_7, q1_8⟩
      clear hK K x
      try simp only [Act.put, List.getElem_toArray, List.getElem_cons_zero, List.getElem_cons_succ, List.setIfInBounds_toArray, List.set_cons_zero, List.set_cons_succ]
      refine wpAnyH_take (i := 6) (v := ?va392_6) rfl (by kernel_rfl) (by kernel_rfl) (by kernel_rfl) (fun _ _ _ h => h) (Or.inl ⟨by rfl, fun w hSw => ?ti392_6⟩) (by assumption) ?rest392_6
      case ti392_6 => ((try dsimp only at hSw); go_simp; (first | done | with_reducible rfl))
      try simp only [Act.put, List.getElem_toArray, List.getElem_cons_zero, List.getElem_cons_succ, List.setIfInBounds_toArray, List.set_cons_zero, List.set_cons_succ]
      refine wpAnyH_take (i := 7) (v := ?va395_7) rfl (by kernel_rfl) (by kernel_rfl) (by kernel_rfl) (fun _ _ _ h => h) (Or.inl ⟨by rfl, fun w hSw => ?ti395_7⟩) (by assumption) ?rest395_7
      case ti395_7 => ((try dsimp only at hSw); go_simp; (first | done | with_reducible rfl))
      try simp only [Act.put, List.getElem_toArray, List.getElem_cons_zero, List.getElem_cons_succ, List.setIfInBounds_toArray, List.set_cons_zero, List.set_cons_succ]
      refine wpAnyH_take (i := 8) (v := ?va398_8) rfl (by kernel_rfl) (by kernel_rfl) (by kernel_rfl) (fun _ _ _ h => h) (Or.inl ⟨by rfl, fun w hSw => ?ti398_8⟩) (by assumption) ?rest398_8
      case ti398_8 => ((try dsimp only at hSw); go_simp; (first | done | with_reducible rfl))
      try simp only [Act.put, List.getElem_toArray, List.getElem_cons_zero, List.getElem_cons_succ, List.setIfInBounds_toArray, List.set_cons_zero, List.set_cons_succ]
      refine wpAnyH_take (i := 10) (v := ?va401_10) rfl (by kernel_rfl) (by kernel_rfl) (by kernel_rfl) (fun _ _ _ h => h) (Or.inl ⟨by rfl, fun w hSw => ?ti401_10⟩) (by assumption) ?rest401_10
      case ti401_10 => ((try dsimp only at hSw); go_simp; (first | done | with_reducible rfl))
      try simp only [Act.put, List.getElem_toArray, List.getElem_cons_zero, List.getElem_cons_succ, List.setIfInBounds_toArray, List.set_cons_zero, List.set_cons_succ]
      refine wpAnyH_ready (rs := [9]) (by kernel_rfl) (by simp) ?_
      refine AllReadyH.cons rfl (fun K hK => ?_) AllReadyH.nil
      go_simp
      refine (mir_B (RB5.out.ext ?_) EM1.out).mono ?_
      · (refine Ext.trans Z1.out ?_; (repeat (first | (with_reducible exact Ext.refl _) | (with_reducible apply Ext.drew) | (with_reducible apply Ext.drewN) | (with_reducible apply Ext.alloc))))
      intro e y2 hh
      obtain ⟨v7, rfl, r7, x⟩ := hh
      have Z2 : Hid (Ext W5 y2) := Lib.hid (Ext.trans Z1.out (Ext.trans (by ((repeat (first | (with_reducible exact Ext.refl _) | (with_reducible apply Ext.drew) | (with_reducible apply Ext.drewN) | (with_reducible apply Ext.alloc))); done)) x))
      have q2_1 := Z2.out.cell q0_1
      have q2_2 := Z2.out.cell q0_2
      have q2_3 := Z2.out.cell q0_3
      have q2_4 := Z2.out.cell q0_4
      have q2_5 := Z2.out.cell q0_5
      have q2_6 := Z2.out.cell q0_6
      have q2_7 := Z2.out.cell q0_7
      have q2_8 := Z2.out.cell q0_8
      obtain ⟨a7, n7, hv, jj⟩ := r7.open; subst hv; have R7 := Lib.hid r7; clear r7 jj
      go_simp
      refine hK.out _ _ ?_ (fun hHeld => ?_)
      · exact ⟨q2_1, q2_2, q2_3, q2_4, q2_5, q2_6, q2_7, q2_8⟩
      clear hK K x
      try simp only [Act.put, List.getElem_toArray, List.getElem_cons_zero, List.getElem_cons_succ, List.setIfInBounds_toArray, List.set_cons_zero, List.set_cons_succ]
      refine wpAnyH_ready (rs := [11]) (by kernel_rfl) (by simp) ?_
      refine AllReadyH.cons rfl (fun K hK => ?_) AllReadyH.nil
      go_simp
      refine (hdf_c 5 _ _ _ _ hB _ (R7.out.ext ?_) (RB5.out.ext ?_)).mono ?_
      · (repeat (first | (with_reducible exact Ext.refl _) | (with_reducible apply Ext.drew) | (with_reducible apply Ext.drewN) | (with_reducible apply Ext.alloc)))
      · (refine Ext.trans Z2.out ?_; (repeat (first | (with_reducible exact Ext.refl _) | (with_reducible apply Ext.drew) | (with_reducible apply Ext.drewN) | (with_reducible apply Ext.alloc))))
      intro e y3 hh
      obtain ⟨rfl, x⟩ := hh
      have Z3 : Hid (Ext W5 y3) := Lib.hid (Ext.trans Z2.out (Ext.trans (by ((repeat (first | (with_reducible exact Ext.refl _) | (with_reducible apply Ext.drew) | (with_reducible apply Ext.drewN) | (with_reducible apply Ext.alloc))); done)) x))
      have q3_1 := Z3.out.cell q0_1
      have q3_2 := Z3.out.cell q0_2
      have q3_3 := Z3.out.cell q0_3
      have q3_4 := Z3.out.cell q0_4
      have q3_5 := Z3.out.cell q0_5
      have q3_6 := Z3.out.cell q0_6
      have q3_7 := Z3.out.cell q0_7
      have q3_8 := Z3.out.cell q0_8
      go_simp
      refine hK.out _ _ ?_ (fun hHeld => ?_)
      · exact ⟨q3_1, q3_2, q3_3, q3_4, q3_5, q3_6, q3_7, q3_8⟩
      clear hK K x
      try simp only [Act.put, List.getElem_toArray, List.getElem_cons_zero, List.getElem_cons_succ, List.setIfInBounds_toArray, List.set_cons_zero, List.set_cons_succ]
      refine wpAnyH_take (i := 12) (v := ?va448_12) rfl (by kernel_rfl) (by kernel_rfl) (by kernel_rfl) (fun _ _ _ h => h) (Or.inl ⟨by rfl, fun w hSw => ?ti448_12⟩) (by assumption) ?rest448_12
      case ti448_12 => ((try dsimp only at hSw); go_simp; (first | done | with_reducible rfl))
      try simp only [Act.put, List.getElem_toArray, List.getElem_cons_zero, List.getElem_cons_succ, List.setIfInBounds_toArray, List.set_cons_zero, List.set_cons_succ]
      refine wpAnyH_take (i := 13) (v := ?va451_13) rfl (by kernel_rfl) (by kernel_rfl) (by kernel_rfl) (fun _ _ _ h => h) (Or.inl ⟨by rfl, fun w hSw => ?ti451_13⟩) (by assumption) ?rest451_13
      case ti451_13 => ((try dsimp only at hSw); go_simp; (first | done | with_reducible rfl))
      try simp only [Act.put, List.getElem_toArray, List.getElem_cons_zero, List.getElem_cons_succ, List.setIfInBounds_toArray, List.set_cons_zero, List.set_cons_succ]
      refine wpAnyH_take (i := 14) (v := ?va454_14) rfl (by kernel_rfl) (by kernel_rfl) (by kernel_rfl) (fun _ _ _ h => h) (Or.inl ⟨by rfl, fun w hSw => ?ti454_14⟩) (by assumption) ?rest454_14
      case ti454_14 => ((try dsimp only at hSw); go_simp; (first | done | with_reducible rfl))
      try simp only [Act.put, List.getElem_toArray, List.getElem_cons_zero, List.getElem_cons_succ, List.setIfInBounds_toArray, List.set_cons_zero, List.set_cons_succ]
      refine wpAnyH_take (i := 15) (v := ?va457_15) rfl (by kernel_rfl) (by kernel_rfl) (by kernel_rfl) (fun _ _ _ h => h) (Or.inl ⟨by rfl, fun w hSw => ?ti457_15⟩) (by assumption) ?rest457_15
      case ti457_15 => ((try dsimp only at hSw); go_simp; (first | done | with_reducible rfl))
      try simp only [Act.put, List.getElem_toArray, List.getElem_cons_zero, List.getElem_cons_succ, List.setIfInBounds_toArray, List.set_cons_zero, List.set_cons_succ]
      refine wpAnyH_take (i := 16) (v := ?va460_16) rfl (by kernel_rfl) (by kernel_rfl) (by kernel_rfl) (fun _ _ _ h => h) (Or.inl ⟨by rfl, fun w hSw => ?ti460_16⟩) (by assumption) ?rest460_16
      case ti460_16 => ((try dsimp only at hSw); go_simp; (first | done | with_reducible rfl))
      try simp only [Act.put, List.getElem_toArray, List.getElem_cons_zero, List.getElem_cons_succ, List.setIfInBounds_toArray, List.set_cons_zero, List.set_cons_succ]
      refine wpAnyH_take (i := 17) (v := ?va463_17) rfl (by kernel_rfl) (by kernel_rfl) (by kernel_rfl) (fun _ _ _ h => h) (Or.inl ⟨by rfl, fun w hSw => ?ti463_17⟩) (by assumption) ?rest463_17
      case ti463_17 => ((try dsimp only at hSw); go_simp; (first | done | with_reducible rfl))
      try simp only [Act.put, List.getElem_toArray, List.getElem_cons_zero, List.getElem_cons_succ, List.setIfInBounds_toArray, List.set_cons_zero, List.set_cons_succ]
      refine wpAnyH_take (i := 18) (v := ?va466_18) rfl (by kernel_rfl) (by kernel_rfl) (by kernel_rfl) (fun _ _ _ h => h) (Or.inl ⟨by rfl, fun w hSw => ?ti466_18⟩) (by assumption) ?rest466_18
      case ti466_18 => ((try dsimp only at hSw); go_simp; (first | done | with_reducible rfl))
      try simp only [Act.put, List.getElem_toArray, List.getElem_cons_zero, List.getElem_cons_succ, List.setIfInBounds_toArray, List.set_cons_zero, List.set_cons_succ]
      refine wpAnyH_take (i := 19) (v := ?va469_19) rfl (by kernel_rfl) (by kernel_rfl) (by kernel_rfl) (fun _ _ _ h => h) (Or.inl ⟨by rfl, fun w hSw => ?ti469_19⟩) (by assumption) ?rest469_19
      case ti469_19 => ((try dsimp only at hSw); go_simp; (first | done | with_reducible rfl))
      try simp only [Act.put, List.getElem_toArray, List.getElem_cons_zero, List.getElem_cons_succ, List.setIfInBounds_toArray, List.set_cons_zero, List.set_cons_succ]
      refine wpAnyH_take (i := 20) (v := ?va472_20) rfl (by kernel_rfl) (by kernel_rfl) (by kernel_rfl) (fun _ _ _ h => h) (Or.inl ⟨by rfl, fun w hSw => ?ti472_20⟩) (by assumption) ?rest472_20
      case ti472_20 => ((try dsimp only at hSw); go_simp; (first | done | with_reducible rfl))
      try simp only [Act.put, List.getElem_toArray, List.getElem_cons_zero, List.getElem_cons_succ, List.setIfInBounds_toArray, List.set_cons_zero, List.set_cons_succ]
      refine wpAnyH_ready (rs := [21]) (by kernel_rfl) (by simp) ?_
      refine AllReadyH.cons rfl (fun K hK => ?_) AllReadyH.nil
      go_simp
      refine hK.out _ _ ?_ (fun hHeld => ?_)
      · exact ⟨(cell_alloc q3_1 _), (cell_alloc q3_2 _), (cell_alloc q3_3 _), (cell_alloc q3_4 _), (cell_alloc q3_5 _), (cell_alloc q3_6 _), (cell_alloc q3_7 _), (cell_alloc q3_8 _)⟩
      clear hK K
      try simp only [Act.put, List.getElem_toArray, List.getElem_cons_zero, List.getElem_cons_succ, List.setIfInBounds_toArray, List.set_cons_zero, List.set_cons_succ]
      refine wpAnyH_ready (rs := [22]) (by kernel_rfl) (by simp) ?_
      refine AllReadyH.cons rfl (fun K hK => ?_) AllReadyH.nil
      go_simp
      refine hK.out _ _ ?_ (fun hHeld => ?_)
      · exact ⟨(cell_alloc (cell_alloc q3_1 _) _), (cell_alloc (cell_alloc q3_2 _) _), (cell_alloc (cell_alloc q3_3 _) _), (cell_alloc (cell_alloc q3_4 _) _), (cell_alloc (cell_alloc q3_5 _) _), (cell_alloc (cell_alloc q3_6 _) _), (cell_alloc (cell_alloc q3_7 _) _), (cell_alloc (cell_alloc q3_8 _) _)⟩
      clear hK K
      try simp only [Act.put, List.getElem_toArray, List.getElem_cons_zero, List.getElem_cons_succ, List.setIfInBounds_toArray, List.set_cons_zero, List.set_cons_succ]
      refine wpAnyH_take (i := 23) (v := ?va489_23) rfl (by kernel_rfl) (by kernel_rfl) (by kernel_rfl) (fun _ _ _ h => h) (Or.inl ⟨by rfl, fun w hSw => ?ti489_23⟩) (by assumption) ?rest489_23
      case ti489_23 => ((try dsimp only at hSw); go_simp; (first | done | with_reducible rfl))
      try simp only [Act.put, List.getElem_toArray, List.getElem_cons_zero, List.getElem_cons_succ, List.setIfInBounds_toArray, List.set_cons_zero, List.set_cons_succ]
      refine wpAnyH_ready (rs := [24]) (by kernel_rfl) (by simp) ?_
      refine AllReadyH.cons rfl (fun K hK => ?_) AllReadyH.nil
      go_simp
      refine (hdf_3 ?_ (R15.out.ext ?_)).mono ?_
      · (repeat (first | (with_reducible exact Ext.refl _) | (with_reducible apply Ext.drew) | (with_reducible apply Ext.drewN) | (with_reducible apply Ext.alloc)))
      · (refine Ext.trans Z3.out ?_; (repeat (first | (with_reducible exact Ext.refl _) | (with_reducible apply Ext.drew) | (with_reducible apply Ext.drewN) | (with_reducible apply Ext.alloc))))
      intro e y4 hh
      obtain ⟨rfl, x⟩ := hh
      have Z4 : Hid (Ext W5 y4) := Lib.hid (Ext.trans Z3.out (Ext.trans (by ((repeat (first | (with_reducible exact Ext.refl _) | (with_reducible apply Ext.drew) | (with_reducible apply Ext.drewN) | (with_reducible apply Ext.alloc))); done)) x))
      have q4_1 := Z4.out.cell q0_1
      have q4_2 := Z4.out.cell q0_2
      have q4_3 := Z4.out.cell q0_3
      have q4_4 := Z4.out.cell q0_4
      have q4_5 := Z4.out.cell q0_5
      have q4_6 := Z4.out.cell q0_6
      have q4_7 := Z4.out.cell q0_7
      have q4_8 := Z4.out.cell q0_8
      go_simp
      refine hK.out _ _ ?_ (fun hHeld => ?_)
      · exact ⟨q4_1, q4_2, q4_3, q4_4, q4_5, q4_6, q4_7, q4_8⟩
      clear hK K x
      try simp only [Act.put, List.getElem_toArray, List.getElem_cons_zero, List.getElem_cons_succ, List.setIfInBounds_toArray, List.set_cons_zero, List.set_cons_succ]
      refine wpAnyH_take (i := 25) (v := ?va514_25) rfl (by kernel_rfl) (by kernel_rfl) (by kernel_rfl) (fun _ _ _ h => h) (Or.inl ⟨by rfl, fun w hSw => ?ti514_25⟩) (by assumption) ?rest514_25
      case ti514_25 => ((try dsimp only at hSw); go_simp; (first | done | with_reducible rfl))
      try simp only [Act.put, List.getElem_toArray, List.getElem_cons_zero, List.getElem_cons_succ, List.setIfInBounds_toArray, List.set_cons_zero, List.set_cons_succ]
      refine wpAnyH_take (i := 26) (v := ?va517_26) rfl (by kernel_rfl) (by kernel_rfl) (by kernel_rfl) (fun _ _ _ h => h) (Or.inl ⟨by rfl, fun w hSw => ?ti517_26⟩) (by assumption) ?rest517_26
      case ti517_26 => ((try dsimp only at hSw); go_simp; (first | done | with_reducible rfl))
      try simp only [Act.put, List.getElem_toArray, List.getElem_cons_zero, List.getElem_cons_succ, List.setIfInBounds_toArray, List.set_cons_zero, List.set_cons_succ]
      refine wpAnyH_take (i := 27) (v := ?va520_27) rfl (by kernel_rfl) (by kernel_rfl) (by kernel_rfl) (fun _ _ _ h => h) (Or.inl ⟨by rfl, fun w hSw => ?ti520_27⟩) (by assumption) ?rest520_27
      case ti520_27 => ((try dsimp only at hSw); go_simp; (first | done | with_reducible rfl))
      try simp only [Act.put, List.getElem_toArray, List.getElem_cons_zero, List.getElem_cons_succ, List.setIfInBounds_toArray, List.set_cons_zero, List.set_cons_succ]
      refine wpAnyH_take (i := 28) (v := ?va523_28) rfl (by kernel_rfl) (by kernel_rfl) (by kernel_rfl) (fun _ _ _ h => h) (Or.inl ⟨by rfl, fun w hSw => ?ti523_28⟩) (by assumption) ?rest523_28
      case ti523_28 => ((try dsimp only at hSw); go_simp; (first | done | with_reducible rfl))
      try simp only [Act.put, List.getElem_toArray, List.getElem_cons_zero, List.getElem_cons_succ, List.setIfInBounds_toArray, List.set_cons_zero, List.set_cons_succ]
      refine wpAnyH_take (i := 29) (v := ?va526_29) rfl (by kernel_rfl) (by kernel_rfl) (by kernel_rfl) (fun _ _ _ h => h) (Or.inl ⟨by rfl, fun w hSw => ?ti526_29⟩) (by assumption) ?rest526_29
      case ti526_29 => ((try dsimp only at hSw); go_simp; (first | done | with_reducible rfl))
      try simp only [Act.put, List.getElem_toArray, List.getElem_cons_zero, List.getElem_cons_succ, List.setIfInBounds_toArray, List.set_cons_zero, List.set_cons_succ]
      refine wpAnyH_take (i := 30) (v := ?va529_30) rfl (by kernel_rfl) (by kernel_rfl) (by kernel_rfl) (fun _ _ _ h => h) (Or.inl ⟨by rfl, fun w hSw => ?ti529_30⟩) (by assumption) ?rest529_30
      case ti529_30 => ((try dsimp only at hSw); go_simp; (first | done | with_reducible rfl))
      try simp only [Act.put, List.getElem_toArray, List.getElem_cons_zero, List.getElem_cons_succ, List.setIfInBounds_toArray, List.set_cons_zero, List.set_cons_succ]
      refine wpAnyH_take (i := 31) (v := ?va532_31) rfl (by kernel_rfl) (by kernel_rfl) (by kernel_rfl) (fun _ _ _ h => h) (Or.inl ⟨by rfl, fun w hSw => ?ti532_31⟩) (by assumption) ?rest532_31
      case ti532_31 => ((try dsimp only at hSw); go_simp; (first | done | with_reducible rfl))
      try simp only [Act.put, List.getElem_toArray, List.getElem_cons_zero, List.getElem_cons_succ, List.setIfInBounds_toArray, List.set_cons_zero, List.set_cons_succ]
      refine wpAnyH_take (i := 32) (v := ?va535_32) rfl (by kernel_rfl) (by kernel_rfl) (by kernel_rfl) (fun _ _ _ h => h) (Or.inl ⟨by rfl, fun w hSw => ?ti535_32⟩) (by assumption) ?rest535_32
      case ti535_32 => ((try dsimp only at hSw); go_simp; (first | done | with_reducible rfl))
      try simp only [Act.put, List.getElem_toArray, List.getElem_cons_zero, List.getElem_cons_succ, List.setIfInBounds_toArray, List.set_cons_zero, List.set_cons_succ]
      refine wpAnyH_take (i := 33) (v := ?va538_33) rfl (by kernel_rfl) (by kernel_rfl) (by kernel_rfl) (fun _ _ _ h => h) (Or.inl ⟨by rfl, fun w hSw => ?ti538_33⟩) (by assumption) ?rest538_33
      case ti538_33 => ((try dsimp only at hSw); go_simp; (first | done | with_reducible rfl))
      try simp only [Act.put, List.getElem_toArray, List.getElem_cons_zero, List.getElem_cons_succ, List.setIfInBounds_toArray, List.set_cons_zero, List.set_cons_succ]
      refine wpAnyH_take (i := 34) (v := ?va541_34) rfl (by kernel_rfl) (by kernel_rfl) (by kernel_rfl) (fun _ _ _ h => h) (Or.inl ⟨by rfl, fun w hSw => ?ti541_34⟩) (by assumption) ?rest541_34
      case ti541_34 => ((try dsimp only at hSw); go_simp; (first | done | with_reducible rfl))
      try simp only [Act.put, List.getElem_toArray, List.getElem_cons_zero, List.getElem_cons_succ, List.setIfInBounds_toArray, List.set_cons_zero, List.set_cons_succ]
      refine wpAnyH_take (i := 35) (v := ?va544_35) rfl (by kernel_rfl) (by kernel_rfl) (by kernel_rfl) (fun _ _ _ h => h) (Or.inl ⟨by rfl, fun w hSw => ?ti544_35⟩) (by assumption) ?rest544_35
      case ti544_35 => ((try dsimp only at hSw); go_simp; (first | done | with_reducible rfl))
      try simp only [Act.put, List.getElem_toArray, List.getElem_cons_zero, List.getElem_cons_succ, List.setIfInBounds_toArray, List.set_cons_zero, List.set_cons_succ]
      refine wpAnyH_take (i := 36) (v := ?va547_36) rfl (by kernel_rfl) (by kernel_rfl) (by kernel_rfl) (fun _ _ _ h => h) (Or.inl ⟨by rfl, fun w hSw => ?ti547_36⟩) (by assumption) ?rest547_36
      case ti547_36 => ((try dsimp only at hSw); go_simp; (first | done | with_reducible rfl))
      try simp only [Act.put, List.getElem_toArray, List.getElem_cons_zero, List.getElem_cons_succ, List.setIfInBounds_toArray, List.set_cons_zero, List.set_cons_succ]
      refine wpAnyH_take (i := 37) (v := ?va550_37) rfl (by kernel_rfl) (by kernel_rfl) (by kernel_rfl) (fun _ _ _ h => h) (Or.inl ⟨by rfl, fun w hSw => ?ti550_37⟩) (by assumption) ?rest550_37
      case ti550_37 => ((try dsimp only at hSw); go_simp; (first | done | with_reducible rfl))
      try simp only [Act.put, List.getElem_toArray, List.getElem_cons_zero, List.getElem_cons_succ, List.setIfInBounds_toArray, List.set_cons_zero, List.set_cons_succ]
      refine wpAnyH_take (i := 38) (v := ?va553_38) rfl (by kernel_rfl) (by kernel_rfl) (by kernel_rfl) (fun _ _ _ h => h) (Or.inl ⟨by rfl, fun w hSw => ?ti553_38⟩) (by assumption) ?rest553_38
      case ti553_38 => ((try dsimp only at hSw); go_simp; (first | done | with_reducible rfl))
      try simp only [Act.put, List.getElem_toArray, List.getElem_cons_zero, List.getElem_cons_succ, List.setIfInBounds_toArray, List.set_cons_zero, List.set_cons_succ]
      refine wpAnyH_take (i := 39) (v := ?va556_39) rfl (by kernel_rfl) (by kernel_rfl) (by kernel_rfl) (fun _ _ _ h => h) (Or.inl ⟨by rfl, fun w hSw => ?ti556_39⟩) (by assumption) ?rest556_39
      case ti556_39 => ((try dsimp only at hSw); go_simp; (first | done | with_reducible rfl))
      try simp only [Act.put, List.getElem_toArray, List.getElem_cons_zero, List.getElem_cons_succ, List.setIfInBounds_toArray, List.set_cons_zero, List.set_cons_succ]
      refine wpAnyH_take (i := 40) (v := ?va559_40) rfl (by kernel_rfl) (by kernel_rfl) (by kernel_rfl) (fun _ _ _ h => h) (Or.inl ⟨by rfl, fun w hSw => ?ti559_40⟩) (by assumption) ?rest559_40
      case ti559_40 => ((try dsimp only at hSw); go_simp; (first | done | with_reducible rfl))
      try simp only [Act.put, List.getElem_toArray, List.getElem_cons_zero, List.getElem_cons_succ, List.setIfInBounds_toArray, List.set_cons_zero, List.set_cons_succ]
      refine wpAnyH_take (i := 41) (v := ?va562_41) rfl (by kernel_rfl) (by kernel_rfl) (by kernel_rfl) (fun _ _ _ h => h) (Or.inl ⟨by rfl, fun w hSw => ?ti562_41⟩) (by assumption) ?rest562_41
      case ti562_41 => ((try dsimp only at hSw); go_simp; (first | done | with_reducible rfl))
      try simp only [Act.put, List.getElem_toArray, List.getElem_cons_zero, List.getElem_cons_succ, List.setIfInBounds_toArray, List.set_cons_zero, List.set_cons_succ]
      refine wpAnyH_take (i := 42) (v := ?va565_42) rfl (by kernel_rfl) (by kernel_rfl) (by kernel_rfl) (fun _ _ _ h => h) (Or.inl ⟨by rfl, fun w hSw => ?ti565_42⟩) (by assumption) ?rest565_42
      case ti565_42 => ((try dsimp only at hSw); go_simp; (first | done | with_reducible rfl))
      try simp only [Act.put, List.getElem_toArray, List.getElem_cons_zero, List.getElem_cons_succ, List.setIfInBounds_toArray, List.set_cons_zero, List.set_cons_succ]
      refine wpAnyH_take (i := 43) (v := ?va568_43) rfl (by kernel_rfl) (by kernel_rfl) (by kernel_rfl) (fun _ _ _ h => h) (Or.inl ⟨by rfl, fun w hSw => ?ti568_43⟩) (by assumption) ?rest568_43
      case ti568_43 => ((try dsimp only at hSw); go_simp; (first | done | with_reducible rfl))
      try simp only [Act.put, List.getElem_toArray, List.getElem_cons_zero, List.getElem_cons_succ, List.setIfInBounds_toArray, List.set_cons_zero, List.set_cons_succ]
      refine wpAnyH_take (i := 44) (v := ?va571_44) rfl (by kernel_rfl) (by kernel_rfl) (by kernel_rfl) (fun _ _ _ h => h) (Or.inl ⟨by rfl, fun w hSw => ?ti571_44⟩) (by assumption) ?rest571_44
      case ti571_44 => ((try dsimp only at hSw); go_simp; (first | done | with_reducible rfl))
      try simp only [Act.put, List.getElem_toArray, List.getElem_cons_zero, List.getElem_cons_succ, List.setIfInBounds_toArray, List.set_cons_zero, List.set_cons_succ]
      refine wpAnyH_take (i := 45) (v := ?va574_45) rfl (by kernel_rfl) (by kernel_rfl) (by kernel_rfl) (fun _ _ _ h => h) (Or.inl ⟨by rfl, fun w hSw => ?ti574_45⟩) (by assumption) ?rest574_45
      case ti574_45 => ((try dsimp only at hSw); go_simp; (first | done | with_reducible rfl))
      try simp only [Act.put, List.getElem_toArray, List.getElem_cons_zero, List.getElem_cons_succ, List.setIfInBounds_toArray, List.set_cons_zero, List.set_cons_succ]
      refine wpAnyH_take (i := 46) (v := ?va577_46) rfl (by kernel_rfl) (by kernel_rfl) (by kernel_rfl) (fun _ _ _ h => h) (Or.inl ⟨by rfl, fun w hSw => ?ti577_46⟩) (by assumption) ?rest577_46
      case ti577_46 => ((try dsimp only at hSw); go_simp; (first | done | with_reducible rfl))
      try simp only [Act.put, List.getElem_toArray, List.getElem_cons_zero, List.getElem_cons_succ, List.setIfInBounds_toArray, List.set_cons_zero, List.set_cons_succ]
      refine wpAnyH_take (i := 47) (v := ?va580_47) rfl (by kernel_rfl) (by kernel_rfl) (by kernel_rfl) (fun _ _ _ h => h) (Or.inl ⟨by rfl, fun w hSw => ?ti580_47⟩) (by assumption) ?rest580_47
      case ti580_47 => ((try dsimp only at hSw); go_simp; (first | done | with_reducible rfl))
      try simp only [Act.put, List.getElem_toArray, List.getElem_cons_zero, List.getElem_cons_succ, List.setIfInBounds_toArray, List.set_cons_zero, List.set_cons_succ]
      refine wpAnyH_take (i := 48) (v := ?va583_48) rfl (by kernel_rfl) (by kernel_rfl) (by kernel_rfl) (fun _ _ _ h => h) (Or.inl ⟨by rfl, fun w hSw => ?ti583_48⟩) (by assumption) ?rest583_48
      case ti583_48 => ((try dsimp only at hSw); go_simp; (first | done | with_reducible rfl))
      try simp only [Act.put, List.getElem_toArray, List.getElem_cons_zero, List.getElem_cons_succ, List.setIfInBounds_toArray, List.set_cons_zero, List.set_cons_succ]
      refine wpAnyH_take (i := 49) (v := ?va586_49) rfl (by kernel_rfl) (by kernel_rfl) (by kernel_rfl) (fun _ _ _ h => h) (Or.inl ⟨by rfl, fun w hSw => ?ti586_49⟩) (by assumption) ?rest586_49
      case ti586_49 => ((try dsimp only at hSw); go_simp; (first | done | with_reducible rfl))
      try simp only [Act.put, List.getElem_toArray, List.getElem_cons_zero, List.getElem_cons_succ, List.setIfInBounds_toArray, List.set_cons_zero, List.set_cons_succ]
      refine wpAnyH_take (i := 50) (v := ?va589_50) rfl (by kernel_rfl) (by kernel_rfl) (by kernel_rfl) (fun _ _ _ h => h) (Or.inl ⟨by rfl, fun w hSw => ?ti589_50⟩) (by assumption) ?rest589_50
      case ti589_50 => ((try dsimp only at hSw); go_simp; (first | done | with_reducible rfl))
      try simp only [Act.put, List.getElem_toArray, List.getElem_cons_zero, List.getElem_cons_succ, List.setIfInBounds_toArray, List.set_cons_zero, List.set_cons_succ]
      refine wpAnyH_take (i := 51) (v := ?va592_51) rfl (by kernel_rfl) (by kernel_rfl) (by kernel_rfl) (fun _ _ _ h => h) (Or.inl ⟨by rfl, fun w hSw => ?ti592_51⟩) (by assumption) ?rest592_51
      case ti592_51 => ((try dsimp only at hSw); go_simp; (first | done | with_reducible rfl))
      try simp only [Act.put, List.getElem_toArray, List.getElem_cons_zero, List.getElem_cons_succ, List.setIfInBounds_toArray, List.set_cons_zero, List.set_cons_succ]
      refine wpAnyH_take (i := 52) (v := ?va595_52) rfl (by kernel_rfl) (by kernel_rfl) (by kernel_rfl) (fun _ _ _ h => h) (Or.inl ⟨by rfl, fun w hSw => ?ti595_52⟩) (by assumption) ?rest595_52
      case ti595_52 => ((try dsimp only at hSw); go_simp; (first | done | with_reducible rfl))
      try simp only [Act.put, List.getElem_toArray, List.getElem_cons_zero, List.getElem_cons_succ, List.setIfInBounds_toArray, List.set_cons_zero, List.set_cons_succ]
      refine wpAnyH_take (i := 53) (v := ?va598_53) rfl (by kernel_rfl) (by kernel_rfl) (by kernel_rfl) (fun _ _ _ h => h) (Or.inl ⟨by rfl, fun w hSw => ?ti598_53⟩) (by assumption) ?rest598_53
      case ti598_53 => ((try dsimp only at hSw); go_simp; (first | done | with_reducible rfl))
      try simp only [Act.put, List.getElem_toArray, List.getElem_cons_zero, List.getElem_cons_succ, List.setIfInBounds_toArray, List.set_cons_zero, List.set_cons_succ]
      refine wpAnyH_take (i := 54) (v := ?va601_54) rfl (by kernel_rfl) (by kernel_rfl) (by kernel_rfl) (fun _ _ _ h => h) (Or.inl ⟨by rfl, fun w hSw => ?ti601_54⟩) (by assumption) ?rest601_54
      case ti601_54 => ((try dsimp only at hSw); go_simp; (first | done | with_reducible rfl))
      try simp only [Act.put, List.getElem_toArray, List.getElem_cons_zero, List.getElem_cons_succ, List.setIfInBounds_toArray, List.set_cons_zero, List.set_cons_succ]
      refine wpAnyH_take (i := 55) (v := ?va604_55) rfl (by kernel_rfl) (by kernel_rfl) (by kernel_rfl) (fun _ _ _ h => h) (Or.inl ⟨by rfl, fun w hSw => ?ti604_55⟩) (by assumption) ?rest604_55
      case ti604_55 => ((try dsimp only at hSw); go_simp; (first | done | with_reducible rfl))
      try simp only [Act.put, List.getElem_toArray, List.getElem_cons_zero, List.getElem_cons_succ, List.setIfInBounds_toArray, List.set_cons_zero, List.set_cons_succ]
      refine wpAnyH_take (i := 56) (v := ?va607_56) rfl (by kernel_rfl) (by kernel_rfl) (by kernel_rfl) (fun _ _ _ h => h) (Or.inl ⟨by rfl, fun w hSw => ?ti607_56⟩) (by assumption) ?rest607_56
      case ti607_56 => ((try dsimp only at hSw); go_simp; (first | done | with_reducible rfl))
      try simp only [Act.put, List.getElem_toArray, List.getElem_cons_zero, List.getElem_cons_succ, List.setIfInBounds_toArray, List.set_cons_zero, List.set_cons_succ]
      refine wpAnyH_take (i := 57) (v := ?va610_57) rfl (by kernel_rfl) (by kernel_rfl) (by kernel_rfl) (fun _ _ _ h => h) (Or.inl ⟨by rfl, fun w hSw => ?ti610_57⟩) (by assumption) ?rest610_57
      case ti610_57 => ((try dsimp only at hSw); go_simp; (first | done | with_reducible rfl))
      try simp only [Act.put, List.getElem_toArray, List.getElem_cons_zero, List.getElem_cons_succ, List.setIfInBounds_toArray, List.set_cons_zero, List.set_cons_succ]
      refine wpAnyH_take (i := 58) (v := ?va613_58) rfl (by kernel_rfl) (by kernel_rfl) (by kernel_rfl) (fun _ _ _ h => h) (Or.inl ⟨by rfl, fun w hSw => ?ti613_58⟩) (by assumption) ?rest613_58
      case ti613_58 => ((try dsimp only at hSw); go_simp; (first | done | with_reducible rfl))
      try simp only [Act.put, List.getElem_toArray, List.getElem_cons_zero, List.getElem_cons_succ, List.setIfInBounds_toArray, List.set_cons_zero, List.set_cons_succ]
      refine wpAnyH_done (by kernel_rfl) ?_ _
      all_goals
        have XZ := Lib.hid (XF.out.trans Z4.out)
        go_wp2
        go_ret
        exact ⟨rfl, XZ.out⟩
end Go.Proofs.YthllbcjglcplhaaDoor
