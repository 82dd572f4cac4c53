/- loops.need. -/
import Derived.Test.YtlhkehfplcclgaaDoorVp
namespace Go.Proofs.YtlhkehfplcclgaaDoor
set_option linter.unusedVariables false
set_option linter.unusedSimpArgs false
set_option maxRecDepth 8000
open Go Go.RowKit

/-- What a loop needs. -/
def needL (l : Lp) : List Nm := l.thr ++ l.past.map Ps.id
theorem needL_len (l : Lp) : (needL l).length = l.thr.length + l.past.length := by unfold needL; simp
theorem needL_1 {l : Lp} {i : Nat} (h : i < l.thr.length) : ni (needL l) i = ni l.thr i := by
  unfold needL ni; simp [List.getD, List.getElem?_append_left h]
theorem needL_2 {l : Lp} {i : Nat} (h : i < l.past.length) : ni (needL l) (l.thr.length + i) = (qi l.past i).id := by
  rw [ni_of (by rw [needL_len]; omega), qi_of h]
  unfold needL
  rw [List.getElem_append_right (by omega)]; simp
set_option maxHeartbeats 8000000 in
theorem Need_calls (u v : Value) (d1 d2 : Nat) (l : Lp) (i : Nat) (w : World) (hu : NL w u d1 l.thr) (hv : PL w v d2 l.past) (hi : i < (needL l).length) (h9 : (needL l).length ≤ 10000) :
    Calls Tryd.prog 83 #[.agg #[.int .u8 l.bed, .bool l.new, u, v], .int .i64 (i : Int)] w fun e w' => e = .returned (ni (needL l) i).val ∧ Ext w w' := by
  rw [needL_len] at hi h9
  obtain ⟨ua, un, rfl, hun, hud, hu9, huat⟩ := hu.open
  obtain ⟨va, vn, rfl, hvn, hvd, hv9, hvat⟩ := hv.open
  obtain ⟨a, ha⟩ : ∃ a, a = ni (needL l) i := ⟨_, rfl⟩
  have X := Lib.hid (show Ext w ((w.alloc (.cells #[.int .u8 l.bed, .bool l.new, .slice ua un d1, .slice va vn d2] 46)).alloc (.cells #[.int .u8 0, .int .i64 0] 41)) from ((Ext.refl _).alloc _).alloc _)
  rw [← ha]
  have Hi := Lib.hid hi
  have un9 : un ≤ 10000 := by omega
  have e0 : (0 : Int) ≤ i := by omega
  by_cases h1 : i < un
  · obtain ⟨b, o, rfl, hA⟩ := huat i h1
    rw [← needL_1 (by omega), ← ha] at hA
    have e1 : (i : Int) < un := by omega
    obtain ⟨x0, x1⟩ := hA.ext X.out
    have l1 : w.heap.size < w.heap.size + 1 + 1 := by omega
    clear huat hvat ha hu hv hi h9 hun hvn hA
    go_enter Tryd.func83, Tryd.ntmps83
    go_wp2
    exact bodyPost_ret (v := .agg #[.int .u8 a.y, .int .i64 a.n]) (by simp [results, Tryd.results83, go_sem]) rfl ⟨rfl, ((Ext.refl _).alloc _).alloc _⟩
  · obtain ⟨j, hj⟩ : ∃ j, j = i - un := ⟨_, rfl⟩
    have hjv : j < vn := by omega
    obtain ⟨b, o, rfl, hA⟩ := hvat j hjv
    have hq : (qi l.past j).id = a := by
      rw [ha, show i = l.thr.length + j by omega]; exact (needL_2 (by omega)).symm
    have e1 : ¬ (i : Int) < un := by omega
    have g1 : IntKind.i64.wrap ((i : Int) - un) = (i : Int) - un := IntWalk.i64_in _ ⟨by omega, by omega⟩
    have g2 : ((i : Int) - un).toNat = j := by omega
    have g3 : (0 : Int) ≤ (i : Int) - un := by omega
    have g4 : (i : Int) - un < vn := by omega
    have g5 : (un : Int) ≤ i := by omega
    obtain ⟨x0, x1, _, _⟩ := hA.ext X.out
    rw [hq] at x0 x1
    clear huat hvat ha hu hv hi h9 hun hvn hA hj hq
    go_enter Tryd.func83, Tryd.ntmps83
    go_wp2
    exact bodyPost_ret (v := .agg #[.int .u8 a.y, .int .i64 a.n]) (by simp [results, Tryd.results83, go_sem]) rfl ⟨rfl, ((Ext.refl _).alloc _).alloc _⟩
end Go.Proofs.YtlhkehfplcclgaaDoor
