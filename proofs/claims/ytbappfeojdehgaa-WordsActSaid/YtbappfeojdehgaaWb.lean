/- Contracts of each (with the closures of Mirror and Flip), Clip, Inverse, Mirror, Flip. -/
import Derived.Test.YtbappfeojdehgaaWa
namespace Go.Proofs.Ytbappfeojdehgaa
set_option linter.unusedVariables false
set_option linter.unusedSimpArgs false
set_option maxRecDepth 8000
open Go Go.RowKit

theorem each_Mirror_calls  (v : Value) (c : Nat) (xs : List Int) (w : World) (h : IS .i64 w v c xs) (hl : xs.length ≤ 1000000) (hb : ∀ i, i < xs.length → -100 ≤ gi xs i ∧ gi xs i ≤ 100)  :
    Calls Try.prog 28 #[v, .func (Fn.func 29) #[] #[]] w (RetI .i64 w xs.length (xs.map (fun k => -k))) := by
  obtain ⟨h1, h2, ao, rfl, hao⟩ := h.open
  have hres : ∀ (w' : World) f, (∀ i, i < xs.length → f i = Value.int .i64 ((fun k => -k) (gi xs i))) → w'.rowIs w.heap.size 3 xs.length f → IS .i64 w' (.slice (some ⟨w.heap.size, 0, none⟩) xs.length xs.length) xs.length (xs.map (fun k => -k)) := by
    intro w' f hf hr
    refine IS.of_row hr (by simp) (by unfold maxLen; omega) fun i hi => ?_
    rw [gi_map _ hi]; exact hf i hi
  obtain ⟨N, hN⟩ : ∃ N, N = xs.length := ⟨_, rfl⟩
  rw [← hN] at hao h1 hl hres hb ⊢
  clear h hN
  have Hres := Lib.hid hres; clear hres
  have Hb := Lib.hid hb; clear hb
  have hmk := run_make_row' (P := Try.prog) 25 3 (.int .i64 0) 8 Try.underlying25 (by kernel_rfl) rfl .i64 .i64 N (by omega) (by omega)
  go_enter Try.func28, Try.ntmps28
  go_wp2
  go_loopw [6, 7, 13] (fun _ _ i wr => ∃ k : Nat, k ≤ N ∧ i = .int .i64 k ∧ Ext w wr ∧ ∃ f, wr.rowIs w.heap.size 3 N f ∧ ∀ i, i < k → f i = Value.int .i64 ((fun k => -k) (gi xs i))) (fun _ _ i _ => N - (intOf i).toNat)
  case atStart => exact ⟨0, Nat.zero_le _, rfl, (Ext.refl w).alloc _, _, World.rowIs_made _ _ _ _, fun i h1 => by omega⟩
  case round =>
    obtain ⟨k, hk, rfl, hext, f, hrow, hf⟩ := hrel
    have Hf := Lib.hid hf; clear hf
    by_cases hlt : k < N
    · obtain ⟨b, o, rfl, hc⟩ : ∃ b o, ao = some ⟨b, o, none⟩ ∧ ∀ i, i < N → w.cell? ⟨b, o + i, none⟩ = some (.int .i64 (gi xs i)) := by
        rcases hao with ⟨_, h0, _⟩ | h
        · omega
        · exact h
      have hck : wr.cell? ⟨b, o + k, none⟩ = some (.int .i64 (gi xs k)) := hext.cell (hc k hlt)
      have hst := hrow.cell (i := k) (by omega)
      have hfz := hrow.frozen k
      have Hbk := Lib.hid (Hb.out k hlt)
      skip
      clear hc hao
      go_wp2_with fail
      refine (Mirror1_calls _ _ Hbk.out).mono ?_
      rintro e w1 ⟨rfl, rfl⟩
      go_wp2
      go_roundw
      case rel => exact ⟨k + 1, by omega, by go_num, (hext).setCell (Nat.le_refl _) _, _, (show (World.rowIs (wr) _ _ _ _) from hrow).set _ _, fun i h1 => by
        by_cases e : i = k
        · rw [if_pos e, e]
        · rw [if_neg e]; exact Hf.out i (by omega)⟩
      case measure => simp [intOf]; omega
    · go_wp2
      go_ret
      exact ⟨_, rfl, Hres.out wr f (fun i hi => Hf.out i (by omega)) hrow, hext, NN.mk⟩

theorem each_Flip_calls (n : Int) (B : Nat) (v : Value) (c : Nat) (xs : List Int) (w : World) (h : IS .i64 w v c xs) (hl : xs.length ≤ 1000000) (hb : ∀ i, i < xs.length → -100 ≤ gi xs i ∧ gi xs i ≤ 100) (hn : 1 ≤ n ∧ n ≤ 8) (hB : w.cell? ⟨B, 0, none⟩ = some (.int .i64 n)) :
    Calls Try.prog 28 #[v, .func (Fn.func 30) #[] #[.pointer (some ⟨B, 0, none⟩)]] w (RetI .i64 w xs.length (xs.map (flipk n))) := by
  obtain ⟨h1, h2, ao, rfl, hao⟩ := h.open
  have hres : ∀ (w' : World) f, (∀ i, i < xs.length → f i = Value.int .i64 ((flipk n) (gi xs i))) → w'.rowIs w.heap.size 3 xs.length f → IS .i64 w' (.slice (some ⟨w.heap.size, 0, none⟩) xs.length xs.length) xs.length (xs.map (flipk n)) := by
    intro w' f hf hr
    refine IS.of_row hr (by simp) (by unfold maxLen; omega) fun i hi => ?_
    rw [gi_map _ hi]; exact hf i hi
  obtain ⟨N, hN⟩ : ∃ N, N = xs.length := ⟨_, rfl⟩
  rw [← hN] at hao h1 hl hres hb ⊢
  clear h hN
  have Hres := Lib.hid hres; clear hres
  have Hb := Lib.hid hb; clear hb
  have hmk := run_make_row' (P := Try.prog) 25 3 (.int .i64 0) 8 Try.underlying25 (by kernel_rfl) rfl .i64 .i64 N (by omega) (by omega)
  go_enter Try.func28, Try.ntmps28
  go_wp2
  go_loopw [6, 7, 13] (fun _ _ i wr => ∃ k : Nat, k ≤ N ∧ i = .int .i64 k ∧ Ext w wr ∧ ∃ f, wr.rowIs w.heap.size 3 N f ∧ ∀ i, i < k → f i = Value.int .i64 ((flipk n) (gi xs i))) (fun _ _ i _ => N - (intOf i).toNat)
  case atStart => exact ⟨0, Nat.zero_le _, rfl, (Ext.refl w).alloc _, _, World.rowIs_made _ _ _ _, fun i h1 => by omega⟩
  case round =>
    obtain ⟨k, hk, rfl, hext, f, hrow, hf⟩ := hrel
    have Hf := Lib.hid hf; clear hf
    by_cases hlt : k < N
    · obtain ⟨b, o, rfl, hc⟩ : ∃ b o, ao = some ⟨b, o, none⟩ ∧ ∀ i, i < N → w.cell? ⟨b, o + i, none⟩ = some (.int .i64 (gi xs i)) := by
        rcases hao with ⟨_, h0, _⟩ | h
        · omega
        · exact h
      have hck : wr.cell? ⟨b, o + k, none⟩ = some (.int .i64 (gi xs k)) := hext.cell (hc k hlt)
      have hst := hrow.cell (i := k) (by omega)
      have hfz := hrow.frozen k
      have Hbk := Lib.hid (Hb.out k hlt)
      have hBr : wr.cell? ⟨B, 0, none⟩ = some (.int .i64 n) := hext.cell hB
      clear hc hao
      go_wp2_with fail
      refine (Flip1_calls _ n B _ Hbk.out hn hBr).mono ?_
      rintro e w1 ⟨rfl, m, rfl⟩
      go_wp2
      go_roundw
      case rel => exact ⟨k + 1, by omega, by go_num, (hext.drewN m).setCell (Nat.le_refl _) _, _, (show (World.rowIs (wr.drewN m) _ _ _ _) from hrow).set _ _, fun i h1 => by
        by_cases e : i = k
        · rw [if_pos e, e]
        · rw [if_neg e]; exact Hf.out i (by omega)⟩
      case measure => simp [intOf]; omega
    · go_wp2
      go_ret
      exact ⟨_, rfl, Hres.out wr f (fun i hi => Hf.out i (by omega)) hrow, hext, NN.mk⟩

theorem Clip_calls (v : Value) (c : Nat) (xs : List Int) (w : World) (h : IS .i64 w v c xs) :
    Calls Try.prog 26 #[v] w fun e w' => ∃ v', e = .returned v' ∧ IS .i64 w v' xs.length xs ∧ w = w' := by
  obtain ⟨h1, h2, ao, rfl, hao⟩ := h.open
  have hres : IS .i64 w (.slice ao xs.length xs.length) xs.length xs := by
    rcases hao with ⟨_, h0, rfl⟩ | ⟨b, o, rfl, hc⟩
    · rw [h0] at h ⊢; exact h
    · exact IS.mk rfl (Nat.le_refl _) (by omega) hc
  obtain ⟨N, hN⟩ : ∃ N, N = xs.length := ⟨_, rfl⟩
  rw [← hN] at hao h1 hres ⊢
  clear h hN
  unfold maxLen at h2
  rcases hao with ⟨_, rfl, rfl⟩ | ⟨b, o, rfl, hc⟩
  · go_enter Try.func26, Try.ntmps26
    go_wp2
    go_ret
    exact ⟨_, rfl, hres, rfl⟩
  · clear hc
    go_enter Try.func26, Try.ntmps26
    go_wp2
    go_ret
    exact ⟨_, rfl, hres, rfl⟩
end Go.Proofs.Ytbappfeojdehgaa
