/- Texts of this claim in one file: libraries and walks. -/
import Derived.Test.YtigffblelngpjaaDoorL3
import Derived.Test.YtigffblelngpjaaDoorL4
/- The law WordsFollow: its walk. -/
namespace Go.Proofs.YtigffblelngpjaaDoor
set_option linter.unusedVariables false
set_option linter.unusedSimpArgs false
open Go Go.RowKit

/-! ### where a strand goes -/
theorem invTo_gi {n : Nat} {a : List Int} (hl : a.length = n) (hi : Inj a) (hb : ∀ i, i < n → 0 ≤ gi a i ∧ gi a i < n) : ∀ k, k ≤ n → ∀ i, i < k → gi (invTo n a k) (gi a i).toNat = (i : Int) + 1 := by
  intro k
  induction k with
  | zero => intro _ i h; omega
  | succ k ih =>
    intro hk i hik
    have h1 := hb i (by omega)
    have h2 := hb k (by omega)
    rw [invTo_succ]; unfold invStep
    rw [wgi_set _ _ _ _ (by rw [invTo_len]; omega)]
    by_cases e : i = k
    · subst e; rw [if_pos rfl]
    · have hne : (gi a i).toNat ≠ (gi a k).toNat := fun h => e (hi i k (by omega) (by omega) (by omega))
      rw [if_neg hne]
      exact ih (by omega) i (by omega)

theorem e64 : (#[Value.int .i64 0, Value.int .i64 0, Value.int .i64 0, Value.int .i64 0, Value.int .i64 0, Value.int .i64 0, Value.int .i64 0, Value.int .i64 0, Value.int .i64 0, Value.int .i64 0, Value.int .i64 0, Value.int .i64 0, Value.int .i64 0, Value.int .i64 0, Value.int .i64 0, Value.int .i64 0, Value.int .i64 0, Value.int .i64 0, Value.int .i64 0, Value.int .i64 0, Value.int .i64 0, Value.int .i64 0, Value.int .i64 0, Value.int .i64 0, Value.int .i64 0, Value.int .i64 0, Value.int .i64 0, Value.int .i64 0, Value.int .i64 0, Value.int .i64 0, Value.int .i64 0, Value.int .i64 0, Value.int .i64 0, Value.int .i64 0, Value.int .i64 0, Value.int .i64 0, Value.int .i64 0, Value.int .i64 0, Value.int .i64 0, Value.int .i64 0, Value.int .i64 0, Value.int .i64 0, Value.int .i64 0, Value.int .i64 0, Value.int .i64 0, Value.int .i64 0, Value.int .i64 0, Value.int .i64 0, Value.int .i64 0, Value.int .i64 0, Value.int .i64 0, Value.int .i64 0, Value.int .i64 0, Value.int .i64 0, Value.int .i64 0, Value.int .i64 0, Value.int .i64 0, Value.int .i64 0, Value.int .i64 0, Value.int .i64 0, Value.int .i64 0, Value.int .i64 0, Value.int .i64 0, Value.int .i64 0] : Array Value) = madeCells #[Value.int .i64 0] 64 := by kernel_rfl

end Go.Proofs.YtigffblelngpjaaDoor
/- Act where an image grows too great. -/
namespace Go.Proofs.YtigffblelngpjaaDoor
set_option linter.unusedVariables false
set_option linter.unusedSimpArgs false
open Go Go.RowKit

set_option maxHeartbeats 1000000 in
theorem Act_over (n : Nat) (v : Value) (c : Nat) (xs : List Int) (w : World) (h : IS .i64 w v c xs) (hw : wcheck n xs = 0) (T : Nat) (hT : T < xs.length)
    (hfit : ∀ k, k < T → letterLen (actRows n (xs.take k)) (gi xs k) ≤ 262144) (hov : 262144 < letterLen (actRows n (xs.take T)) (gi xs T)) :
    Calls Tryd.prog 15 #[.int .i64 n, v] w fun e w' => e = .returned (.tuple #[.slice none 0 0, .int .i64 3]) ∧ Ext w w' := by
  have hcall := Check_calls n v c xs w h
  have hz := wcheck_zero hw
  rw [hw] at hcall
  have Hcall := Lib.hid hcall; clear hcall
  obtain ⟨z1, z2, z3, z4⟩ := hz
  have hokr := fun k (hk : k ≤ T) => act_okr z4 (by omega) (by omega) k (by omega) (fun j hj => hfit j (by omega))
  have hIS := fun w' e => IS.ext (w' := w') h e
  obtain ⟨R, hR⟩ : ∃ R : Nat → List (List Int), R = fun k => actRows n (xs.take k) := ⟨_, rfl⟩
  have hR0 : R 0 = start n := by rw [hR]; simp [actRows]
  have hRs : ∀ k, k < xs.length → R (k + 1) = letterRows (R k) (gi xs k) := by rw [hR]; intro k hk; simp only []; rw [take_succ_gi hk, actRows_snoc]
  have hRN : R xs.length = actRows n xs := by rw [hR]; simp
  have hRl : ∀ k, (R k).length = n := by rw [hR]; intro k; exact actRows_len _ _
  have hokr' : ∀ k, k ≤ T → ∀ i, i < n → Okr 262144 (ri (R k) i) := by rw [hR]; exact hokr
  have hfit' : ∀ k, k < T → letterLen (R k) (gi xs k) ≤ 262144 := by rw [hR]; exact hfit
  have hov' : 262144 < letterLen (R T) (gi xs T) := by rw [hR]; exact hov
  obtain ⟨h1, h2, ao, rfl, hao⟩ := h.open
  obtain ⟨N, hN⟩ : ∃ N, N = xs.length := ⟨_, rfl⟩
  rw [← hN] at hao h1 z3 z4 hRs hRN Hcall hT ⊢
  clear h hN hokr hfit hov hw hR hIS
  have Hz4 := Lib.hid z4; have HR0 := Lib.hid hR0; have HRs := Lib.hid hRs; have HRN := Lib.hid hRN; have HRl := Lib.hid hRl; have Hok := Lib.hid hokr'; have Hfit := Lib.hid hfit'; have Hov := Lib.hid hov'
  clear z4 hR0 hRs hRN hRl hokr' hfit' hov'
  unfold maxLen at h2
  have hmk1 := run_make_row' (P := Tryd.prog) 40 34 (.slice none 0 0) 24 Tryd.underlying40 (by kernel_rfl) rfl .i64 .i64 n (by omega) (by omega)
  go_enter Tryd.func15, Tryd.ntmps15
  go_wp2_with fail
  refine Hcall.out.mono ?_
  rintro e w1 ⟨rfl, rfl⟩
  go_wp2
  go_loopw [8, 24] (fun _ i wr => ∃ k : Nat, k ≤ n ∧ i = .int .i64 k ∧ Half1 w wr n k) (fun _ i _ => n - (intOf i).toNat)
  case atStart =>
    refine ⟨0, Nat.zero_le _, rfl, ((Below.refl _ _).alloc (Nat.le_refl _) _).alloc (by simp) _, by simp, ?_, ⟨_, (World.rowIs_made _ _ _ _).alloc _, fun i hi => by omega⟩, fun i hi => by omega⟩
    have := Deep.blk_alloc_new (w.alloc (Obj.cells (madeCells #[Value.slice none 0 0] n) 34)) (Obj.cells #[Value.slice (some { block := w.heap.size, off := 0 }) n n] 40)
    simpa using this
  case round =>
    obtain ⟨k, hk, rfl, hh⟩ := hrel
    by_cases hlt : k < n
    · have hc0 := cell_of_one hh.var
      obtain ⟨f, hrow, _⟩ := hh.outer
      have hc1 := hrow.cell (i := k) hlt
      have hf1 := hrow.frozen k
      have hc0' : ∀ o, (wr.alloc o).cell? ⟨w.heap.size + 1, 0, none⟩ = some (.slice (some ⟨w.heap.size, 0, none⟩) n n) := cell_alloc hc0
      have hc1' : ∀ o, (wr.alloc o).cell? ⟨w.heap.size, k, none⟩ = some (f k) := cell_alloc hc1
      have hf1' : ∀ o, (wr.alloc o).frozen? ⟨w.heap.size, k, none⟩ = false := fun o => (hrow.alloc o).frozen k
      have Hh := Lib.hid hh
      clear hh hrow
      go_wp2
      go_roundw
      case rel => exact ⟨k + 1, by omega, by go_num, Hh.out.next hlt⟩
      case measure => simp [intOf]; omega
    · have hkn : k = n := by omega
      rw [hkn] at hh
      have Hh := Lib.hid hh
      clear hh hkn
      obtain ⟨wo, rfl⟩ : ∃ wo : World, wo = wr := ⟨_, rfl⟩
      have Him := Lib.hid (show ∃ vs, Img wo w.heap.size n vs (R 0) from ⟨_, by rw [HR0.out]; exact Hh.out.img⟩)
      go_wp2
      go_loopw [11, 37] (fun _ i wr => ∃ k : Nat, k ≤ T ∧ i = .int .i64 k ∧ Below w.heap.size w wr ∧ Hid (∃ vs, Img wr w.heap.size n vs (R k))) (fun _ i _ => N - (intOf i).toNat)
      case atStart => exact ⟨0, Nat.zero_le _, rfl, Hh.out.ext, Him⟩
      case round =>
        obtain ⟨k, hk, rfl, hbel, Himg⟩ := hrel
        have hlt : k < N := by omega
        obtain ⟨b, o, rfl, hc⟩ : ∃ b o, ao = some ⟨b, o, none⟩ ∧ ∀ i, i < N → w.cell? ⟨b, o + i, none⟩ = some (.int .i64 (gi xs i)) := by
          rcases hao with ⟨_, h0, _⟩ | h
          · omega
          · exact h
        have hck : wr.cell? ⟨b, o + k, none⟩ = some (.int .i64 (gi xs k)) := Ext.cell hbel (hc k hlt)
        clear hc hao
        have HC := Lib.hid (show ∃ vs, Img wr w.heap.size n vs (R k) from Himg.out)
        obtain ⟨m, hm⟩ : ∃ m, m = letterLen (R k) (gi xs k) := ⟨_, rfl⟩
        have hcall : Calls Tryd.prog 40 #[.int .i64 (gi xs k), .pointer (some ⟨w.heap.size + 1, 0, none⟩)] wr (RetA w.heap.size n wr (R (k + 1)) m) := by
          obtain ⟨vs, hi⟩ := HC.out
          rw [HRs.out k hlt, hm]
          exact Act1_calls (gi xs k) w.heap.size n vs (R k) wr hi (Hz4.out k hlt) (by omega) (by omega) (Hok.out k (by omega))
        have Hcl := Lib.hid hcall
        by_cases hkT : k < T
        · have hf := Hfit.out k hkT
          rw [← hm] at hf
          clear hcall hm
          go_wp2_with fail
          refine Hcl.out.mono ?_
          rintro e w2 ⟨rfl, him, hb2⟩
          have Him2 := Lib.hid him
          clear him
          go_wp2
          go_roundw
          case rel => exact ⟨k + 1, by omega, by go_num, hbel.trans hb2, Him2⟩
          case measure => simp [intOf]; omega
        · obtain rfl : k = T := by omega
          have hf := Hov.out
          rw [← hm] at hf
          clear hcall hm
          go_wp2_with fail
          refine Hcl.out.mono ?_
          rintro e w2 ⟨rfl, him, hb2⟩
          clear him
          go_wp2
          go_ret2
          exact ⟨rfl, hbel.trans hb2⟩
end Go.Proofs.YtigffblelngpjaaDoor
