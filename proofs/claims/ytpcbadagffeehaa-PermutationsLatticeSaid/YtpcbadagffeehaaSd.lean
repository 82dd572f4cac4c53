/- Contract of the law's own function checked. -/
import Derived.Test.YtpcbadagffeehaaSc
namespace Go.Proofs.Ytpcbadagffeehaa
set_option linter.unusedVariables false
set_option linter.unusedSimpArgs false
open Go Go.RowKit

/-- How often a number stands ahead of place k. -/
def cnv (xs : List Int) (k : Nat) (v : Nat) : Int := cnt k fun j => decide (gi xs (j - 1) = (v : Int))
theorem cnv_succ (xs : List Int) (k v : Nat) : cnv xs (k + 1) v = cnv xs k v + tf (decide (gi xs k = (v : Int))) := by
  unfold cnv; simp only [cnt, sm, Nat.add_sub_cancel]
theorem cnv_bd (xs : List Int) (k v : Nat) : 0 ≤ cnv xs k v ∧ cnv xs k v ≤ k := ⟨cnt_nonneg _ _, cnt_le _ _⟩
theorem one_pok {xs : List Int} (h : ∀ v, 1 ≤ v → v ≤ xs.length → cnv xs xs.length v = 1) : pok xs := by
  have hsum : (sm xs.length fun j => sm xs.length fun v => tf (decide (gi xs (j - 1) = (v : Int)))) = (xs.length : Int) := by
    rw [sm_comm]
    have : (sm xs.length fun v => sm xs.length fun j => tf (decide (gi xs (j - 1) = (v : Int)))) = sm xs.length fun _ => 1 := sm_congr fun v v1 v2 => h v v1 v2
    rw [this, sm_one]
  have hin : ∀ j, 1 ≤ j → j ≤ xs.length → 1 ≤ gi xs (j - 1) ∧ gi xs (j - 1) ≤ (xs.length : Int) := fun j j1 j2 => by
    by_cases hb : 1 ≤ gi xs (j - 1) ∧ gi xs (j - 1) ≤ (xs.length : Int)
    · exact hb
    · exfalso
      have hlt : (sm xs.length fun j => sm xs.length fun v => tf (decide (gi xs (j - 1) = (v : Int)))) < sm xs.length fun _ => 1 := by
        refine sm_lt (i := j) (fun i i1 i2 => ?_) j1 j2 ?_
        · by_cases hb' : 1 ≤ gi xs (i - 1) ∧ gi xs (i - 1) ≤ (xs.length : Int)
          · have := sm_pick (n := xs.length) (f := fun v : Nat => tf (decide (gi xs (i - 1) = (v : Int)))) (u := (gi xs (i - 1)).toNat) (by omega) (by omega) fun v _ _ hv => by rw [decide_eq_false (by omega)]; rfl
            rw [this]; exact (tf_bd _).2
          · rw [sm_zero fun v v1 v2 => by rw [decide_eq_false (by omega)]; rfl]; decide
        · rw [sm_zero fun v v1 v2 => by rw [decide_eq_false (by omega)]; rfl]; decide
      rw [hsum, sm_one] at hlt
      omega
  refine pok_mk hin fun i j i1 ij j2 e => ?_
  have hb := hin i i1 (by omega)
  have h1 := h (gi xs (i - 1)).toNat (by omega) (by omega)
  unfold cnv at h1
  rw [cnt_def] at h1
  have hlt : (sm xs.length fun k => tf (decide (k = i))) < sm xs.length fun k => tf (decide (gi xs (k - 1) = (((gi xs (i - 1)).toNat : Nat) : Int))) := by
    refine sm_lt (i := j) (fun k _ _ => ?_) (by omega) j2 ?_
    · by_cases hk : k = i
      · subst hk; rw [decide_eq_true (show gi xs (k - 1) = (((gi xs (k - 1)).toNat : Nat) : Int) by omega)]; exact (tf_bd _).2
      · rw [decide_eq_false hk]; exact (tf_bd _).1
    · rw [decide_eq_false (show ¬ j = i by omega), decide_eq_true (show gi xs (j - 1) = (((gi xs (i - 1)).toNat : Nat) : Int) by omega)]; decide
  rw [h1, sm_pick (u := i) i1 (by omega) fun k _ _ hk => by rw [decide_eq_false hk]; rfl] at hlt
  simp [tf] at hlt

theorem zero256 (w : World) : (zeroValue 74).run Try.prog w = .ok (.agg (Array.replicate 256 (.int .i64 0))) w := by kernel_rfl

set_option maxHeartbeats 2000000 in
theorem checked_calls (v : Value) (c : Nat) (xs : List Int) (w : World) (h : IS .u8 w v c xs) (hb : U8L xs) :
    Calls Try.prog 34 #[v] w fun e w' => e = .returned (.int .i64 (pcheck xs)) ∧ Ext w w' := by
  obtain ⟨h1, h2, ao, rfl, hao⟩ := h.open
  unfold maxLen at h2
  by_cases h8 : 8 < xs.length
  · have hp := pcheck_long h8
    have h8' : (8 : Int) < (xs.length : Int) := by omega
    have HP := Lib.hid hp
    clear hp h hao hb h8
    go_enter Try.func34, Try.ntmps34
    go_wp2
    go_ret
    exact ⟨ret_int HP.out.symm, Ext.refl _⟩
  · have h8' : ¬ (8 : Int) < (xs.length : Int) := by omega
    have hbad : (∃ v, 1 ≤ v ∧ v ≤ xs.length ∧ cnv xs xs.length v ≠ 1) → pcheck xs = 1 := fun ⟨v, v1, v2, hv⟩ => by
      rcases pcheck_bad (xs := xs) (by omega) (fun hok => hv (pok_surj hok v1 v2)) with h | h
      · exact h
      · omega
    have hgood : xs.length ≠ 0 → (∀ v, 1 ≤ v → v ≤ xs.length → cnv xs xs.length v = 1) → pcheck xs = 0 := fun h0 hh => pcheck_ok h0 (by omega) (one_pok hh)
    have hzero : xs.length = 0 → pcheck xs = 1 := fun h0 => pcheck_empty h0
    obtain ⟨R, hR⟩ : ∃ R, R = pcheck xs := ⟨_, rfl⟩
    rw [← hR] at hbad hgood hzero ⊢
    obtain ⟨N, hN⟩ : ∃ N, N = xs.length := ⟨_, rfl⟩
    have hb' : ∀ i, i < N → 0 ≤ gi xs i ∧ gi xs i ≤ 255 := fun i hi => hb i (by omega)
    rw [← hN] at hbad hgood hzero h1 hao h8' h8 ⊢
    have HB := Lib.hid hb'; have HBAD := Lib.hid hbad; have HG := Lib.hid hgood; have HZ := Lib.hid hzero
    have hcn := cnv_succ xs
    have HCN := Lib.hid hcn
    have hcb := cnv_bd xs
    have HCB := Lib.hid hcb
    clear hb hb' hbad hgood hzero hN hR h hcn hcb
    have hz74 : ∀ w, (zeroValue 74).run Try.prog w = .ok (.agg (Array.replicate 256 (.int .i64 0))) w := zero256
    have hr0 : ∃ f, (w.alloc (.cells (Array.replicate 256 (.int .i64 0)) 74)).rowIs w.heap.size 74 256 f ∧ ∀ j, j < 256 → f j = .int .i64 (cnv xs 0 j) := by
      refine ⟨fun _ => .int .i64 0, ⟨_, Deep.blk_alloc_new _ _, by simp, fun i hi => ?_⟩, fun _ _ => rfl⟩
      rw [Array.getElem?_replicate, if_pos hi]
    obtain ⟨Z, hZ⟩ : ∃ Z, Z = Array.replicate 256 (Value.int .i64 0) := ⟨_, rfl⟩
    rw [← hZ] at hr0
    simp only [← hZ] at hz74
    have HR0 := Lib.hid hr0
    clear hZ hr0
    go_enter Try.func34, Try.ntmps34
    go_wp2
    go_loopw [4] (fun i wr => ∃ k : Nat, k ≤ N ∧ i = .int .i64 k ∧ Hid ((∃ f, wr.rowIs w.heap.size 74 256 f ∧ ∀ j, j < 256 → f j = .int .i64 (cnv xs k j)) ∧ Ext w wr)) (fun i _ => N - (intOf i).toNat)
    case atStart => exact ⟨0, Nat.zero_le _, rfl, Lib.hid ⟨HR0.out, (Ext.refl w).alloc _⟩⟩
    case round =>
      obtain ⟨k, hk, rfl, H⟩ := hrel
      by_cases hlt : k < N
      · obtain ⟨b, o, rfl, hc⟩ : ∃ b o, ao = some ⟨b, o, none⟩ ∧ ∀ i, i < N → w.cell? ⟨b, o + i, none⟩ = some (.int .u8 (gi xs i)) := by
          rcases hao with ⟨_, h0, _⟩ | h
          · omega
          · exact h
        have ck := H.out.2.cell (hc k hlt)
        have hbx := HB.out k hlt
        obtain ⟨y, hy⟩ : ∃ y : Nat, gi xs k = (y : Int) := ⟨(gi xs k).toNat, by omega⟩
        obtain ⟨f, hrow, hf⟩ := H.out.1
        have hy256 : y < 256 := by omega
        have q := hrow.cell (i := y) hy256
        have qf := hrow.frozen y
        rw [hf y hy256] at q
        have hcy := HCB.out k y
        obtain ⟨z, hz⟩ : ∃ z, z = cnv xs k y := ⟨_, rfl⟩
        rw [← hz] at q hcy
        rw [hy] at ck
        have HY := Lib.hid hy; have HF := Lib.hid hf; have HROW := Lib.hid hrow; have HZZ := Lib.hid hz
        clear hy hf hrow hz hc hao hbx
        go_wp2
        go_roundw
        case rel =>
          refine ⟨k + 1, by omega, by go_num, Lib.hid ⟨⟨_, HROW.out.set y (.int .i64 (z + 1)), fun j hj => ?_⟩, H.out.2.setCell (Nat.le_refl _) _⟩⟩
          by_cases e : j = y
          · subst e; rw [if_pos rfl, HCN.out, HY.out, decide_eq_true rfl, ← HZZ.out]; rfl
          · rw [if_neg e, HF.out j hj, HCN.out, HY.out, decide_eq_false (by omega)]; simp [tf]
        case measure => simp [intOf]; omega
      · obtain rfl : k = N := by omega
        obtain ⟨wo, rfl⟩ : ∃ wo : World, wo = wr := ⟨_, rfl⟩
        go_wp2
        go_loop [5] (fun i => ∃ v : Nat, 1 ≤ v ∧ v ≤ k + 1 ∧ i = .int .i64 v ∧ Hid (∀ v', 1 ≤ v' → v' < v → cnv xs k v' = 1)) (fun i => k + 1 - (intOf i).toNat)
        case atStart => exact ⟨1, by omega, by omega, rfl, Lib.hid fun v' a b => by omega⟩
        case round =>
          obtain ⟨v, hv1, hv2, rfl, HV⟩ := hrel
          by_cases hlv : v ≤ k
          · obtain ⟨f, hrow, hf⟩ := H.out.1
            have q := hrow.cell (i := v) (by omega)
            rw [hf v (by omega)] at q
            obtain ⟨z, hz⟩ : ∃ z, z = cnv xs k v := ⟨_, rfl⟩
            rw [← hz] at q
            have HZZ := Lib.hid hz
            clear hz hf hrow
            by_cases e : z = 1
            · have e1 : (z != 1) = false := by simpa using e
              have E := Lib.hid e; clear e
              go_wp2
              go_round
              case rel =>
                refine ⟨v + 1, by omega, by omega, by go_num, Lib.hid fun v' a b => ?_⟩
                by_cases e : v' = v
                · rw [e, ← HZZ.out]; exact E.out
                · exact HV.out v' a (by omega)
              case measure => simp [intOf]; omega
            · have e1 : (z != 1) = true := by simpa using e
              have E := Lib.hid e; clear e
              go_wp2
              go_ret
              exact ⟨ret_int (HBAD.out ⟨v, hv1, hlv, by rw [← HZZ.out]; exact E.out⟩).symm, H.out.2⟩
          · by_cases h0 : k = 0
            · have h0' : ((k : Int) == 0) = true := by simp; omega
              have HR : Hid (R = 1) := Lib.hid (HZ.out h0)
              go_wp2
              go_ret
              exact ⟨ret_int HR.out.symm, H.out.2⟩
            · have h0' : ((k : Int) == 0) = false := by simp; omega
              have HR : Hid (R = 0) := Lib.hid (HG.out h0 fun v' a b => HV.out v' a (by omega))
              clear h0
              go_wp2
              go_ret
              exact ⟨ret_int HR.out.symm, H.out.2⟩
end Go.Proofs.Ytpcbadagffeehaa
