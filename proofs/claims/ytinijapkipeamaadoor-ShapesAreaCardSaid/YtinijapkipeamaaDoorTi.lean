/- shapes.joined of rows of stitches: the walk. -/
import Derived.Test.YtinijapkipeamaaDoorTh
namespace Go.Proofs.YtinijapkipeamaaDoor
set_option linter.unusedVariables false
set_option linter.unusedSimpArgs false
set_option maxRecDepth 8000
open Go Go.RowKit

def fl (rows : List (List St)) (k : Nat) : List St := (rows.take k).flatten
theorem fl_succ {rows : List (List St)} {k : Nat} (h : k < rows.length) : fl rows (k + 1) = fl rows k ++ sw rows k := by unfold fl; rw [take_succ_sw h]; simp
theorem fl_all {rows : List (List St)} : fl rows rows.length = rows.flatten := by unfold fl; rw [List.take_length]
theorem fl_bd {rows : List (List St)} (h : ∀ i, i < rows.length → (sw rows i).length ≤ 1000) : ∀ k, k ≤ rows.length → (fl rows k).length ≤ 1000 * k
  | 0, _ => by simp [fl]
  | k + 1, hk => by
    rw [fl_succ (by omega), List.length_append]
    have := h k (by omega)
    have := fl_bd h k (by omega)
    omega
theorem fl_le {rows : List (List St)} {k : Nat} : (fl rows k).length ≤ rows.flatten.length := by
  unfold fl
  rw [← List.take_append_drop k rows, List.flatten_append, List.length_append]
  simp
set_option maxHeartbeats 2000000 in
theorem joined_calls (rows : List (List St)) (w : World) (b n : Nat) (gs cs : Nat → Nat) (hn : n = rows.length) (h0 : 0 < rows.flatten.length) (h100 : n ≤ 100)
    (hr : ∀ i, i < n → w.cell? ⟨b, i, none⟩ = some (.slice (some ⟨gs i, 0, none⟩) (sw rows i).length (cs i)) ∧ RO w (gs i) (cs i) (sw rows i) ∧ (sw rows i).length ≤ 1000) :
    Calls Tryd.prog 63 #[.slice (some ⟨b, 0, none⟩) n n] w (RetRO w rows.flatten) := by
  have hfs := fun k (hk : k < n) => fl_succ (rows := rows) (k := k) (by omega)
  have hfb := fun k (hk : k ≤ n) => fl_bd (rows := rows) (fun i hi => (hr i (by omega)).2.2) k (by omega)
  have hfa : fl rows n = rows.flatten := by rw [hn, fl_all]
  have HR := Lib.hid hr; have HS := Lib.hid hfs; have HB := Lib.hid hfb; have HA := Lib.hid hfa; have H0 := Lib.hid h0
  clear hr hfs hfb hfa hn h0
  go_enter Tryd.func63, Tryd.ntmps63
  go_wp2
  go_loopw [3, 5, 11] (fun s _ i wr => ∃ k m : Nat, k ≤ n ∧ i = .int .i64 k ∧ s = .int .i64 m ∧ Hid (m = (fl rows k).length) ∧ Hid (Ext w wr)) (fun _ _ i _ => n - (intOf i).toNat)
  case atStart => exact ⟨0, 0, Nat.zero_le _, rfl, rfl, Lib.hid (by simp [fl]), Lib.hid (Ext.refl w)⟩
  case round =>
    obtain ⟨k, m, hk, rfl, rfl, HM, HX⟩ := hrel
    by_cases hlt : k < n
    · obtain ⟨hc, _, hb⟩ := HR.out k hlt
      replace hc := HX.out.cell hc
      have hm := HB.out k hk
      rw [← HM.out] at hm
      have hnx := HS.out k hlt
      obtain ⟨q, hq⟩ : ∃ q, q = (sw rows k).length := ⟨_, rfl⟩
      rw [← hq] at hc hb
      have HN := Lib.hid (show m + q = (fl rows (k + 1)).length by rw [hnx, List.length_append, ← HM.out, ← hq])
      clear hnx hq HM
      go_wp2
      go_roundw
      case rel => exact ⟨k + 1, m + q, by omega, by go_num, by go_num, HN, HX⟩
      case measure => simp [intOf]; omega
    · obtain rfl : n = k := by omega
      have hm := HB.out n hk
      rw [← HM.out] at hm
      obtain ⟨wo, rfl⟩ : ∃ wo : World, wo = wr := ⟨_, rfl⟩
      obtain ⟨i, hi, hzz⟩ := Option.map_eq_some_iff.1 (show (Tryd.prog.info? 52).map (fun i => (i.zero, i.size, i.bytes)) = some (some (.agg z5), 5, 32) by kernel_rfl)
      simp only [Prod.mk.injEq] at hzz
      obtain ⟨hz, hsz, hby⟩ := hzz
      obtain ⟨w0, hmk, hown, hgrow⟩ := run_make_own (P := Tryd.prog) wo wo.heap.size 48 52 i (.agg z5) 5 Tryd.underlying48 hi hz hsz .i64 .i64 m (by rw [hby]; omega) (by unfold maxLen; omega) (Nat.le_refl _)
      have HO := Lib.hid (And.intro hown (And.intro (HX.out.trans (grown_ext hgrow)) (grown_ext hgrow).size))
      have HXr := HX.out.size
      clear hlt hk hi hz hsz hby hown hgrow
      go_wp2
      clear hmk
      go_loopw [6, 8, 24] (fun v _ i wr => ∃ k : Nat, k ≤ n ∧ i = .int .i64 k ∧ Hid (wr.ownsRow wo.heap.size 52 5 v (fl rows k).length (cells (fl rows k)) ∧ Ext w wr ∧ wo.heap.size ≤ wr.heap.size)) (fun _ _ i _ => n - (intOf i).toNat)
      case atStart => exact ⟨0, Nat.zero_le _, rfl, Lib.hid ⟨by simpa [fl, cells] using HO.out.1, HO.out.2.1, HO.out.2.2⟩⟩
      case round =>
        obtain ⟨k, hk, rfl, H⟩ := hrel
        by_cases hlt : k < n
        · obtain ⟨hc, hro, hb⟩ := HR.out k hlt
          replace hc := H.out.2.1.cell hc
          replace hro := hro.ext H.out.2.1
          have hm := HB.out k hk
          have hnx := HS.out k hlt
          have HN := Lib.hid hnx; have HRo := Lib.hid hro
          have hln : (fl rows (k + 1)).length = (fl rows k).length + (sw rows k).length := by rw [hnx, List.length_append]
          have HLn := Lib.hid hln
          clear hnx hro hln
          go_wp2_with (at_builtin; refine app_st rfl _ _ rfl wo.heap.size _ (fl rows k).length _ rfl H.out.1 (gs k) (cs k) _ (sw rows k) rfl rfl HRo.out ?d1 ?d2 ?_)
          case d1 => omega
          case d2 => exact H.out.2.2
          intro v' w' hown hbel
          have HO2 := Lib.hid (And.intro hown (And.intro (Below.trans H.out.2.1 (Below.mono hbel HXr)) (Nat.le_trans H.out.2.2 hbel.size)))
          clear hown hbel hc hm hb
          go_wp2
          go_roundw
          case rel => exact ⟨k + 1, by omega, by go_num, Lib.hid ⟨by rw [HLn.out, HN.out, cells_app]; exact HO2.out.1, HO2.out.2.1, HO2.out.2.2⟩⟩
          case measure => simp [intOf]; omega
        · obtain rfl : n = k := by omega
          obtain ⟨g, c, hv, hl, hB, hro⟩ := RO.of_own H.out.1 (by rw [HA.out]; exact H0.out)
          clear hlt hk
          go_wp2
          go_ret
          exact ⟨g, c, _, rfl, by rw [HA.out], Nat.le_trans HXr hB, by rw [← HA.out]; exact hro, H.out.2.1⟩
end Go.Proofs.YtinijapkipeamaaDoor
