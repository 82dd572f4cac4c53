/- shapes.joined of lists of numbers. -/
import Derived.Test.YtinijapkipeamaaDoorTi
namespace Go.Proofs.YtinijapkipeamaaDoor
set_option linter.unusedVariables false
set_option linter.unusedSimpArgs false
set_option maxRecDepth 8000
open Go Go.RowKit

theorem ISS.open2 {k : IntKind} {w : World} {v : Value} {c : Nat} {rows : List (List Int)} (h : ISS k w v c rows) : ∃ ao n, v = .slice ao n c ∧ n = rows.length ∧ n ≤ c ∧ c ≤ maxLen ∧
    ∀ i, i < n → ∃ b o a m d, ao = some ⟨b, o, none⟩ ∧ w.cell? ⟨b, o + i, none⟩ = some (.slice a m d) ∧ m = (ri rows i).length ∧ IS k w (.slice a m d) d (ri rows i) := by
  obtain ⟨vs, caps, h⟩ := h
  obtain ⟨h1, h2, ao, rfl, h3⟩ := h.open
  refine ⟨ao, _, rfl, rfl, h1, h2, fun i hi => ?_⟩
  rcases h3 with ⟨_, h4, _⟩ | ⟨b, o, rfl, h4⟩
  · omega
  · obtain ⟨a, m, d, hv, hm, hd, hi2⟩ := (h.2 i hi).out
    subst hd
    exact ⟨b, o, a, m, _, rfl, by rw [h4 i hi, hv], hm, hi2⟩
theorem take_succ_ri {l : List (List Int)} {k : Nat} (h : k < l.length) : l.take (k + 1) = l.take k ++ [ri l k] := by rw [ri_of_lt h]; exact List.take_succ_eq_append_getElem h
def flI (rows : List (List Int)) (k : Nat) : List Int := (rows.take k).flatten
theorem flI_succ {rows : List (List Int)} {k : Nat} (h : k < rows.length) : flI rows (k + 1) = flI rows k ++ ri rows k := by unfold flI; rw [take_succ_ri h]; simp
theorem flI_le {rows : List (List Int)} {k : Nat} : (flI rows k).length ≤ rows.flatten.length := by
  unfold flI
  conv => rhs; rw [← List.take_append_drop k rows, List.flatten_append, List.length_append]
  omega
theorem flI_all {rows : List (List Int)} : flI rows rows.length = rows.flatten := by unfold flI; rw [List.take_length]
set_option maxHeartbeats 2000000 in
theorem joinedI_calls (v : Value) (c : Nat) (rows : List (List Int)) (w : World) (h : ISS .i64 w v c rows) (hf : rows.flatten.length ≤ 100000) :
    Calls Tryd.prog 37 #[v] w (RetI .i64 w rows.flatten.length rows.flatten) := by
  obtain ⟨ao, n, rfl, hn, hc, hcm, hat⟩ := h.open2
  have hfs := fun k (hk : k < n) => flI_succ (rows := rows) (k := k) (by omega)
  have hfb := fun k => flI_le (rows := rows) (k := k)
  have hfa : flI rows n = rows.flatten := by rw [hn, flI_all]
  obtain ⟨M, hM⟩ : ∃ M, M = rows.flatten.length := ⟨_, rfl⟩
  have hM2 : M = (flI rows n).length := by rw [hfa, hM]
  rw [← hM] at hf
  have HR := Lib.hid hat; have HS := Lib.hid hfs; have HB := Lib.hid hfb; have HA := Lib.hid hfa; have HM := Lib.hid hM2; have HM1 := Lib.hid hM
  clear hat hfs hfb hfa hn h hM2
  unfold maxLen at hcm
  rw [← hM]
  clear hM
  go_enter Tryd.func37, Tryd.ntmps37
  go_wp2
  go_loopw [3, 5, 11] (fun s _ i wr => ∃ k m : Nat, k ≤ n ∧ i = .int .i64 k ∧ s = .int .i64 m ∧ Hid (m = (flI rows k).length) ∧ Hid (Ext w wr)) (fun _ _ i _ => n - (intOf i).toNat)
  case atStart => exact ⟨0, 0, Nat.zero_le _, rfl, rfl, Lib.hid (by simp [flI]), Lib.hid (Ext.refl w)⟩
  case round =>
    obtain ⟨k, m, hk, rfl, rfl, HMk, HX⟩ := hrel
    by_cases hlt : k < n
    · obtain ⟨b, o, a, p, d, rfl, hc0, hp, hi⟩ := HR.out k hlt
      replace hc0 := HX.out.cell hc0
      have hb1 := HB.out (k + 1)
      rw [← HM1.out] at hb1
      have hnx := HS.out k hlt
      have hmq : m + p = (flI rows (k + 1)).length := by rw [hnx, List.length_append, ← HMk.out, hp]
      rw [← hmq] at hb1
      have HN := Lib.hid hmq
      clear hnx hmq hp hi HMk
      go_wp2
      go_roundw
      case rel => exact ⟨k + 1, m + p, by omega, by go_num, by go_num, HN, HX⟩
      case measure => simp [intOf]; omega
    · obtain rfl : n = k := by omega
      obtain rfl : m = M := by rw [HM.out, HMk.out]
      obtain ⟨wo, rfl⟩ : ∃ wo : World, wo = wr := ⟨_, rfl⟩
      have hmk := run_make_cap (P := Tryd.prog) eiInt .i64 .i64 m (by omega) (by omega) wo
      clear hlt hk HMk
      go_wp2
      clear hmk
      have hrow := own_of_row (World.rowIs_made wo (.int .i64 0) m 3) (m := 0) (by omega) (by unfold maxLen; omega)
      have hex := HX.out.alloc (.cells (madeCells #[.int .i64 0] m) 3)
      obtain ⟨g, hg⟩ : ∃ g, g = wo.heap.size := ⟨_, rfl⟩
      have hwg : w.heap.size ≤ g := by rw [hg]; exact HX.out.size
      rw [← hg] at hrow ⊢
      have HO := Lib.hid hrow; have HE := Lib.hid hex
      clear hrow hex hg
      go_loopw [6, 8, 24] (fun v _ i wr => ∃ k : Nat, k ≤ n ∧ i = .int .i64 k ∧ v = .slice (some ⟨g, 0, none⟩) (flI rows k).length m ∧ Hid (wr.ownsRow g 3 1 (.slice (some ⟨g, 0, none⟩) (flI rows k).length m) (flI rows k).length ((flI rows k).map (Value.int .i64))) ∧ Hid (Ext w wr ∧ g ≤ wr.heap.size)) (fun _ _ i _ => n - (intOf i).toNat)
      case atStart => exact ⟨0, Nat.zero_le _, rfl, by simp [flI], by simpa [flI] using HO, Lib.hid ⟨HE.out, by
        obtain ⟨_, h | ⟨g', cap, cur, hv, hB, hb, _⟩⟩ := HO.out
        · cases h.1
        · have := lt_of_block hb; injection hv with e1; injection e1 with e1; injection e1 with e1; omega⟩⟩
      case round =>
        obtain ⟨k, hk, rfl, rfl, H, HX2⟩ := hrel
        by_cases hlt : k < n
        · obtain ⟨b, o, a, p, d, rfl, hc0, hp, hi⟩ := HR.out k hlt
          replace hc0 := HX2.out.1.cell hc0
          have hi2 := hi.ext HX2.out.1
          have hb1 := HB.out (k + 1)
          rw [← HM1.out] at hb1
          have hnx := HS.out k hlt
          have hmq : (flI rows k).length + p = (flI rows (k + 1)).length := by rw [hnx, List.length_append, hp]
          have hmp : (flI rows k).map (Value.int .i64) ++ (ri rows k).map (Value.int .i64) = (flI rows (k + 1)).map (Value.int .i64) := by rw [hnx, List.map_append]
          rw [← hmq] at hb1
          have hpl : (ri rows k).length = p := hp.symm
          have HN := Lib.hid hmq; have HI := Lib.hid hi2; have HPl := Lib.hid hpl; have HMp := Lib.hid hmp
          obtain ⟨q, hq⟩ : ∃ q, q = (flI rows k).length := ⟨_, rfl⟩
          rw [← hq] at H HN hb1 ⊢
          clear hnx hmq hi hi2 hpl hmp hp hq
          go_wp2_with (at_builtin; refine app_fits eiInt rfl _ _ rfl g g q m _ rfl H.out _ _ _ rfl HI.out (onesI _) ?d1 HX2.out.2 ?_)
          case d1 => rw [List.length_map, HPl.out]; exact hb1
          intro w' hown hbel
          rw [HPl.out] at hown ⊢
          rw [HMp.out] at hown
          have hx2 := Lib.hid (Below.trans HX2.out.1 (Below.mono hbel hwg))
          have hs2 := Lib.hid (Nat.le_trans HX2.out.2 hbel.size)
          rw [HN.out] at hown
          have HO2 := Lib.hid hown
          have hpq := HPl.out
          clear hown hbel hc0 hb1
          go_wp2
          go_roundw
          case rel => exact ⟨k + 1, by omega, by go_num, by rw [HN.out], HO2, Lib.hid ⟨hx2.out, hs2.out⟩⟩
          case measure => simp [intOf]; omega
        · obtain rfl : n = k := by omega
          have hown := H.out
          have hfin : IS .i64 wr (.slice (some ⟨g, 0, none⟩) (flI rows n).length m) m rows.flatten := by
            obtain ⟨c', hI⟩ := IS.of_own (k := .i64) hown
            obtain ⟨e1, e2, _⟩ := hI.len
            rw [e2, ← HA.out]
            rw [e2] at hI; exact hI
          have HF := Lib.hid hfin
          clear hlt hk hown hfin
          go_wp2
          go_ret
          exact ⟨_, rfl, HF.out, HX2.out.1, NN.mk⟩
end Go.Proofs.YtinijapkipeamaaDoor
