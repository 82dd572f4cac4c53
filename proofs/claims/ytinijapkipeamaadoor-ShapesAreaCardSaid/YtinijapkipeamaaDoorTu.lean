/- The outlines of plain data: the walk. -/
import Derived.Test.YtinijapkipeamaaDoorTt
import Derived.Test.YtinijapkipeamaaDoorLibd
import Derived.Test.YtinijapkipeamaaDoorLibb
namespace Go.Proofs.YtinijapkipeamaaDoor
set_option linter.unusedVariables false
set_option linter.unusedSimpArgs false
set_option maxRecDepth 8000
open Go Go.RowKit

set_option maxHeartbeats 2000000 in
theorem O_calls (f : Int) (v : Value) (c : Nat) (st : List Int) (w : World) (h : IS .u8 w v c st) (hf : 0 ≤ f ∧ f ≤ 255) (hs : ∀ i, i < st.length → 0 ≤ gi st i ∧ gi st i ≤ 255) :
    Calls Tryd.prog 20 #[.agg #[.int .u8 f, v]] w (RetX .i64 w (oof f st)) := by
  obtain ⟨ao, n, c', rfl, hn, rfl, hIS⟩ := h.out
  obtain ⟨W, hW⟩ : ∃ W, W = w.alloc (.cells #[.int .u8 f, .slice ao n c'] 44) := ⟨_, rfl⟩
  have xW : Ext w W := by rw [hW]; exact (Ext.refl w).alloc _
  have hB := B2.new w (.int .u8 f) (.slice ao n c') 44
  have c0 := hB.c0; have c1 := hB.c1
  have hbx : ∀ w', Ext W w' → w'.cell? ⟨w.heap.size, 1, none⟩ = some (.slice ao n c') := fun w' x => by rw [hW] at x; exact x.cell c1
  obtain ⟨M, hM⟩ : ∃ M, M = min n 15 := ⟨_, rfl⟩
  have hM15 : M ≤ 15 ∧ M ≤ n := by omega
  have hof : oof f st = olist f st M ++ (if M % 2 = 0 then [oat f st M] else []) := by unfold oof; rw [hM, hn]
  have hbd := oat_bd f st
  have hsc := olist_succ f st
  have hst2 : ∀ k, oat f st (k + 1) = stp (oat f st k) (gi st k) := fun k => rfl
  have hln := olist_len f st
  have hs2 : ∀ i, i < n → 0 ≤ gi st i ∧ gi st i ≤ 255 := fun i hi => hs i (by omega)
  have h0 : oat f st 0 = 2 + f % 15 := rfl
  have HBx := Lib.hid hbx; have HBd := Lib.hid hbd; have HSc := Lib.hid hsc; have HSt := Lib.hid hst2; have HLn := Lib.hid hln; have HI := Lib.hid (hIS.ext xW); have HS := Lib.hid hs2; have HOf := Lib.hid hof; have HMn := Lib.hid hM; have XW := Lib.hid xW
  have w1 : IntKind.u8.wrap (f % 15) = f % 15 := IntWalk.u8_in _ ⟨by omega, by omega⟩
  have w2 : IntKind.i64.wrap (f % 15) = f % 15 := IntWalk.i64_in _ ⟨by omega, by omega⟩
  have w3 : IntKind.i64.wrap (2 + f % 15) = oat f st 0 := by rw [h0]; exact IntWalk.i64_in _ ⟨by omega, by omega⟩
  have hstart : (W.alloc (.cells #[.int .i64 (oat f st 0)] 3)).ownsRow W.heap.size 3 1 (.slice (some ⟨W.heap.size, 0, none⟩) 1 1) 1 [.int .i64 (oat f st 0)] :=
    own_of_row (World.rowIs_alloc W #[.int .i64 (oat f st 0)] 3 (fun _ => .int .i64 (oat f st 0)) (fun i hi => by simp at hi; subst hi; rfl)) (m := 1) (Nat.le_refl _) (by unfold maxLen; simp)
  have HSt0 := Lib.hid hstart
  obtain ⟨f1, f2⟩ := hf
  clear hbx hbd hsc hst2 hln hIS hs2 hof hM xW h hs hB hn h0 hstart
  go_enter Tryd.func20, Tryd.ntmps20
  go_wp2
  clear c0 c1 w1 w2 w3
  rw [← hW]
  have hWs : W.heap.size = w.heap.size + 1 := by rw [hW]; simp
  rw [← hWs]
  have HWs := Lib.hid hWs
  clear hWs hW
  go_loopw [3, 4, 5, 6] (fun x l i _ wr => ∃ k : Nat, k ≤ M ∧ i = .int .i64 k ∧ x = .int .i64 (oat f st k) ∧ Hid (wr.ownsRow W.heap.size 3 1 l (k + 1) ((olist f st k).map (Value.int .i64)) ∧ Ext W wr)) (fun _ _ i _ _ => M - (intOf i).toNat)
  case atStart => exact ⟨0, by omega, rfl, rfl, Lib.hid ⟨by simpa [olist] using HSt0.out, (Ext.refl W).alloc _⟩⟩
  case round =>
    obtain ⟨k, hk, rfl, rfl, H⟩ := hrel
    have b1 := HBx.out _ H.out.2
    have hsz := H.out.2.size
    by_cases hlt : k < M
    · have k1 : (k : Int) < n := by omega
      have k2 : (k : Int) < 15 := by omega
      obtain ⟨b, o, rfl, hc⟩ := HI.out.at (show k < n by omega)
      replace hc := H.out.2.cell (hc k (by omega))
      have hx := HBd.out k
      have hy := HBd.out (k + 1)
      have hso := HSt.out k
      have hsc := HSc.out k
      obtain ⟨s1, s2⟩ := HS.out k (by omega)
      generalize oat f st k = X at *
      generalize gi st k = s at *
      generalize hN : oat f st (k + 1) = Y at *
      obtain ⟨D, hD⟩ : ∃ D, D = s % 5 - 2 := ⟨_, rfl⟩
      unfold stp at hso
      rw [← hD] at hso
      have v1 : IntKind.u8.wrap (s % 5) = s % 5 := IntWalk.u8_in _ ⟨by omega, by omega⟩
      have v2 : IntKind.i64.wrap (s % 5) = s % 5 := IntWalk.i64_in _ ⟨by omega, by omega⟩
      have v3 : IntKind.i64.wrap (s % 5 - 2) = D := by rw [← hD]; exact IntWalk.i64_in _ ⟨by omega, by omega⟩
      have v4 : IntKind.i64.wrap (X + D) = X + D := IntWalk.i64_in _ ⟨by omega, by omega⟩
      have HSo := Lib.hid hso; have HSn := Lib.hid hsc; have HNn := Lib.hid hN
      clear hso hsc hN hD hx hy
      by_cases hin : 2 ≤ X + D ∧ X + D ≤ 16
      · obtain ⟨i1, i2⟩ := hin
        have hY := HSo.out
        rw [if_pos ⟨i1, i2⟩] at hY
        have HY := Lib.hid hY
        clear hY
        go_wp2_with (at_builtin; refine app_own eiInt rfl _ _ rfl W.heap.size _ (k + 1) _ rfl (H.out.1.alloc _) _ _ _ rfl (VS.one _ _ _) (one1 _) ?d1 ?d2 ?d3 ?_)
        any_goals (first | omega | (simp; done) | (simp only [List.length_cons, List.length_nil]; omega) | (simp; omega))
        intro v' w' hown hbel
        have HO := Lib.hid (And.intro hown hbel)
        clear hown hbel
        go_wp2
        go_roundw
        case rel => exact ⟨k + 1, by omega, by go_num, by rw [HNn.out, HY.out], Lib.hid ⟨by rw [HSn.out, HY.out, List.map_append]; exact HO.out.1, Below.trans (H.out.2.alloc _) HO.out.2⟩⟩
        case measure => simp [intOf]; omega
      · have hY := HSo.out
        rw [if_neg hin] at hY
        have HY := Lib.hid hY
        clear hY
        by_cases i1 : 2 ≤ X + D
        · have i2 : ¬ X + D ≤ 16 := by omega
          clear hin
          go_wp2_with (at_builtin; refine app_own eiInt rfl _ _ rfl W.heap.size _ (k + 1) _ rfl (H.out.1.alloc _) _ _ _ rfl (VS.one _ _ _) (one1 _) ?d4 ?d5 ?d6 ?_)
          any_goals (first | omega | (simp; done) | (simp only [List.length_cons, List.length_nil]; omega) | (simp; omega))
          intro v' w' hown hbel
          have HO := Lib.hid (And.intro hown hbel)
          clear hown hbel
          go_wp2
          go_roundw
          case rel => exact ⟨k + 1, by omega, by go_num, by rw [HNn.out, HY.out], Lib.hid ⟨by rw [HSn.out, HY.out, List.map_append]; exact HO.out.1, Below.trans (H.out.2.alloc _) HO.out.2⟩⟩
          case measure => simp [intOf]; omega
        · clear hin
          go_wp2_with (at_builtin; refine app_own eiInt rfl _ _ rfl W.heap.size _ (k + 1) _ rfl (H.out.1.alloc _) _ _ _ rfl (VS.one _ _ _) (one1 _) ?d7 ?d8 ?d9 ?_)
          any_goals (first | omega | (simp; done) | (simp only [List.length_cons, List.length_nil]; omega) | (simp; omega))
          intro v' w' hown hbel
          have HO := Lib.hid (And.intro hown hbel)
          clear hown hbel
          go_wp2
          go_roundw
          case rel => exact ⟨k + 1, by omega, by go_num, by rw [HNn.out, HY.out], Lib.hid ⟨by rw [HSn.out, HY.out, List.map_append]; exact HO.out.1, Below.trans (H.out.2.alloc _) HO.out.2⟩⟩
          case measure => simp [intOf]; omega
    · obtain rfl : M = k := by omega
      have hm15 := HMn.out
      have hof := HOf.out
      have hsc := HSc.out M
      have hln := HLn.out M
      have hl : ¬ ((M : Int) < n ∧ (M : Int) < 15) := by omega
      have hX := HBd.out M
      have HX := Lib.hid H.out.2
      obtain ⟨cA, hI⟩ := IS.of_own (k := .i64) H.out.1
      obtain ⟨aA, nA, cA', hv, hnA, hcA, hI2⟩ := hI.out
      rw [hln] at hnA
      have hcc : cA' = cA := hcA
      subst hcc
      subst hnA
      subst hv
      have HI2 := Lib.hid hI2
      by_cases hp : M % 2 = 0
      · rw [if_pos hp] at hof
        have hp2 : (((M : Int) + 1) % 2 == 1) = true := by rw [beq_iff_eq]; omega
        have HOf2 := Lib.hid hof
        clear hof hsc hln hI hI2
        by_cases hq : M < n
        · exfalso; omega
        · have q1 : ¬ (M : Int) < n := by omega
          clear hl hq hm15
          go_wp2_with (at_builtin; refine app_own eiInt rfl _ _ rfl W.heap.size _ (M + 1) _ rfl (H.out.1.alloc _) _ _ _ rfl (VS.one _ _ _) (one1 _) ?h14 ?h15 ?h16 ?_)
          any_goals (first | omega | (simp; done) | (simp only [List.length_cons, List.length_nil]; omega) | (simp; omega))
          intro v' w' hown hbel
          have hfin : ∃ c, IS .i64 w' v' c (oof f st) := by
            rw [HOf2.out]
            refine IS.of_own (k := .i64) (n := M + 2) (e := 3) (B := W.heap.size) ?_
            rw [List.map_append]; exact hown
          obtain ⟨cf, hfin⟩ := hfin
          have HF := Lib.hid (show RetX .i64 w (oof f st) (.returned v') w' from ⟨v', cf, rfl, hfin, XW.out.trans (Below.trans (HX.out.alloc _) hbel)⟩)
          clear hown hbel hfin
          go_wp2
          go_ret
          exact HF.out
      · rw [if_neg hp, List.append_nil] at hof
        have hp2 : (((M : Int) + 1) % 2 == 1) = false := by rw [beq_eq_false_iff_ne]; omega
        have HOf2 := Lib.hid hof
        clear hof hsc hln hI hI2
        by_cases hq : M < n
        · have q1 : (M : Int) < n := by omega
          have q2 : ¬ (M : Int) < 15 := by omega
          clear hl hq hm15
          have HF := Lib.hid (show RetX .i64 w (oof f st) (.returned (.slice aA (M + 1) cA')) wr from by rw [HOf2.out]; exact ⟨_, cA', rfl, HI2.out, XW.out.trans HX.out⟩)
          go_wp2
          go_ret
          exact HF.out
        · have q1 : ¬ (M : Int) < n := by omega
          clear hl hq hm15
          have HF := Lib.hid (show RetX .i64 w (oof f st) (.returned (.slice aA (M + 1) cA')) wr from by rw [HOf2.out]; exact ⟨_, cA', rfl, HI2.out, XW.out.trans HX.out⟩)
          go_wp2
          go_ret
          exact HF.out
end Go.Proofs.YtinijapkipeamaaDoor
