/- Texts of this claim in one file: libraries and walks. -/
import Derived.Deep.RegionHeld3
import Derived.Test.YthllbcjglcplhaaDoorL3
import Derived.Test.YthllbcjglcplhaaDoorL4
import Derived.Test.YthllbcjglcplhaaDoorL8
import Derived.Test.YthllbcjglcplhaaDoorL9
import Derived.Test.YthllbcjglcplhaaDoorL10
import Derived.Test.YthllbcjglcplhaaDoorL11
import Derived.Test.YthllbcjglcplhaaDoorMKnown1
/- laces.Parse. -/
namespace Go.Proofs.YthllbcjglcplhaaDoor
set_option linter.unusedVariables false
set_option linter.unusedSimpArgs false
set_option maxRecDepth 8000
open Go Go.RowKit

def Mx (w : World) : Prop := ∃ m, w.cell? ⟨1, 0, none⟩ = some (.int .i64 m)
theorem Mx.ext {w w' : World} (h : Mx w) (hx : Ext w w') : Mx w' := by
  obtain ⟨m, hm⟩ := h
  exact ⟨m, hx.cell hm⟩
theorem index_nl (r : List UInt8) : ∀ {x : List UInt8}, (10 : UInt8) ∉ x → Lib.index (x ++ 10 :: r) [10] = (x.length : Int)
  | [], _ => by rw [List.nil_append, Lib.index]; simp [List.isPrefixOf]
  | b :: x, h => by
    simp only [List.mem_cons, not_or] at h
    have ih := index_nl r (x := x) h.2
    have hp : ([10] : List UInt8).isPrefixOf (b :: (x ++ 10 :: r)) = false := by simp [List.isPrefixOf, h.1]
    rw [List.cons_append, Lib.index, hp, ih]
    simp
theorem cut_nl {x r : List UInt8} (h : (10 : UInt8) ∉ x) : Lib.cut (x ++ 10 :: r) [10] = (x, r, true) := by
  unfold Lib.cut
  rw [index_nl r h, if_pos (by omega)]
  have e : ((x.length : Int).toNat) = x.length := by omega
  rw [e]
  simp
theorem split_nl : ∀ {xs : List UInt8}, (10 : UInt8) ∈ xs → ∃ u t, xs = u ++ 10 :: t ∧ (10 : UInt8) ∉ u
  | [], h => by simp at h
  | c :: xs, h => by
    by_cases e : c = 10
    · exact ⟨[], xs, by rw [e]; rfl, by simp⟩
    · have h1 : (10 : UInt8) ∈ xs := by
        rcases List.mem_cons.1 h with h | h
        · exact absurd h.symm e
        · exact h
      obtain ⟨u, t, rfl, h3⟩ := split_nl h1
      exact ⟨c :: u, t, rfl, by simp [h3, Ne.symm e]⟩
theorem index_no : ∀ {xs : List UInt8}, (10 : UInt8) ∉ xs → Lib.index xs [10] = -1
  | [], _ => rfl
  | b :: x, h => by
    simp only [List.mem_cons, not_or] at h
    have ih := index_no (xs := x) h.2
    have hp : ([10] : List UInt8).isPrefixOf (b :: x) = false := by simp [List.isPrefixOf, h.1]
    rw [Lib.index, hp, ih]
    simp
theorem cut_no {xs : List UInt8} (h : (10 : UInt8) ∉ xs) : Lib.cut xs [10] = (xs, [], false) := by
  unfold Lib.cut
  rw [index_no h, if_neg (by omega)]
theorem ib_nl (r : List UInt8) : ∀ {x : List UInt8}, (10 : UInt8) ∉ x → Lib.indexByte (x ++ 10 :: r) 10 = (x.length : Int)
  | [], _ => by rw [List.nil_append, Lib.indexByte]; simp
  | b :: x, h => by
    simp only [List.mem_cons, not_or] at h
    have ih := ib_nl r (x := x) h.2
    rw [List.cons_append, Lib.indexByte, ih, if_neg (by simpa using Ne.symm h.1), if_neg (by simp)]
    simp
/-- The width that Parse begins with. -/
def pW (xs : List UInt8) : Nat := (if 0 < Lib.indexByte xs 10 then Lib.indexByte xs 10 else 0).toNat
theorem pW_head {xs : List UInt8} {ls : List (List UInt8)} (h : pA xs [] = some ls) : (ls.headD []).length = pW xs := by
  by_cases h10 : (10 : UInt8) ∈ xs
  · obtain ⟨u, t, rfl, h3⟩ := split_nl h10
    rw [pA_nl _ _ _ h3] at h
    obtain ⟨a, _, rfl⟩ := Option.map_eq_some_iff.1 h
    unfold pW
    rw [ib_nl _ h3]
    simp only [List.nil_append, List.headD_cons]
    split <;> omega
  · rw [pA_no _ _ h10] at h
    split at h
    · rename_i e
      simp only [List.nil_append] at e
      cases h
      rw [e]; rfl
    · cases h
/-- What Parse returns. -/
def RetP (w0 : World) (R : Option (Nat × List (List Ho))) (e : Ending) (w' : World) : Prop := Ext w0 w' ∧ match R with
  | some (W, rows) => ∃ v, e = .returned (.tuple #[.agg #[.int .i64 (W : Int), v], .int .i64 0]) ∧ HR w' v rows.length rows
  | none => e = .returned (.tuple #[.agg #[.int .i64 0, .slice Option.none 0 0], .int .i64 4])
/-- The lace that is being read: its block M. -/
def LMU (B wr : World) (W : Int) (M : Nat) (vl : Value) (rows : List (List Ho)) : Prop := HCU B wr vl rows ∧ B2 wr M (.int .i64 W) vl 24
def slen : Value → Nat
  | .string s => s.size
  | _ => 0
theorem data_size (s : ByteArray) : s.size = s.data.toList.length := by rw [Array.length_toList]; rfl
theorem Reverse0_calls (a : Option Addr) (c : Nat) (w : World) : Calls Tryd.prog 53 #[.slice a 0 c] w fun e w' => e = .returned (.tuple #[]) ∧ w = w' := by
  go_enter Tryd.func53, Tryd.ntmps53
  go_wp2
  go_loopw [2, 3] (fun i j wr => i = .int .i64 0 ∧ j = .int .i64 (-1) ∧ Hid (w = wr)) (fun i _ _ => 0)
  case atStart => exact ⟨rfl, rfl, Lib.hid rfl⟩
  case round =>
    obtain ⟨rfl, rfl, H⟩ := hrel
    go_wp2
    go_end0
    exact ⟨rfl, H.out⟩
set_option maxHeartbeats 16000000 in
theorem Parse_calls (s : ByteArray) (w : World) (hs : s.size ≤ 100000) (hm : Mx w) :
    Calls Tryd.prog 33 #[.string s] w (RetP w (pR s.data.toList)) := by
  obtain ⟨xs, hxs⟩ : ∃ xs, xs = s.data.toList := ⟨_, rfl⟩
  have hsll : xs.length ≤ 100000 := by rw [hxs, ← data_size]; exact hs
  rw [← hxs]
  obtain ⟨PR, hPR⟩ : ∃ PR, PR = pR xs := ⟨_, rfl⟩
  rw [← hPR]
  obtain ⟨W0, hW0⟩ : ∃ W0, W0 = pW xs := ⟨_, rfl⟩
  obtain ⟨B, hB⟩ : ∃ B, B = w.alloc (.cells #[.int .i64 0, .slice none 0 0] 24) := ⟨_, rfl⟩
  have xB : Ext w B := by rw [hB]; exact (Ext.refl w).alloc _
  have hB4 : B2 B w.heap.size (.int .i64 0) (.slice none 0 0) 24 := by rw [hB]; exact B2.new _ _ _ _
  have hib := Tryd.strings_IndexByte s 10 B
  rw [← hxs, show (10 : Int).toNat.toUInt8 = 10 by rfl] at hib
  obtain ⟨ib, hibe⟩ : ∃ ib, ib = Lib.indexByte xs 10 := ⟨_, rfl⟩
  rw [← hibe] at hib
  have hmax : max 0 ib = (W0 : Int) := by
    rw [hW0]; unfold pW; rw [← hibe]; split <;> omega
  have HIb := Lib.hid hib; have HB := Lib.hid hB; have XB := Lib.hid xB; have HR4 := Lib.hid (fun w' (x : Ext B w') => hB4.ext x)
  have HBs := Lib.hid (show B.heap.size = w.heap.size + 1 by rw [hB]; simp)
  have HPR := Lib.hid hPR; have HW0 := Lib.hid hW0; have Hxs := Lib.hid hxs; have HM := Lib.hid hm
  have HBad := Lib.hid (fun (wr : World) (x : Ext B wr) (h : PR = none) => show RetP w PR (.returned (.tuple #[.agg #[.int .i64 0, .slice none 0 0], .int .i64 4])) ((wr.setCell ⟨w.heap.size, 0, none⟩ (.int .i64 0)).setCell ⟨w.heap.size, 0 + 1, none⟩ (.slice none 0 0)) from by
    rw [h]
    exact ⟨((xB.trans x).setCell (Nat.le_refl _) _).setCell (Nat.le_refl _) _, rfl⟩)
  clear hib hB xB hB4 hibe hPR hW0 hxs hm hs
  go_enter Tryd.func33, Tryd.ntmps33
  go_wp2_with fail
  rw [← HB.out]
  refine HIb.out.mono ?_
  rintro e w1 ⟨rfl, rfl⟩
  clear HIb
  obtain ⟨W1, hW1⟩ : ∃ W1, W1 = w1.alloc (.cells #[.int .i64 (W0 : Int), .slice none 0 0] 24) := ⟨_, rfl⟩
  have hLM : LMU w1 W1 W0 w1.heap.size (.slice none 0 0) [] := by
    rw [hW1]; exact ⟨HCU.nil ((Ext.refl _).alloc _), B2.new _ _ _ _⟩
  have HLM0 := Lib.hid hLM; have HW1 := Lib.hid hW1
  clear hW1 hLM
  go_wp2
  rw [← HW1.out]
  have HG := Lib.hid (show w.heap.size < w1.heap.size by have := HBs.out; omega)
  go_loopw [0, 5, 6, 7, 8, 9] (fun sv _ _ _ _ _ wr => ∃ (sk : ByteArray) (al : Option Addr) (nl cl : Nat) (d : List (List UInt8)), sv = .string sk ∧ sk.size + d.length ≤ 100000 ∧ Hid (LMU w1 wr W0 w1.heap.size (.slice al nl cl) (d.map hsl)) ∧ Hid (pA xs [] = (pA sk.data.toList []).map (d ++ ·)) ∧ Hid (d.all (okL W0) = true)) (fun sv _ _ _ _ _ _ => slen sv)
  case atStart => exact ⟨s, none, 0, 0, [], rfl, by rw [data_size, ← Hxs.out]; simpa using hsll, HLM0, Lib.hid (by rw [← Hxs.out]; cases pA xs [] <;> rfl), Lib.hid rfl⟩
  case round =>
    obtain ⟨sk, al, nl, cl, d, rfl, hsd, HL, HP, HD⟩ := hrel
    by_cases hsk : sk.data.toList = []
    case neg =>
      have hne : sk ≠ { data := #[] } := fun e => hsk (by rw [e])
      have hnb := str_nonempty (a := sk) (by
        rw [data_size]; exact Nat.pos_of_ne_zero (fun h => hsk (List.eq_nil_of_length_eq_zero h)))
      obtain ⟨mm, hmm⟩ := HM.out.ext (XB.out.trans HL.out.1.1)
      have hcut := Tryd.strings_Cut sk { data := #[10] } mm wr (by omega) hmm
      rw [show ({ data := #[10] } : ByteArray).data.toList = [10] from rfl] at hcut
      have hcl : ∃ (J T : ByteArray) (f : Bool), (Calls Tryd.prog 52 #[.string sk, .string { data := #[10] }] wr fun e w' => e = .returned (.tuple #[.string J, .string T, .bool f]) ∧ ∃ n, w' = wr.drewN n) ∧ J.size ≤ sk.size ∧
          ((f = false ∧ PR = none) ∨ (f = true ∧ T.size + 1 ≤ sk.size ∧ pA sk.data.toList [] = (pA T.data.toList []).map (J.data.toList :: ·))) := by
        by_cases h10 : (10 : UInt8) ∈ sk.data.toList
        · obtain ⟨u, t, e, hu⟩ := split_nl h10
          rw [e, cut_nl hu] at hcut
          refine ⟨⟨u.toArray⟩, ⟨t.toArray⟩, true, hcut, ?_, .inr ⟨rfl, ?_, ?_⟩⟩
          · rw [data_size, data_size sk, e]; simp
          · rw [data_size, data_size sk, e]; simp
          · rw [e, pA_nl _ _ _ hu]; rfl
        · rw [cut_no h10] at hcut
          refine ⟨_, _, false, hcut, ?_, .inl ⟨rfl, ?_⟩⟩
          · show sk.data.toList.toArray.size ≤ sk.data.size
            rw [List.size_toArray, Array.length_toList]; exact Nat.le_refl _
          · rw [HPR.out]
            refine pR_none ?_
            rw [HP.out, pA_no _ _ h10, List.nil_append, if_neg hsk]; rfl
      obtain ⟨J, T, f, hcut2, hJs, hcs⟩ := hcl
      have hrd := fun w' => read_calls J w' (by omega)
      rw [bts_bi] at hrd
      have HRd := Lib.hid hrd; have HCut := Lib.hid hcut2; have HCs := Lib.hid hcs
      clear hsk hne hmm hcut hcut2 hrd hcs
      go_wp2_with fail
      refine HCut.out.mono ?_
      rintro e w2 ⟨rfl, nq, rfl⟩
      clear HCut
      go_wp2_with fail
      refine (HRd.out _).mono ?_
      rintro e w3 ⟨x3, vr, hrs, hrn⟩
      have X3 := Lib.hid (((Ext.refl wr).drewN nq).trans x3)
      have HL3c := Lib.hid (HL.out.1.later X3.out); have HL3b := Lib.hid (HL.out.2.ext X3.out)
      have XR := Lib.hid HL3c.out.1
      have r4 := HR4.out w3 XR.out
      have c4 := r4.c0; have c5 := r4.c1; have f4 := r4.f0; have f5 := r4.f1
      have c6 := (r4.set2 (.int .i64 0) (.slice none 0 0)).c0; have c7 := (r4.set2 (.int .i64 0) (.slice none 0 0)).c1
      have HF := Lib.hid (HBad.out w3 XR.out)
      have q0 := HL3b.out.c0; have q1 := HL3b.out.c1; have g1 := HL3b.out.f1
      clear x3 HRd r4
      rcases HCs.out with ⟨rfl, hPR⟩ | ⟨rfl, hT, hPA⟩
      · have HF2 := Lib.hid (HF.out hPR)
        have he : ∃ ok, e = .returned (.tuple #[vr, .bool ok]) := by
          rcases hh : rdL 0 (bi J.data.toList) with _ | r
          · exact ⟨_, hrn hh⟩
          · exact ⟨_, (hrs r hh).1⟩
        obtain ⟨ok, rfl⟩ := he
        clear hPR HCs hrs hrn HF
        go_wp2
        exact bodyPost_ret (v := .tuple #[.agg #[.int .i64 0, .slice none 0 0], .int .i64 4]) (by simp [results, Tryd.results33, go_sem, c6, c7]) rfl HF2.out
      · rcases hh : rdL 0 (bi J.data.toList) with _ | r
        · have hbad := pR_bad HP.out hPA (fun ls h => (pW_head h).trans HW0.out.symm) (by unfold okL; rw [hh]; rfl)
          have HF2 := Lib.hid (HF.out (HPR.out.trans hbad))
          obtain rfl := hrn hh
          clear hbad hh HCs hrs hrn HF hPA
          go_wp2
          exact bodyPost_ret (v := .tuple #[.agg #[.int .i64 0, .slice none 0 0], .int .i64 4]) (by simp [results, Tryd.results33, go_sem, c6, c7]) rfl HF2.out
        · obtain ⟨rfl, hvr⟩ := hrs r hh
          by_cases hJW : J.size = W0
          case neg =>
            have tw : ((J.size : Int) != (W0 : Int)) = true := bne_iff_ne.2 (by omega)
            have hbad := pR_bad HP.out hPA (fun ls h => (pW_head h).trans HW0.out.symm) (by unfold okL; rw [hh, ← data_size]; simp [hJW])
            have HF2 := Lib.hid (HF.out (HPR.out.trans hbad))
            clear hbad hh HCs hrs hrn HF hPA hJW hvr
            go_wp2
            exact bodyPost_ret (v := .tuple #[.agg #[.int .i64 0, .slice none 0 0], .int .i64 4]) (by simp [results, Tryd.results33, go_sem, c6, c7]) rfl HF2.out
          have tw : ((J.size : Int) != (W0 : Int)) = false := by rw [hJW]; exact bne_self_eq_false _
          have HP2 := Lib.hid (show pA xs [] = (pA T.data.toList []).map ((d ++ [J.data.toList]) ++ ·) from by
            rw [HP.out, hPA]; cases pA T.data.toList [] <;> simp)
          have HD2 := Lib.hid (show (d ++ [J.data.toList]).all (okL W0) = true from by
            rw [List.all_append, HD.out, Bool.true_and, List.all_cons, List.all_nil, Bool.and_true]
            unfold okL; rw [hh, ← data_size]; simp [hJW])
          have hhr : hsl J.data.toList = r := by unfold hsl; rw [hh]; rfl
          have HHr := Lib.hid (show (d ++ [J.data.toList]).map hsl = d.map hsl ++ [r] from by rw [List.map_append]; simp [hhr])
          have HVr := Lib.hid hvr
          have hlen : (d.map hsl).length ≤ 100000 := by rw [List.length_map]; omega
          obtain ⟨ar, nr, cr, rfl, hnr⟩ := hvr.form
          clear hnr hhr hh hrs hrn HF hPA hJW hvr c4 c5 c6 c7 f4 f5 HCs
          go_wp2_with (at_builtin; go_loud (refine app_hou rfl _ _ rfl w1 _ (d.map hsl) rfl HL3c.out _ _ HVr.out w3.heap.size rfl rfl hlen ?_))
          intro v' w' hco' hkeep
          have hm' := (by first | exact hkeep _ _ _ _ HL3b.out (by decide) | exact hkeep _ _ _ _ _ HL3b.out (by decide) : w'.heap[w1.heap.size]? = some (.cells #[.int .i64 (W0 : Int), .slice al nl cl] 24 (0, 0)))
          have hm9 : B2 w' w1.heap.size (.int .i64 (W0 : Int)) (.slice al nl cl) 24 := hm'
          have hc1 := hm9.c1; have hf9 := hm9.f1
          have HN := Lib.hid (show LMU w1 (w'.setCell ⟨w1.heap.size, 1, none⟩ v') W0 w1.heap.size v' ((d ++ [J.data.toList]).map hsl) from by
            rw [HHr.out]
            exact ⟨hco'.setOther (a := ⟨w1.heap.size, 1, none⟩) hm9 (by decide) (by decide) (Nat.le_refl _), hm9.set1⟩)
          obtain ⟨a2, n2, c2', rfl, hn2⟩ := hco'.form
          clear hco' hkeep hm' hm9 hn2 q0 q1 g1
          go_wp2
          go_roundw
          case rel => exact ⟨T, _, _, _, d ++ [J.data.toList], rfl, by simp; omega, HN, HP2, HD2⟩
          case measure => simp [slen]; omega
    · have hse : sk.toList = [] := by rw [ByteArray.toList_eq]; exact hsk
      have hp := HP.out
      rw [hsk] at hp
      have hpd : pA xs [] = some d := by rw [hp]; simp [pA]
      have hPR := pR_some hpd ((pW_head hpd).trans HW0.out.symm) HD.out
      rw [← HPR.out] at hPR
      have Hpr := Lib.hid hPR
      have XR := Lib.hid HL.out.1.1
      have q0 := HL.out.2.c0; have q1 := HL.out.2.c1
      clear hp hpd hPR hsk
      by_cases hd0 : d = []
      · subst hd0
        obtain ⟨cx, hrx⟩ := HL.out.1.rr
        obtain ⟨an, nn, cn, hform, hnn⟩ := HL.out.1.form
        simp only [Value.slice.injEq] at hform
        obtain ⟨rfl, rfl, rfl⟩ := hform
        obtain rfl : nl = 0 := by rw [hnn]; rfl
        have hck := LCheck_calls W0 _ _ _ wr hrx
        have hne : lchk (W0 : Int) ([] : List (List Ho)) ≠ 0 := by unfold lchk; split <;> simp
        have hne2 : (lchk (W0 : Int) ([] : List (List Ho)) != 0) = true := bne_iff_ne.2 hne
        have hno : PR = none := by rw [Hpr.out]; exact if_neg hne
        have HCk := Lib.hid hck
        have HF2 := Lib.hid (fun wx (x : Ext w1 wx) => HBad.out wx x hno)
        clear hck hnn hno hne hrx
        go_wp2_with fail
        refine (Reverse0_calls _ _ _).mono ?_
        rintro e w5 ⟨rfl, rfl⟩
        go_wp2_with fail
        refine HCk.out.mono ?_
        rintro e w6 ⟨rfl, x6⟩
        have X6 := Lib.hid (XR.out.trans x6)
        have r4 := HR4.out w6 X6.out
        have c4 := r4.c0; have c5 := r4.c1; have f4 := r4.f0; have f5 := r4.f1
        have c6 := (r4.set2 (.int .i64 0) (.slice none 0 0)).c0; have c7 := (r4.set2 (.int .i64 0) (.slice none 0 0)).c1
        have HF3 := Lib.hid (HF2.out w6 X6.out)
        obtain ⟨E, hE⟩ : ∃ E, E = lchk (W0 : Int) ([] : List (List Ho)) := ⟨_, rfl⟩
        simp only [List.map_nil]
        rw [← hE] at hne2 ⊢
        clear x6 r4 hE q0 q1
        go_wp2
        exact bodyPost_ret (v := .tuple #[.agg #[.int .i64 0, .slice none 0 0], .int .i64 4]) (by simp [results, Tryd.results33, go_sem, c6, c7]) rfl HF3.out
      · have hdl : 0 < (d.map hsl).length := by rw [List.length_map]; exact Nat.pos_of_ne_zero (fun h => hd0 (List.eq_nil_of_length_eq_zero h))
        obtain ⟨hn, hnc, hcm, qq, f, rfl, hq, hrow, hrv⟩ := HL.out.1.lies hdl
        have hn1 : nl ≤ 100000 := by rw [hn, List.length_map]; omega
        have hqM : qq ≠ w1.heap.size := fun e => by
          obtain ⟨cur, hcur, _⟩ := hrow
          have h2 : wr.heap[w1.heap.size]? = _ := HL.out.2
          rw [e, h2] at hcur
          simp only [Option.some.injEq, Obj.cells.injEq] at hcur
          exact absurd hcur.2.1 (by decide)
        have hrev := Reverse_calls qq nl cl f wr hrow hnc (by omega) (fun j hj => by
          obtain ⟨a, m, d, h1, _⟩ := (hrv j hj).form
          exact ⟨a, m, d, h1⟩)
        have HRev := Lib.hid hrev; have HRow := Lib.hid hrow; have HRv := Lib.hid hrv; have Hn := Lib.hid hn; have Hnc := Lib.hid hnc; have Hcm := Lib.hid hcm; have Hq := Lib.hid hq; have HqM := Lib.hid hqM
        clear hrev hrow hrv hn hcm hq hqM hd0 hdl
        go_wp2_with fail
        refine HRev.out.mono ?_
        rintro e w5 ⟨rfl, hbut, f', hrow', hf'⟩
        have X5 := Lib.hid (hbut.ext XR.out Hq.out)
        have hM5 : B2 w5 w1.heap.size (.int .i64 (W0 : Int)) (.slice (some ⟨qq, 0, none⟩) nl cl) 24 := by
          have hlt := lt_of_block (show wr.heap[w1.heap.size]? = _ from HL.out.2)
          exact (hbut.2.2.2.2 _ hlt (fun e => HqM.out e.symm)).trans HL.out.2
        have HM5 := Lib.hid hM5; have HRw5 := Lib.hid hrow'; have Hf' := Lib.hid hf'; have HRv5 := Lib.hid (fun i hi => (HRv.out i hi).but hbut HRow.out)
        have hrr := HR.turned Hn.out Hnc.out (Nat.le_refl _) Hcm.out hrow' hf' HRv5.out
        have hck := LCheck_calls W0 _ _ _ w5 hrr
        have hpe : (d.map hsl).reverse = pRw d := rfl
        rw [hpe] at hck
        have HCk := Lib.hid hck
        replace q0 := hM5.c0; replace q1 := hM5.c1
        clear hbut hrow' hf' HRev hM5 hrr hck hpe
        go_wp2_with fail
        refine HCk.out.mono ?_
        rintro e w9 ⟨rfl, x9⟩
        have X9 := Lib.hid (X5.out.trans x9); have Y9 := Lib.hid x9
        have hM9 := HM5.out.ext x9
        have r4 := HR4.out w9 X9.out
        have HM9 := Lib.hid hM9; have HRr := Lib.hid r4
        clear x9 HCk q0 q1
        by_cases hE : lchk (W0 : Int) (pRw d) = 0
        case neg =>
          have hne2 : (lchk (W0 : Int) (pRw d) != 0) = true := bne_iff_ne.2 hE
          have hno : PR = none := by rw [Hpr.out]; exact if_neg hE
          have HF3 := Lib.hid (HBad.out w9 X9.out hno)
          have c4 := r4.c0; have c5 := r4.c1; have f4 := r4.f0; have f5 := r4.f1
          have c6 := (r4.set2 (.int .i64 0) (.slice none 0 0)).c0; have c7 := (r4.set2 (.int .i64 0) (.slice none 0 0)).c1
          obtain ⟨E, hEE⟩ : ∃ E, E = lchk (W0 : Int) (pRw d) := ⟨_, rfl⟩
          rw [← hEE] at hne2 ⊢
          clear hE hno r4 hM9 hEE
          go_wp2
          exact bodyPost_ret (v := .tuple #[.agg #[.int .i64 0, .slice none 0 0], .int .i64 4]) (by simp [results, Tryd.results33, go_sem, c6, c7]) rfl HF3.out
        rw [hE]
        have hso : PR = some (W0, pRw d) := by rw [Hpr.out]; exact if_pos hE
        have Hso := Lib.hid hso
        have q1 := hM9.c1; have f1 := hM9.f1
        clear hE hso r4 hM9
        go_wp2_with fail
        refine (Clip_calls _ nl cl w9 Hnc.out (fun x hx => by cases hx; rfl) (fun h => by cases h)).mono ?_
        rintro e w6 ⟨rfl, rfl⟩
        have hRM : w.heap.size ≠ w1.heap.size := by have := HG.out; omega
        obtain ⟨wA, hwA⟩ : ∃ wA, wA = w9.setCell ⟨w1.heap.size, 1, none⟩ (.slice (some ⟨qq, 0, none⟩) nl nl) := ⟨_, rfl⟩
        have hMA : B2 wA w1.heap.size (.int .i64 (W0 : Int)) (.slice (some ⟨qq, 0, none⟩) nl nl) 24 := by rw [hwA]; exact HM9.out.set1
        have hRA : B2 wA w.heap.size (.int .i64 0) (.slice none 0 0) 24 := by
          rw [hwA]; exact (Deep.blk_setCell_other _ _ _ _ hRM).trans HRr.out
        have a0 := hMA.c0; have a1 := hMA.c1
        have c4 := hRA.c0; have c5 := hRA.c1; have f4 := hRA.f0; have f5 := hRA.f1
        have c6 := (hRA.set2 (.int .i64 (W0 : Int)) (.slice (some ⟨qq, 0, none⟩) nl nl)).c0; have c7 := (hRA.set2 (.int .i64 (W0 : Int)) (.slice (some ⟨qq, 0, none⟩) nl nl)).c1
        have HF := Lib.hid (show RetP w PR (.returned (.tuple #[.agg #[.int .i64 (W0 : Int), .slice (some ⟨qq, 0, none⟩) nl nl], .int .i64 0])) ((wA.setCell ⟨w.heap.size, 0, none⟩ (.int .i64 (W0 : Int))).setCell ⟨w.heap.size, 0 + 1, none⟩ (.slice (some ⟨qq, 0, none⟩) nl nl)) from by
          rw [Hso.out]
          have hqb : w1.heap.size ≤ qq := Hq.out
          have hg := HG.out
          have xA : Ext w wA := by rw [hwA]; exact (XB.out.trans X9.out).setCell (by show w.heap.size ≤ w1.heap.size; omega) _
          refine ⟨(xA.setCell (Nat.le_refl _) _).setCell (Nat.le_refl _) _, _, rfl, ?_⟩
          have hr1 : wA.rowIs qq 37 cl f' := by rw [hwA]; exact (Y9.out.row HRw5.out).setOther (a := ⟨w1.heap.size, 1, none⟩) (by simpa using HqM.out) _
          have hu1 : ∀ i, i < nl → HU wA (f i) (ow (d.map hsl) i) := fun i hi => by rw [hwA]; exact ((HRv5.out i hi).ext Y9.out).setOther (a := ⟨w1.heap.size, 1, none⟩) HM9.out (by decide)
          have hne : qq ≠ w.heap.size := by omega
          have h2 := ((hr1.setOther (a := ⟨w.heap.size, 0, none⟩) (by simpa using hne) (.int .i64 (W0 : Int))).setOther (a := ⟨w.heap.size, 0 + 1, none⟩) (by simpa using hne) (.slice (some ⟨qq, 0, none⟩) nl nl))
          have h3 := HR.turned (rows := d.map hsl) Hn.out (Nat.le_refl nl) Hnc.out Hcm.out h2 Hf'.out (fun i hi => ((hu1 i hi).setOther (a := ⟨w.heap.size, 0, none⟩) hRA (by decide)).setOther (a := ⟨w.heap.size, 0 + 1, none⟩) (show (wA.setCell ⟨w.heap.size, 0, none⟩ (.int .i64 (W0 : Int))).heap[w.heap.size]? = _ from B2.set0 (u := .int .i64 (W0 : Int)) hRA) (by decide))
          have hl : (pRw d).length = nl := by rw [pRw_len, Hn.out, List.length_map]
          rw [hl]; exact h3)
        rw [hwA] at a0 a1 c4 c5 f4 f5 c6 c7 HF
        clear hMA hRA hwA hRM
        go_wp2
        exact bodyPost_ret (v := .tuple #[.agg #[.int .i64 (W0 : Int), .slice (some ⟨qq, 0, none⟩) nl nl], .int .i64 0]) (by simp [results, Tryd.results33, go_sem, c6, c7]) rfl HF.out
end Go.Proofs.YthllbcjglcplhaaDoor
/- ganseyref20.Text. -/
namespace Go.Proofs.YthllbcjglcplhaaDoor
set_option linter.unusedVariables false
set_option linter.unusedSimpArgs false
set_option maxRecDepth 8000
open Go Go.RowKit

set_option maxHeartbeats 4000000 in
theorem RText20_calls (W : Nat) (v : Value) (c : Nat) (rows : List (List Ho)) (w : World) (h : HR w v c rows) (hk : lchk W rows = 0) :
    Calls Tryd.prog 32 #[.agg #[.int .i64 (W : Int), v]] w fun e w' => e = .returned (.string (bstr (ltx W rows))) ∧ Ext w w' := by
  obtain ⟨z1, z2, z3, z4, z5⟩ := lchk_zero hk
  have hl : ltx W rows = rT W rows rows.length := by unfold ltx; rw [if_pos hk, Int.toNat_natCast]
  rw [hl]
  obtain ⟨ao, N, rfl, hn, hc, hcm, hat⟩ := h.open
  unfold maxLen at hcm
  obtain ⟨B, hB⟩ : ∃ B, B = w.alloc (.cells #[.int .i64 (W : Int), .slice ao N c] 24) := ⟨_, rfl⟩
  have xB : Ext w B := by rw [hB]; exact (Ext.refl w).alloc _
  have hB1 := B2.new w (.int .i64 (W : Int)) (.slice ao N c) 24
  rw [← hB] at hB1
  have HA := Lib.hid hat; have Hn := Lib.hid hn; have XB := Lib.hid xB; have HB := Lib.hid hB; have HB1 := Lib.hid hB1; have Z5 := Lib.hid z5
  have hN : N ≤ 31 := by omega
  have hW : W ≤ 16 := by omega
  clear hat hn xB hB hB1 h hl hk z1 z2 z3 z4 z5
  go_enter Tryd.func32, Tryd.ntmps32
  go_wp2
  rw [← HB.out]
  go_loopw [3, 4, 5, 6] (fun out i _ _ wr => ∃ k : Nat, k ≤ N ∧ i = .int .i64 k ∧ out = .string (bstr (rT W rows k)) ∧ Hid (Ext B wr)) (fun _ i _ _ _ => N - (intOf i).toNat)
  case atStart => exact ⟨0, Nat.zero_le _, rfl, rfl, Lib.hid (Ext.refl _)⟩
  case round =>
    obtain ⟨k, hk, rfl, rfl, HX⟩ := hrel
    have q0_1 := (HB1.out.ext HX.out).c0; have q0_2 := (HB1.out.ext HX.out).c1
    by_cases hlt : k < N
    · have t1 : (k : Int) < N := by omega
      have t1' : (0 : Int) ≤ k := by omega
      obtain ⟨b, o, a, m, d, rfl, g1, g2⟩ := HA.out k hlt
      have q0_3 := (XB.out.trans HX.out).cell g1
      have hre := Z5.out k (by rw [← Hn.out]; exact hlt)
      have hrow := fun w' (x : Ext w w') => RRow20_calls _ _ W (ow rows k) w' (g2.ext x) (by omega)
      rw [show rowT1 W (ow rows k) = sgn W (ow rows k) by unfold rowT1; rw [if_pos hre], show rowN W (ow rows k) = 1 by unfold rowN; rw [if_pos hre]] at hrow
      have HRow := Lib.hid hrow
      have HSt := Lib.hid (show bstr (sgn W (ow rows k)) ++ { data := #[10] } ++ bstr (rT W rows k) = bstr (rT W rows (k + 1)) from by
        rw [rT, ← bstr_app, ← bstr_app]; rfl)
      have s1 : (bstr (sgn W (ow rows k))).size = W := by rw [bstr_size, sgn_len]
      have s2 : (bstr (rT W rows k)).size = (W + 1) * k := by rw [bstr_size, rT_len]
      have s3 : (bstr (sgn W (ow rows k)) ++ { data := #[10] }).size = W + 1 := by rw [ByteArray.size_append, s1]; rfl
      have s4 : (W + 1) * k ≤ 17 * 31 := Nat.mul_le_mul (by omega) (by omega)
      have t3 : ¬ 9223372036854775807 < (bstr (sgn W (ow rows k))).size + 1 := by omega
      have t4 : ¬ 9223372036854775807 < (bstr (sgn W (ow rows k)) ++ { data := #[10] }).size + (bstr (rT W rows k)).size := by omega
      obtain ⟨S, hS⟩ : ∃ S, S = bstr (sgn W (ow rows k)) := ⟨_, rfl⟩
      obtain ⟨O, hO⟩ : ∃ O, O = bstr (rT W rows k) := ⟨_, rfl⟩
      rw [← hS] at HRow HSt t3 t4; rw [← hO] at HSt t4 ⊢
      have Xw := Lib.hid (XB.out.trans HX.out)
      clear g1 g2 hre hrow s1 s2 s3 s4 hS hO
      go_wp2
      go_region_held3 (fun w' => w'.cell? ⟨w.heap.size, 0, Option.none⟩ = some (.int .i64 (W : Int)) ∧ w'.cell? ⟨w.heap.size, 1, Option.none⟩ = some (.slice (some ⟨b, o, Option.none⟩) N c) ∧ w'.cell? ⟨b, o + k, Option.none⟩ = some (.slice a m d)) (first | (with_reducible exact ⟨q0_1, q0_2, q0_3⟩) | (with_reducible exact ⟨q1_1, q1_2, q1_3⟩) | go_keep) (first
        | (go_at_call 24; (refine (HRow.out _ (Xw.out.trans ?_)).mono ?_); (focus (repeat (first | (with_reducible exact Ext.refl _) | (with_reducible apply Ext.drew) | (with_reducible apply Ext.drewN) | (with_reducible apply Ext.alloc)))); intro e wa hh; obtain ⟨rfl, x⟩ := hh; have Xa : Hid (Ext wr wa) := Lib.hid (Ext.trans (by ((repeat (first | (with_reducible exact Ext.refl _) | (with_reducible apply Ext.drew) | (with_reducible apply Ext.drewN) | (with_reducible apply Ext.alloc))); done)) x); have q1_1 := Xa.out.cell q0_1; have q1_2 := Xa.out.cell q0_2; have q1_3 := Xa.out.cell q0_3; clear x))
      clear q0_1 q0_2 q0_3 q1_1 q1_2 q1_3
      go_wp2
      go_roundw
      case rel => exact ⟨k + 1, by omega, by go_num, by rw [← HSt.out], Lib.hid (HX.out.trans Xa.out)⟩
      case measure => simp [intOf]; omega
    · obtain rfl : k = N := by omega
      have t1 : ¬ (k : Int) < k := by omega
      go_wp2
      go_ret
      exact ⟨by rw [← Hn.out]; rfl, XB.out.trans HX.out⟩
end Go.Proofs.YthllbcjglcplhaaDoor
/- A row that is put ahead of the others; reading a text line by line. -/
namespace Go.Proofs.YthllbcjglcplhaaDoor
set_option linter.unusedVariables false
set_option linter.unusedSimpArgs false
set_option maxRecDepth 8000
open Go Go.RowKit

/-- 'o.Rows = append([][]Hole{h}, o.Rows...)'. -/
theorem app_pre {w : World} {ops : Array Oper} {rest : List Oper} {o : Oper} {a : Act} {Q : Exit → Act → World → Prop}
    (hg : o.guard = Option.none) (s x : Operand) (hop : o.op = Op.call { callee := Callee.builtin Builtin.append, args := #[s, x], argTypes := #[22, 22] })
    (wb : World) (v : Value) (rows : List (List Ho)) (hx : a.eval x = v) (hco : HC wb w v rows) (u : Value) (l : List Ho) (hu : HV w u l)
    (g : Nat) (hs : a.eval s = .slice (some ⟨g, 0, Option.none⟩) 1 1) (hgw : g = w.heap.size) (hlen : rows.length ≤ 100000)
    (hK : ∀ v' w', HC wb w' v' (l :: rows) → (∀ (b : Nat) (cs : Array Value) (t : TypeId) (q : Nat × Nat), w.heap[b]? = some (Obj.cells cs t q) → t ≠ 37 → w'.heap[b]? = some (Obj.cells cs t q)) → wpList Tryd.prog ops Q rest (a.put o.dst v') w') :
    wpList Tryd.prog ops Q (o :: rest) a (w.alloc (.cells #[u] 37)) := by
  obtain ⟨h1, vs, h2, h3⟩ := hco
  subst hgw
  have hvl : vs.length = rows.length := by have := h2.1; omega
  have h1u : ∀ y ∈ vs, y.oneCell' = true := by
    intro y hy
    obtain ⟨i, hi, rfl⟩ := List.mem_iff_getElem.1 hy
    obtain ⟨u', e, hu'⟩ := h3 i (by omega)
    rw [List.getElem?_eq_getElem hi] at e
    cases e
    obtain ⟨a', n', c', e, _⟩ := hu'.form
    rw [e]; rfl
  have xa : Ext w (w.alloc (.cells #[u] 37)) := (Ext.refl w).alloc _
  have hlit := World.ownsRow_lit (base := wb.heap.size) (e := 37) (size := 1) w #[u] 1 h1.size (by unfold maxLen; omega) rfl
  obtain ⟨c, hvs⟩ := VS.of_own (own_ext h2 xa)
  refine app_own_g eiHows hg s x hop wb.heap.size _ 1 [u] hs hlit v c vs hx hvs h1u (by omega) (by omega) (Nat.le_trans h1.size xa.size) ?_
  intro v' w' ho hgr
  have hst : 39 ≠ 37 := by decide
  refine hK v' w' ⟨?_, u :: vs, by rw [List.length_cons, ← hvl, Nat.add_comm]; exact ho, fun i hi => ?_⟩ (fun b cs t q hb ht => blk_grown hlit hgr (xa.block hb) ht)
  · refine (h1.trans xa).grown hgr fun k hk => ?_
    have : w.heap.size = k := by simpa [Value.ownBlock] using hk
    have := h1.size
    omega
  · rw [List.length_cons] at hi
    cases i with
    | zero => exact ⟨u, rfl, (hu.ext xa).grown hlit hgr hst⟩
    | succ i =>
      obtain ⟨u', a', b'⟩ := h3 i (by omega)
      exact ⟨u', a', (b'.ext xa).grown hlit hgr hst⟩
/-- The text that is read: what was found in its first k bytes, L being the line that has begun. -/
def TxR (PR : Option (Nat × List (List Ho))) (xs : List UInt8) (wb : World) (M : Nat) (bd : Bool) (L : ByteArray) (k : Nat) (wr : World) : Prop :=
  Ext wb wr ∧ ((bd = true ∧ PR = none) ∨ (bd = false ∧ ∃ (d : List (List UInt8)) (v : Value), HC wb wr v (pRw d) ∧ B2 wr M (.int .i64 ((d.headD []).length : Nat)) v 24 ∧ pA xs [] = (pA (xs.drop k) L.data.toList).map (d ++ ·) ∧ d.all (okL (d.headD []).length) = true ∧ (L.data.toList ≠ [] → xs.getD (k - 1) 0 ≠ 10) ∧ d.length ≤ k))
theorem ext1_data {s : ByteArray} {k : Nat} (h : k < s.size) : (s.extract k (k + 1)).data.toList = [s[k]'h] := by
  rw [ByteArray.data_extract, Array.toList_extract]
  have h' : k < s.data.toList.length := by rw [Array.length_toList]; exact h
  rw [List.extract_eq_take_drop, show k + 1 - k = 1 by omega, List.drop_eq_getElem_cons h', List.take_succ_cons, List.take_zero]
  rfl
theorem pRw_app (d : List (List UInt8)) (l : List UInt8) : pRw (d ++ [l]) = hsl l :: pRw d := by unfold pRw; simp
theorem drop_at {s : ByteArray} {k : Nat} (h : k < s.size) : s.data.toList.drop k = (s[k]'h) :: s.data.toList.drop (k + 1) := by
  have h' : k < s.data.toList.length := by rw [Array.length_toList]; exact h
  rw [List.drop_eq_getElem_cons h']; rfl
theorem getD_at {s : ByteArray} {k : Nat} (h : k < s.size) : s.data.toList.getD k 0 = s[k]'h := by
  have h' : k < s.data.toList.length := by rw [Array.length_toList]; exact h
  rw [List.getD_eq_getElem?_getD, List.getElem?_eq_getElem h']; rfl
theorem ba_app (a b : ByteArray) : (a ++ b).data.toList = a.data.toList ++ b.data.toList := by
  rw [ByteArray.data_append, Array.toList_append]
theorem tx_nl {xs : List UInt8} {k : Nat} {d : List (List UInt8)} {l : List UInt8} (hk : xs.drop k = 10 :: xs.drop (k + 1)) (h : pA xs [] = (pA (xs.drop k) l).map (d ++ ·)) : pA xs [] = (pA (xs.drop (k + 1)) []).map ((d ++ [l]) ++ ·) := by
  rw [h, hk, pA, if_pos rfl, Option.map_map]
  congr 1
  funext x
  simp
theorem tx_good {d : List (List UInt8)} {l : List UInt8} (ha : d.all (okL (d.headD []).length) = true) (hr : (rdL 0 (bi l)).isSome = true) (hl : d = [] ∨ l.length = (d.headD []).length) : (d ++ [l]).all (okL ((d ++ [l]).headD []).length) = true ∧ ((d ++ [l]).headD []).length = l.length := by
  cases d with
  | nil => refine ⟨?_, rfl⟩; simp [okL, hr]
  | cons a t =>
    have h2 : l.length = a.length := by
      rcases hl with h | h
      · cases h
      · exact h
    refine ⟨?_, h2.symm⟩
    rw [List.all_append, show (a :: t ++ [l]).headD [] = (a :: t).headD [] from rfl, ha]
    simp [okL, hr, h2]
theorem tx_bad {xs : List UInt8} {k : Nat} {d : List (List UInt8)} {l : List UInt8} (h : pA xs [] = (pA (xs.drop (k + 1)) []).map ((d ++ [l]) ++ ·)) (hb : rdL 0 (bi l) = none ∨ (d ≠ [] ∧ l.length ≠ (d.headD []).length)) : pR xs = none := by
  rcases hp : pA xs [] with _ | ls
  · exact pR_none hp
  · unfold pR
    rw [hp]
    rw [h] at hp
    obtain ⟨a, h2, rfl⟩ := Option.map_eq_some_iff.1 hp
    simp only
    rw [if_neg]
    rintro ⟨h6, _⟩
    rw [List.all_eq_true] at h6
    have h7 := h6 l (by simp)
    rcases hb with hb | ⟨hd, hl⟩
    · unfold okL at h7; rw [hb] at h7; simp at h7
    · have h8 := (okL_iff.1 h7).2
      apply hl
      rw [h8]
      cases d with
      | nil => exact absurd rfl hd
      | cons a t => rfl
theorem TxR.char {PR : Option (Nat × List (List Ho))} {s L : ByteArray} {wb wr : World} {M k : Nat} (h : TxR PR s.data.toList wb M false L k wr) (hk : k < s.size) (hc : (s[k]'hk) ≠ 10) : TxR PR s.data.toList wb M false (L ++ s.extract k (k + 1)) (k + 1) wr := by
  obtain ⟨x, ⟨h1, _⟩ | ⟨_, d, v, h1, h2, h3, h4, h5, h6⟩⟩ := h
  · cases h1
  · refine ⟨x, .inr ⟨rfl, d, v, h1, h2, ?_, h4, fun _ => ?_, by omega⟩⟩
    · rw [h3, drop_at hk, pA, if_neg hc, ba_app, ext1_data hk]
    · rw [Nat.add_sub_cancel, getD_at hk]; exact hc
theorem TxR.start {s : ByteArray} {wb wr : World} {M n : Nat} (hc : HC wb wr (.slice Option.none 0 0) []) (hb : B2 wr M (.int .i64 0) (.slice Option.none 0 0) 24) (b : Bool) (hs : s.size = n + 1) (hbd : b = true ↔ s.data.toList.getD n 0 ≠ 10) : TxR (pR s.data.toList) s.data.toList wb M b ⟨#[]⟩ 0 wr := by
  refine ⟨hc.1, ?_⟩
  have hlen : s.data.toList.length = n + 1 := by rw [Array.length_toList]; exact hs
  cases b with
  | true =>
    refine .inl ⟨rfl, ?_⟩
    have h1 := hbd.1 rfl
    have h2 : s.data.toList = s.data.toList.take n ++ [s.data.toList.getD n 0] := by
      have h3 : n < s.data.toList.length := by omega
      conv => lhs; rw [← List.take_append_drop n s.data.toList]
      rw [List.drop_eq_getElem_cons h3, List.drop_eq_nil_of_le (by omega), List.getD_eq_getElem?_getD, List.getElem?_eq_getElem h3]; rfl
    rw [h2]
    exact pR_none (pA_last h1 _ _)
  | false =>
    refine .inr ⟨rfl, [], .slice Option.none 0 0, hc, hb, ?_, rfl, fun h => absurd rfl h, Nat.le_refl _⟩
    rw [List.drop_zero]
    cases pA s.data.toList [] <;> rfl
/-- At the end of the text. -/
theorem TxR.done {s L : ByteArray} {wb wr : World} {M n : Nat} (hs : s.size = n + 1) (hl : s.data.toList.getD n 0 = 10) {PR : Option (Nat × List (List Ho))} (hP : PR = pR s.data.toList) (h : TxR PR s.data.toList wb M false L s.size wr) :
    ∃ (W : Nat) (v : Value) (rows : List (List Ho)), HC wb wr v rows ∧ B2 wr M (.int .i64 (W : Nat)) v 24 ∧ PR = if lchk (W : Int) rows = 0 then some (W, rows) else none := by
  obtain ⟨x, ⟨h1, _⟩ | ⟨_, d, v, h1, h2, h3, h4, h5, h6⟩⟩ := h
  · cases h1
  · refine ⟨_, v, _, h1, h2, ?_⟩
    rw [hP]
    have hL : L.data.toList = [] := Classical.byContradiction fun e => h5 e (by rw [hs, Nat.add_sub_cancel]; exact hl)
    refine pR_some ?_ rfl h4
    rw [h3, List.drop_eq_nil_of_le (by rw [Array.length_toList]; exact Nat.le_refl _), hL]
    simp [pA]
end Go.Proofs.YthllbcjglcplhaaDoor
