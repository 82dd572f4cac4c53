/- Texts of this claim in one file: libraries and walks. -/
import Derived.Deep.RegionHeld3
import Derived.Test.YtkolebjpeaigcaaDoorL2
import Derived.Test.YtkolebjpeaigcaaDoorL6
/- charts.Parse. -/
namespace Go.Proofs.YtkolebjpeaigcaaDoor
set_option linter.unusedVariables false
set_option linter.unusedSimpArgs false
set_option maxRecDepth 8000
open Go Go.RowKit

theorem RO.put {w : World} {g c : Nat} {l : List St} (h : RO w g c l) {i : Nat} (hi : i < l.length) (s : St) :
    RO (((((w.setCell ⟨g, i * 5, none⟩ (.int .u8 s.k)).setCell ⟨g, i * 5 + 1, none⟩ (.int .u8 s.y)).setCell ⟨g, i * 5 + 2, none⟩ (.int .i64 s.a)).setCell ⟨g, i * 5 + 3, none⟩ (.int .i64 s.b)).setCell ⟨g, i * 5 + 4, none⟩ (.bool s.f)) g c (l.set i s) := by
  obtain ⟨h1, h2, f, h3, h4⟩ := h
  refine ⟨by simpa using h1, h2, _, ((((h3.set (i * 5) _).set (i * 5 + 1) _).set (i * 5 + 2) _).set (i * 5 + 3) _).set (i * 5 + 4) _, fun j hj => ?_⟩
  rw [List.length_set] at hj
  rw [si_set hi]
  obtain ⟨a, b, c', d, e⟩ := h4 j hj
  by_cases hji : j = i
  · subst hji
    rw [if_pos rfl]
    refine ⟨?_, ?_, ?_, ?_, ?_⟩ <;> simp
  · rw [if_neg hji]
    refine ⟨?_, ?_, ?_, ?_, ?_⟩ <;> (simp only []; rw [if_neg (by omega), if_neg (by omega), if_neg (by omega), if_neg (by omega), if_neg (by omega)]; assumption)
theorem Ext.put5 {w w' : World} (x : Ext w w') (b o : Nat) (hb : w.heap.size ≤ b) (k y a c : Int) (f : Bool) : Ext w (((((w'.setCell ⟨b, o, none⟩ (.int .u8 k)).setCell ⟨b, o + 1, none⟩ (.int .u8 y)).setCell ⟨b, o + 2, none⟩ (.int .i64 a)).setCell ⟨b, o + 3, none⟩ (.int .i64 c)).setCell ⟨b, o + 4, none⟩ (.bool f)) := ((((x.setCell hb _).setCell hb _).setCell hb _).setCell hb _).setCell hb _

/-- The rows that were appended, as they lie. -/
theorem CO.lies {w wr : World} {a : Option Addr} {n c : Nat} {rows : List (List St)} (h : CO w wr (.slice a n c) rows) (hn : 0 < rows.length) :
    n = rows.length ∧ n ≤ c ∧ c ≤ maxLen ∧ ∃ q f, a = some ⟨q, 0, none⟩ ∧ w.heap.size ≤ q ∧ wr.rowIs q 37 c f ∧ ∀ i, i < n → RV wr (f i) (sw rows i) := by
  obtain ⟨h1, vs, h2, h3⟩ := h
  have hl := h2.1
  obtain ⟨_, ⟨hv, h0⟩ | ⟨g, cap, cur, hv, hB, hb, hnc, hm, hsz, htk⟩⟩ := h2
  · omega
  · simp only [Value.slice.injEq] at hv
    obtain ⟨rfl, rfl, rfl⟩ := hv
    simp only [Nat.mul_one] at hsz htk hl
    refine ⟨rfl, hnc, hm, g, fun i => (cur[i]?).getD undef, rfl, hB, ⟨cur, hb, hsz, fun i hi => by simp [Array.getElem?_eq_getElem (show i < cur.size by omega)]⟩, fun i hi => ?_⟩
    obtain ⟨u, hu, hr⟩ := h3 i hi
    have : cur[i]? = some u := by
      rw [← hu, ← htk, List.getElem?_take, if_pos hi, Array.getElem?_toList]
    simp only [this, Option.getD_some]
    exact hr
theorem RV.but {w w' : World} {u : Value} {l : List St} {q c : Nat} {f : Nat → Value} (h : RV w u l) (hb : But q w w') (hr : w.rowIs q 37 c f) : RV w' u l := by
  rcases h with h | ⟨g, cc, h1, h2⟩
  · exact .inl h
  · refine .inr ⟨g, cc, h1, ?_⟩
    obtain ⟨cs, hcs⟩ := h2.block
    obtain ⟨cur, hcur, _⟩ := hr
    refine h2.of_block (hb.2.2.2.2 g h2.lt fun e => ?_)
    rw [e, hcur] at hcs
    simp only [Option.some.injEq, Obj.cells.injEq] at hcs
    exact absurd hcs.2.1 (by decide)
/-- Turned round, and without spare capacity. -/
theorem RR.turned {w' : World} {q n c : Nat} {f f' : Nat → Value} {rows : List (List St)} (hn : n = rows.length) (hnc : n ≤ c) (hm : c ≤ maxLen) (hr : w'.rowIs q 37 c f') (hf : ∀ j, j < n → f' j = f (n - 1 - j)) (hv : ∀ i, i < n → RV w' (f i) (sw rows i)) :
    RR w' (.slice (some ⟨q, 0, none⟩) n n) n rows.reverse := by
  have hsw : ∀ i, i < n → sw rows.reverse i = sw rows (n - 1 - i) := fun i hi => by
    rw [sw_of_lt (by simpa [← hn] using hi), sw_of_lt (by omega), List.getElem_reverse]
    congr 1; omega
  have hcap : ∀ i, ∃ d, i < n → RS w' (f' i) d (sw rows.reverse i) := fun i => by
    by_cases hi : i < n
    · obtain ⟨d, hd⟩ := (hv (n - 1 - i) (by omega)).rs
      exact ⟨d, fun _ => by rw [hf i hi, hsw i hi]; exact hd⟩
    · exact ⟨0, fun h => absurd h hi⟩
  refine ⟨some ⟨q, 0, none⟩, f', fun i => (hcap i).choose, by rw [List.length_reverse, hn], by rw [List.length_reverse]; omega, by omega, .inr ⟨q, 0, rfl, fun i hi => ?_⟩, fun i hi => ?_⟩
  · rw [List.length_reverse] at hi
    rw [Nat.zero_add]; exact hr.cell (by omega)
  · rw [List.length_reverse] at hi
    exact (hcap i).choose_spec (by omega)

/-- A chart, a number and an error are returned. -/
def RetCP (w0 : World) (rows : List (List St)) (n err : Int) (e : Ending) (w' : World) : Prop := ∃ v, e = .returned (.tuple #[.agg #[v], .int .i64 n, .int .i64 err]) ∧ RR w' v rows.length rows ∧ Ext w0 w'
def vlen : Value → Nat
  | .slice _ n _ => n
  | _ => 0

set_option maxHeartbeats 8000000 in
theorem CParse_calls (L : List (List (List UInt8))) (s : ByteArray) (w : World) (hs : s.data.toList = txL L) (hL : 0 < L.length) (hL2 : L.length ≤ 1000) (hw : ∀ k, k < L.length → (li L k).length ≤ 1000 ∧ (txL (L.drop k)).length ≤ 100000 ∧ (∀ x ∈ li L k, x.length ≤ 1000)) (hG : ∀ ws ∈ L, GL ws) (hm : Mx w) (hy : Sy w) :
    Calls Tryd.prog 16 #[.string s] w (RetCP w (pL L 0 []).1 (pL L 0 []).2.1 (pL L 0 []).2.2) := by
  obtain ⟨N, hN⟩ : ∃ N, N = L.length := ⟨_, rfl⟩
  obtain ⟨W, hW⟩ : ∃ W, W = w.alloc (.cells #[.slice none 0 0] 27) := ⟨_, rfl⟩
  have xW : Ext w W := by rw [hW]; exact (Ext.refl w).alloc _
  have hR : W.heap[w.heap.size]? = some (.cells #[.slice none 0 0] 27 (0, 0)) := by rw [hW]; exact Deep.blk_alloc_new _ _
  have HR := Lib.hid (fun w' (x : Ext W w') => x.block hR)
  have HM := Lib.hid (fun w' (x : Ext w w') => hm.ext x); have HY := Lib.hid (fun w' (x : Ext w w') => hy.ext x)
  have XW := Lib.hid xW; have HW := Lib.hid hW; have HG := Lib.hid hG; have Hw := Lib.hid hw; have Hs := Lib.hid hs; have HNL := Lib.hid hN
  rw [← hN] at hL hL2
  have hsz := fun (t : Nat) => t
  clear hsz
  have hp0 : pL L 0 [] = pL (L.drop 0) 0 [] := rfl
  have HP0 := Lib.hid hp0
  obtain ⟨P, hP⟩ : ∃ P, P = pL L 0 [] := ⟨_, rfl⟩
  rw [← hP] at HP0 ⊢
  have hbad : ∀ w' (k : Nat), Ext W w' → P = ([], (k : Int) + 1, 4) → RetCP w P.1 P.2.1 P.2.2 (.returned (.tuple #[.agg #[.slice none 0 0], .int .i64 ((k : Int) + 1), .int .i64 4])) (w'.setCell ⟨w.heap.size, 0, none⟩ (.slice none 0 0)) := fun w' k x h => by
    rw [h]; exact ⟨_, rfl, RR.nil _, (XW.out.trans x).setCell (Nat.le_refl _) _⟩
  have HBad := Lib.hid hbad
  clear hm hy xW hW hR hG hw hs hN hp0 hP hbad
  go_enter Tryd.func16, Tryd.ntmps16
  go_wp2
  rw [← HW.out]
  go_loopw [0, 5, 6, 7, 8, 9, 10, 11, 12, 13, 14, 38] (fun sv rv _ _ _ _ _ _ _ _ _ _ wr => ∃ (k : Nat) (sk : ByteArray) (a : Option Addr) (c : Nat) (acc : List (List St)), k ≤ N ∧ sv = .string sk ∧ rv = .slice a k c ∧ Hid (sk.data.toList = txL (L.drop k)) ∧ Hid (CO W wr (.slice a k c) acc) ∧ acc.length = k ∧ Hid (P = pL (L.drop k) k acc)) (fun _ rv _ _ _ _ _ _ _ _ _ _ _ => N - vlen rv)
  case atStart => exact ⟨0, s, none, 0, [], by omega, rfl, rfl, Hs, Lib.hid (CO.nil (Ext.refl W)), rfl, HP0⟩
  case round =>
    obtain ⟨k, sk, a, c, acc, hk, rfl, rfl, HT, HC, hacc, HP⟩ := hrel
    have hXr := HC.out.1
    have XR := Lib.hid hXr
    clear hXr
    by_cases hlt : k < N
    · have hlt2 : k < L.length := by have := HNL.out; omega
      obtain ⟨ws, hws⟩ : ∃ ws, ws = li L k := ⟨_, rfl⟩
      have hg := HG.out _ (li_mem hlt2)
      have hwk := Hw.out k hlt2
      rw [← hws] at hg hwk
      have htx : txL (L.drop k) = Lib.join ws [32] ++ 10 :: txL (L.drop (k + 1)) := by rw [drop_li hlt2, ← hws, txL]
      have hn10 := join_no10 (ws := ws) (fun x hx => (hg.2 x hx).2)
      have hfl : fields (Lib.join ws [32]) = ws := fields_join ws hg.1 (fun x hx => (hg.2 x hx).1)
      have hsks : sk.size = (txL (L.drop k)).length := by rw [← HT.out]; rw [Array.length_toList]; rfl
      have hne := str_nonempty (a := sk) (by rw [hsks, htx]; simp; omega)
      obtain ⟨mm, hmm⟩ := HM.out wr (XW.out.trans XR.out)
      have hcut := Tryd.strings_Cut sk { data := #[10] } mm wr (by rw [hsks]; omega) hmm
      rw [HT.out, htx, show ({ data := #[10] } : ByteArray).data.toList = [10] from rfl, cut_nl hn10] at hcut
      have hjl : (Lib.join ws [32]).length ≤ 100000 := by have := hwk.2.1; rw [htx] at this; simp at this; omega
      obtain ⟨J, hJ⟩ : ∃ J, J = ba (Lib.join ws [32]) := ⟨_, rfl⟩
      obtain ⟨T, hT⟩ : ∃ T, T = ba (txL (L.drop (k + 1))) := ⟨_, rfl⟩
      have hcut2 : Calls Tryd.prog 41 #[.string sk, .string { data := #[10] }] wr fun e w' => e = .returned (.tuple #[.string J, .string T, .bool true]) ∧ ∃ n, w' = wr.drewN n := by rw [hJ, hT]; exact hcut
      have hspl := fun w' (x : Ext w w') => Split_calls J w' (by rw [hJ, ba_size]; exact hjl) (HM.out w' x)
      have hJf : fields J.data.toList = ws := by rw [hJ]; exact hfl
      have hpc : ∀ j, j < ws.length → piece J j = ba (wi ws j) := fun j hj => by
        apply ba_of
        rw [piece_data J (by rw [hJf]; exact hj)]
        unfold fieldAt wi
        rw [hJf]
      unfold RetP at hspl
      rw [hJf] at hspl
      obtain ⟨M, hMw⟩ : ∃ M, M = ws.length := ⟨_, rfl⟩
      rw [← hMw] at hspl hpc
      have hM1 : M ≤ 1000 := by omega
      have HCut := Lib.hid hcut2; have HSpl := Lib.hid hspl; have HPc := Lib.hid hpc; have HMw := Lib.hid hMw; have HTe := Lib.hid (show T.data.toList = txL (L.drop (k + 1)) by rw [hT]; rfl)
      have Hws := Lib.hid hws; have Hx := Lib.hid hwk.2.2
      have h0 : 0 < ws.length := by have := hg.1; cases ws with | nil => exact absurd rfl this | cons a b => simp
      have H0 := Lib.hid h0
      clear hws hg hwk htx hn10 hfl hsks hmm hcut hjl hJ hT hcut2 hspl hJf hpc hMw h0
      go_wp2_with fail
      refine HCut.out.mono ?_
      rintro e w1 ⟨rfl, q1, rfl⟩
      have X1 := Lib.hid (XR.out.drewN q1)
      clear HCut
      go_wp2_with fail
      refine (HSpl.out _ (XW.out.trans X1.out)).mono ?_
      rintro e w2 ⟨rfl, x2, hsz2, hc2⟩
      have X2 := Lib.hid (X1.out.trans x2)
      have HC2 := Lib.hid hc2
      have hmk := fun w' => run_make_st .i64 .i64 M (by omega) w'
      obtain ⟨z, hz⟩ : ∃ z, z = (wr.drewN q1).heap.size := ⟨_, rfl⟩
      rw [← hz] at HC2 ⊢
      have hB := RO.made w2 M (by unfold maxLen; omega)
      have HB := Lib.hid hB
      have XO := Lib.hid (show Ext wr w2 from ((Ext.refl wr).drewN q1).trans x2)
      clear x2 hc2 hsz2 HSpl hz hB
      go_wp2
      clear hmk hne
      obtain ⟨w3, hw3⟩ : ∃ w3, w3 = w2.alloc (.cells (madeCells z5 (M * 5)) 33) := ⟨_, rfl⟩
      have X23 := Lib.hid (show Ext w2 w3 by rw [hw3]; exact (Ext.refl w2).alloc _)
      rw [← hw3] at HB ⊢
      obtain ⟨g, hg⟩ : ∃ g, g = w2.heap.size := ⟨_, rfl⟩
      rw [← hg] at HB ⊢
      have Hgw := Lib.hid hg
      have HCO := Lib.hid (HC.out.later XO.out)
      clear hw3 hg
      go_loopw [11, 12, 13, 14, 38] (fun _ _ _ _ i wr => ∃ j : Nat, j ≤ M ∧ i = .int .i64 j ∧ Hid (RO wr g M (rowU ws j) ∧ Ext w2 wr) ∧ Hid (∀ i, i < j → (pst (ba (wi ws i))).2 = 0)) (fun _ _ _ _ i _ => M - (intOf i).toNat)
      case atStart => exact ⟨0, by omega, rfl, Lib.hid ⟨by rw [rowU_zero, ← HMw.out]; exact HB.out, X23.out⟩, Lib.hid (fun i hi => by omega)⟩
      case round =>
        obtain ⟨j, hj, rfl, H, HGd⟩ := hrel
        have Xj := Lib.hid (X2.out.trans H.out.2)
        by_cases hjl : j < M
        · have hjw : j < ws.length := by rw [← HMw.out]; exact hjl
          have hcw := H.out.2.cell (HC2.out j hjl)
          rw [HPc.out j hjl] at hcw
          have hpa := fun w' (x : Ext wr w') => SParse_calls (ba (wi ws j)) w' (HY.out _ (XW.out.trans (Xj.out.trans x))) (by rw [ba_size]; have := Hx.out _ (wi_mem hjw); omega)
          have hset := rowU_set hjw
          have hokb := okP_bad hjw
          have hgd : (pst (ba (wi ws j))).2 = 0 → ∀ i, i < j + 1 → (pst (ba (wi ws i))).2 = 0 := fun h i hi => by
            by_cases e : i = j
            · rw [e]; exact h
            · exact HGd.out i (by omega)
          generalize pst (ba (wi ws j)) = pp at hpa hset hokb hgd
          generalize ba (wi ws j) = X at hcw hpa
          obtain ⟨ps, pe⟩ := pp
          obtain ⟨sk', sy, sa, sbb, sf⟩ := ps
          unfold RetSE St.val at hpa
          simp only [] at hpa hset hokb hgd
          have HPa := Lib.hid hpa; have HSet := Lib.hid hset; have HOkb := Lib.hid hokb; have HGd2 := Lib.hid hgd
          clear hpa hset hokb hgd
          go_wp2_with fail
          refine (HPa.out _ (Ext.refl _)).mono ?_
          rintro e w5 ⟨rfl, x5⟩
          obtain ⟨w6, hw6⟩ : ∃ w6, w6 = w5.alloc (.cells #[.int .u8 sk', .int .u8 sy, .int .i64 sa, .int .i64 sbb, .bool sf] 33) := ⟨_, rfl⟩
          have hB6 : B5 w6 w5.heap.size ⟨sk', sy, sa, sbb, sf⟩ 33 := by rw [hw6]; exact B5.new w5 ⟨sk', sy, sa, sbb, sf⟩ _
          have x56 : Ext w5 w6 := by rw [hw6]; exact (Ext.refl w5).alloc _
          have X6 := Lib.hid (Xj.out.trans (x5.trans x56))
          have HRO6 := Lib.hid (H.out.1.ext (x5.trans x56))
          have X26 := Lib.hid (H.out.2.trans (x5.trans x56))
          have HW6 := Lib.hid hw6
          obtain ⟨c0, c1, c2, c3, c4⟩ := hB6.cl
          have hRb := HR.out _ X6.out
          have hR0 : w6.cell? ⟨w.heap.size, 0, none⟩ = some (.slice none 0 0) := by simp [World.cell?, hRb]
          have hRf : w6.frozen? ⟨w.heap.size, 0, none⟩ = false := by simp [World.frozen?, hRb]
          clear hcw x5 x56 hB6 HPa hRb
          by_cases hpe : pe = 0
          · have hq : (pe != 0) = false := by rw [hpe]; rfl
            have hG3 := Lib.hid (HGd2.out hpe)
            clear hpe
            obtain ⟨v0, g0⟩ := HRO6.out.shapeCell (o := j * 5) (by omega)
            obtain ⟨v1, g1⟩ := HRO6.out.shapeCell (o := j * 5 + 1) (by omega)
            obtain ⟨v2, g2⟩ := HRO6.out.shapeCell (o := j * 5 + 2) (by omega)
            obtain ⟨v3, g3⟩ := HRO6.out.shapeCell (o := j * 5 + 3) (by omega)
            obtain ⟨v4, g4⟩ := HRO6.out.shapeCell (o := j * 5 + 4) (by omega)
            have f0 := HRO6.out.frozen (j * 5); have f1 := HRO6.out.frozen (j * 5 + 1); have f2 := HRO6.out.frozen (j * 5 + 2); have f3 := HRO6.out.frozen (j * 5 + 3); have f4 := HRO6.out.frozen (j * 5 + 4)
            have hput := HRO6.out.put (i := j) (by rw [rowU_len ws (by omega), ← HMw.out]; exact hjl) ⟨sk', sy, sa, sbb, sf⟩
            rw [HSet.out] at hput
            have hxp := X26.out.put5 g (j * 5) (by rw [Hgw.out]; exact Nat.le_refl _) sk' sy sa sbb sf
            have HN := Lib.hid (And.intro hput hxp)
            have j1 : (j : Int) < (M : Int) := by omega
            rw [HW6.out] at HN c0 c1 c2 c3 c4 g0 g1 g2 g3 g4 f0 f1 f2 f3 f4
            clear hput hxp hR0 hRf
            go_wp2
            go_roundw
            case rel => exact ⟨j + 1, by omega, by go_num, HN, hG3⟩
            case measure => simp [intOf]; omega
          · have hq : (pe != 0) = true := by rw [bne, beq_eq_false_iff_ne.2 hpe]; rfl
            have hPb : P = ([], (k : Int) + 1, 4) := by rw [HP.out, pL_bad (by have := HNL.out; omega) (by rw [← Hws.out]; exact HOkb.out hpe)]
            have HF := Lib.hid (HBad.out _ k X6.out hPb)
            have wk : IntKind.i64.wrap ((k : Int) + 1) = (k : Int) + 1 := IntWalk.i64_in _ ⟨by omega, by omega⟩
            rw [HW6.out] at HF hR0 hRf
            clear hpe hPb c0 c1 c2 c3 c4
            go_wp2
            exact bodyPost_ret (v := .tuple #[.agg #[.slice none 0 0], .int .i64 ((k : Int) + 1), .int .i64 4]) (by simp [results, Tryd.results16, go_sem, World.cell?_setCell_same, *]) rfl HF.out
        · obtain rfl : M = j := by omega
          have hok : okP ws = true := okP_good (fun i hi => HGd.out i (by rw [HMw.out]; exact hi))
          have hnx := pL_next (L := L) (k := k) (by have := HNL.out; omega) (i := k) (acc := acc) (by rw [← Hws.out]; exact hok)
          rw [← Hws.out] at hnx
          have HP' := Lib.hid (HP.out.trans hnx)
          have hrow := H.out.1
          rw [HMw.out, rowU_end] at hrow
          have hrl : (rowP ws).length = M := by unfold rowP; rw [List.length_map, HMw.out]
          have hrv : RV wr (.slice (some ⟨g, 0, none⟩) M M) (rowP ws) := .inr ⟨g, M, by rw [hrl], by rw [HMw.out]; exact hrow⟩
          have HU := Lib.hid (And.intro (HCO.out.later H.out.2) hrv)
          have hlen : acc.length ≤ 100000 := by omega
          clear hok hnx hrow hrl hrv
          go_wp2_with (at_builtin; go_loud (refine app_row rfl _ _ rfl W _ acc rfl HU.out.1 _ (rowP ws) HU.out.2 wr.heap.size rfl rfl hlen ?_))
          intro v6 w6 hco hkeep
          obtain ⟨a6, n6, c6, rfl, hn6⟩ := hco.form
          rw [List.length_append, List.length_singleton, hacc] at hn6
          subst hn6
          have HCn := Lib.hid hco
          clear hco hkeep
          go_wp2
          go_roundw
          case rel => exact ⟨k + 1, T, a6, c6, acc ++ [rowP ws], by omega, rfl, rfl, HTe, HCn, by rw [List.length_append, List.length_singleton, hacc], HP'⟩
          case measure => simp [vlen]; omega
    · obtain rfl : N = k := by omega
      have hse : sk.toList = [] := by
        rw [ByteArray.toList_eq, HT.out, List.drop_eq_nil_of_le (by have := HNL.out; omega)]; rfl
      obtain ⟨hn, hnc, hcm, q, f, rfl, hq, hrow, hrv⟩ := HC.out.lies (by omega)
      have hPe := HP.out
      rw [pL_end (by have := HNL.out; omega)] at hPe
      have hrev := Reverse_calls q N c f wr hrow hnc (by omega) (fun j hj => by
        obtain ⟨a, m, d, h1, _⟩ := (hrv j hj).form
        exact ⟨a, m, d, h1⟩)
      have HRev := Lib.hid hrev; have HPe := Lib.hid hPe; have HRow := Lib.hid hrow; have HRv := Lib.hid hrv; have Hn := Lib.hid hn; have Hnc := Lib.hid hnc; have Hcm := Lib.hid hcm
      clear hPe hrev hrow hrv hn hcm
      go_wp2_with fail
      refine HRev.out.mono ?_
      rintro e w5 ⟨rfl, hbut, f', hrow', hf'⟩
      have X5 := Lib.hid (hbut.ext XR.out hq)
      have HRR := Lib.hid (RR.turned Hn.out Hnc.out Hcm.out hrow' hf' (fun i hi => (HRv.out i hi).but hbut HRow.out))
      have HRw5 := Lib.hid hrow'; have Hf' := Lib.hid hf'; have HRv5 := Lib.hid (fun i hi => (HRv.out i hi).but hbut HRow.out); have Hq := Lib.hid hq; have X55 := Lib.hid (Ext.refl w5)
      clear hbut hrow' hf' HRev hq
      go_wp2_with fail
      refine (Clip_calls _ N c w5 Hnc.out (fun x hx => by cases hx; rfl) (fun h => by cases h)).mono ?_
      rintro e w6 ⟨rfl, rfl⟩
      obtain ⟨w8, hw8⟩ : ∃ w8, w8 = w5.alloc (.cells #[.slice (some ⟨q, 0, none⟩) N N] 27) := ⟨_, rfl⟩
      have x8 : Ext w5 w8 := by rw [hw8]; exact (Ext.refl w5).alloc _
      have b8 : w8.cell? ⟨w5.heap.size, 0, none⟩ = some (.slice (some ⟨q, 0, none⟩) N N) := by rw [hw8, World.cell?_alloc_at (hn := rfl)]; rfl
      have HRR8 := Lib.hid (HRR.out.ext x8)
      have X58 := Lib.hid x8
      have X8 := Lib.hid (X5.out.trans x8)
      have HB8 := Lib.hid (fun w' (x : Ext w8 w') => x.cell b8)
      have hck := CCheck_calls _ N acc.reverse w8 HRR8.out
      obtain ⟨E, hE⟩ : ∃ E, E = (cloads acc.reverse).1 := ⟨_, rfl⟩
      rw [← hE] at HPe hck
      have HCk := Lib.hid hck; have HW8 := Lib.hid hw8
      rw [hw8] at b8
      clear x8 hck hE hw8
      go_wp2_with fail
      rw [← HW8.out]
      refine HCk.out.mono ?_
      rintro e w9 ⟨rfl, x9⟩
      have X9 := Lib.hid (X8.out.trans x9)
      have b9 := HB8.out _ x9
      have hRb := HR.out _ X9.out
      have hR0 : w9.cell? ⟨w.heap.size, 0, none⟩ = some (.slice none 0 0) := by simp [World.cell?, hRb]
      have hRf : w9.frozen? ⟨w.heap.size, 0, none⟩ = false := by simp [World.frozen?, hRb]
      have HRR9 := Lib.hid (HRR8.out.ext x9)
      have X59 := Lib.hid (X58.out.trans x9)
      have HRb9 := Lib.hid hRb
      clear x9 b8 HCk hRb hse
      by_cases hE : E = 0
      · have hq : (E != 0) = false := by rw [hE]; rfl
        have hP := HPe.out
        rw [if_neg (by omega)] at hP
        have HF := Lib.hid (show RetCP w P.1 P.2.1 P.2.2 (.returned (.tuple #[.agg #[.slice (some ⟨q, 0, none⟩) N N], .int .i64 0, .int .i64 0])) (w9.setCell ⟨w.heap.size, 0, none⟩ (.slice (some ⟨q, 0, none⟩) N N)) from by
          rw [hP]
          refine ⟨_, rfl, ?_, (XW.out.trans X9.out).setCell (Nat.le_refl _) _⟩
          have hlt : w.heap.size < W.heap.size := (Array.getElem?_eq_some_iff.1 (HR.out W (Ext.refl _))).1
          have := RR.turned Hn.out Hnc.out Hcm.out ((X59.out.row HRw5.out).setOther (a := ⟨w.heap.size, 0, none⟩) (by have := Hq.out; simp only []; omega) (.slice (some ⟨q, 0, none⟩) N N)) Hf'.out (fun i hi => ((HRv5.out i hi).ext X59.out).setOther (a := ⟨w.heap.size, 0, none⟩) HRb9.out (by decide))
          simpa [← Hn.out] using this)
        clear hE hP
        go_wp2
        exact bodyPost_ret (v := .tuple #[.agg #[.slice (some ⟨q, 0, none⟩) N N], .int .i64 0, .int .i64 0]) (by simp [results, Tryd.results16, go_sem, World.cell?_setCell_same, *]) rfl HF.out
      · have hq : (E != 0) = true := by rw [bne, beq_eq_false_iff_ne.2 hE]; rfl
        have hP := HPe.out
        rw [if_pos hE] at hP
        have HF := Lib.hid (show RetCP w P.1 P.2.1 P.2.2 (.returned (.tuple #[.agg #[.slice none 0 0], .int .i64 0, .int .i64 E])) (w9.setCell ⟨w.heap.size, 0, none⟩ (.slice none 0 0)) from by
          rw [hP]
          exact ⟨_, rfl, RR.nil _, (XW.out.trans X9.out).setCell (Nat.le_refl _) _⟩)
        clear hE hP
        go_wp2
        exact bodyPost_ret (v := .tuple #[.agg #[.slice none 0 0], .int .i64 0, .int .i64 E]) (by simp [results, Tryd.results16, go_sem, World.cell?_setCell_same, *]) rfl HF.out
end Go.Proofs.YtkolebjpeaigcaaDoor
/- ganseylaw13.of, knits; rows and charts written out. -/
namespace Go.Proofs.YtkolebjpeaigcaaDoor
set_option linter.unusedVariables false
set_option linter.unusedSimpArgs false
set_option maxRecDepth 8000
open Go Go.RowKit

theorem RO.lit2 {w : World} {g n : Nat} {l : List St} {arr : Array Value} (hg : g = w.heap.size) (ha : arr = (cells l).toArray) (hl : l.length ≤ 1000) (hn : n = l.length := by rfl) : RO (w.alloc (.cells arr 33)) g n l := by
  subst hg; subst hn; exact RO.lit ha hl
theorem own_extz {w w' : World} {B z : Nat} {e : TypeId} {v : Value} {n : Nat} {xs : List Value} (h : w.ownsRow B e z v n xs) (x : Ext w w') : w'.ownsRow B e z v n xs := by
  obtain ⟨h1, ⟨hv, h2⟩ | ⟨g, cap, cur, hv, hB, hb, h3⟩⟩ := h
  · exact ⟨h1, .inl ⟨hv, h2⟩⟩
  · exact ⟨h1, .inr ⟨g, cap, cur, hv, hB, x.block hb, h3⟩⟩
/-- A row in a block that is known. -/
theorem RS.of_blk {w : World} {g n : Nat} {l : List St} {arr : Array Value} (hb : w.heap[g]? = some (.cells arr 33 (0, 0))) (ha : arr = (cells l).toArray) (hn : n = l.length) (hl : n ≤ 1000) : RS w (.slice (some ⟨g, 0, none⟩) n n) n l := by
  subst hn
  have hr : RO w g l.length l := by
    have hsz : arr.size = l.length * 5 := by rw [ha]; simp [cells_len]
    refine ⟨Nat.le_refl _, by unfold maxLen; omega, fun i => ((cells l)[i]?).getD undef, ⟨arr, hb, hsz, fun i hi => ?_⟩, fun i hi => ?_⟩
    · rw [ha, List.getElem?_toArray]
      have : i < (cells l).length := by rw [cells_len]; exact hi
      simp [this]
    · obtain ⟨b0, b1, b2, b3, b4⟩ := cells_at l i hi
      refine ⟨?_, ?_, ?_, ?_, ?_⟩ <;> simp only []
      · rw [b0]; rfl
      · rw [b1]; rfl
      · rw [b2]; rfl
      · rw [b3]; rfl
      · rw [b4]; rfl
  exact hr.rs
/-- Rows in a block that is known. -/
theorem RR.of_blk {w : World} {g n : Nat} {rows : List (List St)} {us : List Value} {caps : Nat → Nat} {arr : Array Value} (hb : w.heap[g]? = some (.cells arr 37 (0, 0))) (ha : arr = us.toArray) (hn : n = rows.length) (hu : us.length = rows.length) (hl : n ≤ 1000)
    (h : ∀ i, i < rows.length → RS w (us.getD i undef) (caps i) (sw rows i)) : RR w (.slice (some ⟨g, 0, none⟩) n n) n rows := by
  subst hn
  refine ⟨_, fun i => us.getD i undef, caps, rfl, Nat.le_refl _, by unfold maxLen; omega, .inr ⟨g, 0, rfl, fun i hi => ?_⟩, h⟩
  have h1 : arr[i]? = some (us.getD i undef) := by
    rw [ha, List.getElem?_toArray]
    simp [List.getD, List.getElem?_eq_getElem (show i < us.length by omega)]
  simp only [World.cell?, hb, Nat.zero_add]
  simpa using h1
theorem RR.lit3 {w : World} {g : Nat} {u0 u1 u2 : Value} {c0 c1 c2 : Nat} {l0 l1 l2 : List St} (hb : w.heap[g]? = some (.cells #[u0, u1, u2] 37 (0, 0))) (h0 : RS w u0 c0 l0) (h1 : RS w u1 c1 l1) (h2 : RS w u2 c2 l2) : RR w (.slice (some ⟨g, 0, none⟩) 3 3) 3 [l0, l1, l2] :=
  RR.of_blk (us := [u0, u1, u2]) (caps := fun i => [c0, c1, c2].getD i 0) hb (by simp) (by simp) (by simp) (by simp) fun i hi => by
    have hi' : i < 3 := hi
    rcases (show i = 0 ∨ i = 1 ∨ i = 2 by omega) with rfl | rfl | rfl
    · simpa [sw] using h0
    · simpa [sw] using h1
    · simpa [sw] using h2
theorem RR.lit4 {w : World} {g : Nat} {u0 u1 u2 u3 : Value} {c0 c1 c2 c3 : Nat} {l0 l1 l2 l3 : List St} (hb : w.heap[g]? = some (.cells #[u0, u1, u2, u3] 37 (0, 0))) (h0 : RS w u0 c0 l0) (h1 : RS w u1 c1 l1) (h2 : RS w u2 c2 l2) (h3 : RS w u3 c3 l3) : RR w (.slice (some ⟨g, 0, none⟩) 4 4) 4 [l0, l1, l2, l3] :=
  RR.of_blk (us := [u0, u1, u2, u3]) (caps := fun i => [c0, c1, c2, c3].getD i 0) hb (by simp) (by simp) (by simp) (by simp) fun i hi => by
    have hi' : i < 4 := hi
    rcases (show i = 0 ∨ i = 1 ∨ i = 2 ∨ i = 3 by omega) with rfl | rfl | rfl | rfl
    · simpa [sw] using h0
    · simpa [sw] using h1
    · simpa [sw] using h2
    · simpa [sw] using h3

def st1 (k : Int) : St := ⟨k, 1, 0, 0, false⟩
theorem of_calls (k : Int) (w : World) : Calls Tryd.prog 35 #[.int .u8 k] w fun e w' => e = .returned (.agg #[.int .u8 k, .int .u8 1, .int .i64 0, .int .i64 0, .bool false]) ∧ Ext w w' := by
  go_enter Tryd.func35, Tryd.ntmps35
  go_wp2
  refine bodyPost_ret (v := .agg #[.int .u8 k, .int .u8 1, .int .i64 0, .int .i64 0, .bool false]) (by simp [results, Tryd.results35, go_sem]) rfl ⟨rfl, (Ext.refl w).alloc _⟩
/-- A row of the call's own is returned. -/
def RetRV (w0 : World) (l : List St) (e : Ending) (w' : World) : Prop := ∃ u, e = .returned u ∧ RV w' u l ∧ Ext w0 w'
set_option maxHeartbeats 1000000 in
theorem knits_calls (k : Int) (n : Nat) (w : World) (hn : n ≤ 1000) : Calls Tryd.prog 36 #[.int .u8 k, .int .i64 n] w (RetRV w (List.replicate n (st1 k))) := by
  go_enter Tryd.func36, Tryd.ntmps36
  go_wp2
  go_loopw [5, 6] (fun l i wr => ∃ j : Nat, j ≤ n ∧ i = .int .i64 j ∧ Hid (wr.ownsRow w.heap.size 33 5 l j (cells (List.replicate j (st1 k))) ∧ Ext w wr)) (fun _ i _ => n - (intOf i).toNat)
  case atStart => exact ⟨0, by omega, rfl, Lib.hid ⟨World.ownsRow_nil _ _ _ _, Ext.refl w⟩⟩
  case round =>
    obtain ⟨j, hj, rfl, H⟩ := hrel
    have hsz := H.out.2.size
    by_cases hjl : j < n
    · have hjl' : (j : Int) < (n : Int) := by omega
      go_wp2_with (at_builtin; go_loud (refine app_st rfl _ _ rfl w.heap.size _ j (cells (List.replicate j (st1 k))) rfl (own_extz H.out.1 ((Ext.refl wr).alloc _)) _ 1 1 [st1 k] rfl rfl (RO.lit2 (by simp) rfl (by simp)) ?u1 ?u2 ?_))
      case u1 => omega
      case u2 => exact Nat.le_trans hsz (by simp)
      intro v' w' hown hbel
      have HO := Lib.hid (show w'.ownsRow w.heap.size 33 5 v' (j + 1) (cells (List.replicate (j + 1) (st1 k))) ∧ Ext w w' from ⟨by rw [List.replicate_succ', cells_app]; exact hown, Below.trans (H.out.2.alloc _) hbel⟩)
      clear hown hbel
      go_wp2
      go_roundw
      case rel => exact ⟨j + 1, by omega, by go_num, HO⟩
      case measure => simp [intOf]; omega
    · obtain rfl : n = j := by omega
      have hrv := RV.of_own H.out.1
      have HF := Lib.hid hrv.1
      clear hrv
      go_wp2
      go_ret
      exact ⟨_, rfl, HF.out, H.out.2⟩
end Go.Proofs.YtkolebjpeaigcaaDoor
/- charts.Widths. -/
namespace Go.Proofs.YtkolebjpeaigcaaDoor
set_option linter.unusedVariables false
set_option linter.unusedSimpArgs false
set_option maxRecDepth 8000
open Go Go.RowKit

/-- The numbers of slots. -/
def wds (rows : List (List St)) : List Int := if rows = [] then [] else rneed (sw rows 0) :: rows.map rmake
theorem wds_len {rows : List (List St)} (h : 0 < rows.length) : (wds rows).length = rows.length + 1 := by
  unfold wds; rw [if_neg (fun e => by rw [e] at h; simp at h)]; simp
theorem wds_zero {rows : List (List St)} (h : 0 < rows.length) : gi (wds rows) 0 = rneed (sw rows 0) := by
  unfold wds; rw [if_neg (fun e => by rw [e] at h; simp at h)]; rfl
theorem wds_succ {rows : List (List St)} {i : Nat} (h : i < rows.length) : gi (wds rows) (i + 1) = rmake (sw rows i) := by
  unfold wds; rw [if_neg (fun e => by rw [e] at h; simp at h), gi_cons_succ, gi_of_lt (by simpa using h), sw_of_lt h]; simp
/-- The first k + 1 numbers are laid. -/
def WL (w wr : World) (g n k : Nat) (rows : List (List St)) : Prop := Ext w wr ∧ w.heap.size ≤ g ∧ ∃ f, wr.rowIs g 3 n f ∧ ∀ i, i ≤ k → f i = .int .i64 (gi (wds rows) i)
set_option maxHeartbeats 2000000 in
theorem Widths_calls (v : Value) (c : Nat) (rows : List (List St)) (w : World) (h : RR w v c rows) (hb : ∀ i, i < rows.length → (sw rows i).length ≤ 1000) (hl : rows.length ≤ 1000) :
    Calls Tryd.prog 28 #[.agg #[v]] w (RetX .i64 w (wds rows)) := by
  obtain ⟨ao, n, rfl, hn, hc, hcm, hat⟩ := h.open
  obtain ⟨W, hW⟩ : ∃ W, W = w.alloc (.cells #[.slice ao n c] 27) := ⟨_, rfl⟩
  have xW : Ext w W := by rw [hW]; exact (Ext.refl w).alloc _
  have b0 : W.cell? ⟨w.heap.size, 0, none⟩ = some (.slice ao n c) := by rw [hW, World.cell?_alloc_at (hn := rfl)]; rfl
  have HBx := Lib.hid (fun w' (x : Ext W w') => x.cell b0); have XW := Lib.hid xW
  unfold maxLen at hcm
  by_cases hn0 : n = 0
  · have hr : rows = [] := List.eq_nil_of_length_eq_zero (by omega)
    have hw : wds rows = [] := by unfold wds; rw [if_pos hr]
    rw [hw]
    rw [hW] at b0
    clear hat hb hr hw hn h
    subst hn0
    go_enter Tryd.func28, Tryd.ntmps28
    go_wp2
    go_ret
    exact ⟨_, 0, rfl, IS.nil _ _, (Ext.refl w).alloc _⟩
  have hnz : ((n : Int) == 0) = false := beq_eq_false_iff_ne.2 (by omega)
  have hwl := wds_len (rows := rows) (by omega)
  have hw0 := wds_zero (rows := rows) (by omega)
  have hws := fun i (hi : i < n) => wds_succ (rows := rows) (i := i) (by omega)
  have hN := fun w' v c (h : RS w' v c (sw rows 0)) => CNeeds_calls v c (sw rows 0) w' h (by have := hb 0 (by omega); omega)
  have hM := fun i (hi : i < n) w' v c (h : RS w' v c (sw rows i)) => CMakes_calls v c (sw rows i) w' h (by have := hb i (by omega); omega)
  have hmk := fun w' => run_make_lc (P := Tryd.prog) eiInt .i64 .i64 (n + 1) (n + 1) (by omega) (by omega) (by omega) w'
  rw [show ((n + 1 : Nat) : Int) = 1 + (n : Int) by omega] at hmk
  have wz : IntKind.i64.wrap (1 + (n : Int)) = 1 + (n : Int) := IntWalk.i64_in _ ⟨by omega, by omega⟩
  have HA := Lib.hid hat; have HWl := Lib.hid hwl; have HW0 := Lib.hid hw0; have HWs := Lib.hid hws; have HNe := Lib.hid hN; have HMa := Lib.hid hM; have HMk := Lib.hid (hmk W); have Hn := Lib.hid hn
  obtain ⟨b, o, a, m, d, rfl, hc0, hr0⟩ := hat 0 (by omega)
  have hc0W := xW.cell hc0
  rw [Nat.add_zero] at hc0W
  have hcl := hN (W.alloc (.cells (madeCells #[.int .i64 0] (n + 1)) 3)) _ _ (hr0.ext (xW.alloc _))
  have HCl := Lib.hid hcl
  have hn1 : (0 : Int) < n := by omega
  have hmW := hmk W
  have hn2 : n ≤ 1000 := by omega
  clear hb hwl hw0 hws hN hM hmk hcl h hat hn hr0 hl hn0
  have b0' := b0
  rw [hW] at b0' hmW
  obtain ⟨Wm, hWm⟩ : ∃ Wm, Wm = W.alloc (.cells (madeCells #[.int .i64 0] (n + 1)) 3) := ⟨_, rfl⟩
  have xm : Ext W Wm := by rw [hWm]; exact (Ext.refl W).alloc _
  have hcc := xm.cell hc0W
  have hbb := xm.cell b0
  have hst : WL W Wm W.heap.size (n + 1) 0 rows → True := fun _ => trivial
  have hrow : Wm.rowIs W.heap.size 3 (n + 1) (fun _ => .int .i64 0) := by rw [hWm]; exact World.rowIs_made W (.int .i64 0) (n + 1) _
  rw [← hWm] at HCl
  have hWs : W.heap.size = w.heap.size + 1 := by rw [hW]; simp
  have HRow := Lib.hid hrow; have HWm := Lib.hid hWm; have HW := Lib.hid hW; have Xm := Lib.hid xm; have HWs2 := Lib.hid hWs
  rw [hWm, hW] at hcc hbb
  clear hst hrow hWm hW xm xW b0 hc0W hc0 hWs
  go_enter Tryd.func28, Tryd.ntmps28
  go_wp2_with fail
  rw [← HW.out, ← HWm.out]
  refine HCl.out.mono ?_
  rintro e w1 ⟨rfl, x1⟩
  have X1 := Lib.hid (Xm.out.trans x1)
  have hr1 := x1.row HRow.out
  obtain ⟨g, hg⟩ : ∃ g, g = w.heap.size + 1 := ⟨_, rfl⟩
  rw [HWs2.out, ← hg] at hr1
  have hc1 := hr1.cell (i := 0) (by omega)
  have hf1 := hr1.frozen 0
  have hwg : W.heap.size ≤ g := by rw [hg, HWs2.out]; omega
  have hb1 := HBx.out _ X1.out
  have HN0 := Lib.hid (show WL W (w1.setCell ⟨g, 0, none⟩ (.int .i64 (rneed (sw rows 0)))) g (n + 1) 0 rows from ⟨X1.out.setCell hwg _, hwg, _, hr1.set 0 _, fun i hi => by
    obtain rfl : i = 0 := by omega
    rw [HW0.out]; exact if_pos rfl⟩)
  have hb2 := HBx.out _ HN0.out.1
  have tn : (0 : Int) < (n : Int) + 1 := by omega
  rw [← hg]
  clear hr1 x1 HCl hbb hcc hmW HRow b0' hg
  go_wp2
  clear hc1 hf1 hb1 hb2
  go_loopw [4, 5, 25] (fun _ _ i wr => ∃ k : Nat, k ≤ n ∧ i = .int .i64 k ∧ Hid (WL W wr g (n + 1) k rows)) (fun _ _ i _ => n - (intOf i).toNat)
  case atStart => exact ⟨0, Nat.zero_le _, rfl, HN0⟩
  case round =>
    obtain ⟨k, hk, rfl, H⟩ := hrel
    by_cases hlt : k < n
    · obtain ⟨b', o', a', m', d', hbo, hc0, hr0⟩ := HA.out k hlt
      obtain ⟨rfl, rfl⟩ : b = b' ∧ o = o' := by simpa using hbo
      replace hc0 := (XW.out.trans H.out.1).cell hc0
      have hcl := HMa.out k hlt wr _ _ (hr0.ext (XW.out.trans H.out.1))
      have HCl := Lib.hid hcl
      have hws := HWs.out k hlt
      have w1' : IntKind.i64.wrap ((k : Int) + 1) = (k : Int) + 1 := IntWalk.i64_in _ ⟨by omega, by omega⟩
      have k1 : (k : Int) + 1 < (n : Int) + 1 := by omega
      have k2 : (0 : Int) ≤ (k : Int) + 1 := by omega
      have k3 : ((k : Int) + 1).toNat = k + 1 := by omega
      have HWk := Lib.hid hws
      generalize rmake (sw rows k) = R at HCl HWk
      clear hcl hws hr0 hbo
      go_wp2_with fail
      refine HCl.out.mono ?_
      rintro e w2 ⟨rfl, x2⟩
      obtain ⟨h1, h2, f, h3, h4⟩ := H.out
      have h5 := x2.row h3
      have hc1 := h5.cell (i := k + 1) (by omega)
      have hf1 := h5.frozen (k + 1)
      have HN := Lib.hid (show WL W (w2.setCell ⟨g, k + 1, none⟩ (.int .i64 R)) g (n + 1) (k + 1) rows from ⟨(h1.trans x2).setCell h2 _, h2, _, h5.set (k + 1) _, fun i hi => by
        by_cases e : i = k + 1
        · subst e; rw [HWk.out]; exact if_pos rfl
        · rw [← h4 i (by omega)]; exact if_neg e⟩)
      clear h1 h2 h3 h4 h5 x2 hc0 HCl
      go_wp2
      go_roundw
      case rel => exact ⟨k + 1, by omega, by go_num, HN⟩
      case measure => simp [intOf]; omega
    · obtain rfl : n = k := by omega
      obtain ⟨h1, h2, f, h3, h4⟩ := H.out
      have hi := IS.of_row (k := .i64) (xs := wds rows) h3 (by rw [HWl.out, ← Hn.out]) (by unfold maxLen; omega) (fun i hi => h4 i (by omega))
      have HF := Lib.hid (show RetX .i64 w (wds rows) (.returned (.slice (some ⟨g, 0, none⟩) (n + 1) (n + 1))) wr from ⟨_, _, rfl, hi, XW.out.trans h1⟩)
      clear h1 h2 h3 h4 hi hlt
      go_wp2
      go_ret
      exact HF.out
end Go.Proofs.YtkolebjpeaigcaaDoor
/- The examples of chapter 13. -/
namespace Go.Proofs.YtkolebjpeaigcaaDoor
set_option linter.unusedVariables false
set_option linter.unusedSimpArgs false
set_option maxRecDepth 20000
open Go Go.RowKit

def eA : List St := [st1 3, st1 1, st1 1, st1 4]
def eB : List St := List.replicate 4 (st1 1)
def eD : List St := [st1 5, st1 2, st1 2]
def eT : List St := List.replicate 1 (st1 6)
theorem ex_facts : wds [eA, eB, eD] = [4, 4, 4, 3] ∧ (cloads [eA, eB, eD]).1 = 0 ∧ (cloads [eA, eB, eD, List.replicate 3 (st1 1)]).1 = 1 ∧ (cloads [eB, eD, eA]).1 = 14 ∧ (cloads [eT, eT, eT]).1 = 9 ∧ (cloads [eT, eT, List.replicate 1 (st1 1)]).1 = 0 := by decide
def eP : St := ⟨2, 2, 0, 0, false⟩
def eC : St := ⟨8, 1, 1, 1, true⟩
theorem ex_text : ctx [[st1 1, eP], [eC], List.replicate 2 (st1 1)] = [107, 32, 107, 10, 99, 49, 49, 70, 10, 107, 32, 112, 50, 10] := by decide
def eL : List (List (List UInt8)) := [[[107], [107]], [[107], [120]]]
theorem ex_parse : pL eL 0 [] = ([], 2, 4) := by
  have h1 : pst (ba [107]) = (st1 1, 0) := pst_tx (s := st1 1) (by decide)
  have h2 : pst (ba [120]) = (St.none, 4) := pst_x
  unfold eL
  rw [pL, if_pos (by unfold okP; simp [h1]), pL, if_neg (by unfold okP; simp [h2])]
  rfl
theorem wd_c (v : Value) (w : World) (h : RR w v 3 [eA, eB, eD]) : Calls Tryd.prog 28 #[.agg #[v]] w (RetX .i64 w [4, 4, 4, 3]) := by
  rw [← ex_facts.1]; exact Widths_calls v 3 _ w h (by decide) (by decide)
theorem ck_c (v : Value) (c : Nat) (rows : List (List St)) (e0 : Int) (he : (cloads rows).1 = e0) (w : World) (h : RR w v c rows) : Calls Tryd.prog 10 #[.agg #[v]] w fun e w' => e = .returned (.int .i64 e0) ∧ Ext w w' := by
  rw [← he]; exact CCheck_calls v c rows w h
theorem kn_c (k : Int) (n : Nat) (m : Int) (h : m = (n : Int)) (w : World) (hn : n ≤ 1000) : Calls Tryd.prog 36 #[.int .u8 k, .int .i64 m] w (RetRV w (List.replicate n (st1 k))) := by rw [h]; exact knits_calls k n w hn

theorem tx_c (v : Value) (w : World) (h : RR w v 3 [[st1 1, eP], [eC], List.replicate 2 (st1 1)]) (hy : Sy w) : Calls Tryd.prog 15 #[.agg #[v]] w fun e w' => e = .returned (.string { data := #[107, 32, 107, 10, 99, 49, 49, 70, 10, 107, 32, 112, 50, 10] }) ∧ Ext w w' := by
  have := CText_calls v 3 _ w h hy
  rw [ex_text] at this
  exact this
theorem rs_kp {w : World} {g : Nat} (hb : w.heap[g]? = some (.cells #[.int .u8 1, .int .u8 1, .int .i64 0, .int .i64 0, .bool false, .int .u8 2, .int .u8 2, .int .i64 0, .int .i64 0, .bool false] 33 (0, 0))) : RS w (.slice (some ⟨g, 0, none⟩) 2 2) 2 [st1 1, eP] := RS.of_blk hb rfl rfl (by decide)
theorem rs_c {w : World} {g : Nat} (hb : w.heap[g]? = some (.cells #[.int .u8 8, .int .u8 1, .int .i64 1, .int .i64 1, .bool true] 33 (0, 0))) : RS w (.slice (some ⟨g, 0, none⟩) 1 1) 1 [eC] := RS.of_blk hb rfl rfl (by decide)
theorem blk_at2 {w : World} {o o' : Obj} {g : Nat} (h : g = w.heap.size) (ho : o = o') : (w.alloc o).heap[g]? = some o' := by rw [← ho]; exact blk_at h
theorem tx_a {w0 : World} {u0 u1 u2 : Value} {g : Nat} (c2 : Nat) (hg : g = w0.heap.size) (h0 : RS (w0.alloc (.cells #[u0, u1, u2] 37)) u0 2 [st1 1, eP]) (h1 : RS (w0.alloc (.cells #[u0, u1, u2] 37)) u1 1 [eC]) (h2 : RS (w0.alloc (.cells #[u0, u1, u2] 37)) u2 c2 (List.replicate 2 (st1 1))) (hy : Sy (w0.alloc (.cells #[u0, u1, u2] 37))) :
    Calls Tryd.prog 15 #[.agg #[.slice (some ⟨g, 0, none⟩) 3 3]] (w0.alloc (.cells #[u0, u1, u2] 37)) fun e w' => e = .returned (.string { data := #[107, 32, 107, 10, 99, 49, 49, 70, 10, 107, 32, 112, 50, 10] }) ∧ Ext (w0.alloc (.cells #[u0, u1, u2] 37)) w' :=
  tx_c _ _ (RR.lit3 (blk_at hg) h0 h1 h2) hy
theorem pa_c (w : World) (hm : Mx w) (hy : Sy w) : Calls Tryd.prog 16 #[.string { data := #[107, 32, 107, 10, 107, 32, 120, 10] }] w fun e w' => (∃ a, e = .returned (.tuple #[.agg #[.slice a 0 0], .int .i64 2, .int .i64 4])) ∧ Ext w w' := by
  refine (CParse_calls eL _ w rfl (by decide) (by decide) (by decide) (by unfold GL; decide) hm hy).mono ?_
  rintro e w' ⟨v, he, hr, x⟩
  rw [ex_parse] at he hr
  obtain ⟨a, n, hv, hn, _⟩ := hr.open
  obtain rfl : n = 0 := hn
  exact ⟨⟨a, by rw [he, hv]; rfl⟩, x⟩

set_option maxHeartbeats 4000000 in
theorem lives13_calls (w : World) (hy : Sy w) (hm : Mx w) : Calls Tryd.prog 13 #[] w fun e w' => e = .returned (.bool true) ∧ Ext w w' := by
  have HY := Lib.hid (fun w' (x : Ext w w') => hy.ext x); have HM := Lib.hid (fun w' (x : Ext w w') => hm.ext x)
  clear hy hm
  go_enter Tryd.func13, Tryd.ntmps13
  go_wp2_with fail
  refine (of_calls 3 _).mono ?_
  rintro e w1 ⟨rfl, x⟩
  have X1 := Lib.hid (x)
  clear x
  go_wp2_with fail
  refine (of_calls 1 _).mono ?_
  rintro e w2 ⟨rfl, x⟩
  have X2 := Lib.hid (X1.out.trans x)
  clear x
  go_wp2_with fail
  refine (of_calls 1 _).mono ?_
  rintro e w3 ⟨rfl, x⟩
  have X3 := Lib.hid (X2.out.trans x)
  clear x
  go_wp2_with fail
  refine (of_calls 4 _).mono ?_
  rintro e w4 ⟨rfl, x⟩
  have X4 := Lib.hid (X3.out.trans x)
  clear x
  go_wp2_with fail
  refine (kn_c 1 4 4 rfl _ (by omega)).mono ?_
  rintro e w5 ⟨u5, rfl, r5, x⟩
  have X5 := Lib.hid ((X4.out.alloc _).trans x)
  have HA := Lib.hid (show RS w5 (.slice (some ⟨w4.heap.size, 0, none⟩) 4 4) 4 eA from RS.ext (RO.lit2 (w := w4) (l := eA) rfl (by rfl) (by decide)).rs x)
  obtain ⟨d5, hB⟩ := r5.rs
  obtain ⟨a5, n5, c5, rfl, hn5⟩ := r5.form
  have HB := Lib.hid hB
  clear r5 hB hn5
  clear x
  obtain ⟨ga, hga⟩ : ∃ ga, ga = w4.heap.size := ⟨_, rfl⟩
  rw [← hga] at HA ⊢
  clear hga
  go_wp2_with fail
  refine (of_calls 5 _).mono ?_
  rintro e w6 ⟨rfl, x⟩
  have X6 := Lib.hid (X5.out.trans x)
  replace HA := Lib.hid (HA.out.ext x)
  replace HB := Lib.hid (HB.out.ext x)
  clear x
  go_wp2_with fail
  refine (of_calls 2 _).mono ?_
  rintro e w7 ⟨rfl, x⟩
  have X7 := Lib.hid (X6.out.trans x)
  replace HA := Lib.hid (HA.out.ext x)
  replace HB := Lib.hid (HB.out.ext x)
  clear x
  go_wp2_with fail
  refine (of_calls 2 _).mono ?_
  rintro e w8 ⟨rfl, x⟩
  have X8 := Lib.hid (X7.out.trans x)
  replace HA := Lib.hid (HA.out.ext x)
  replace HB := Lib.hid (HB.out.ext x)
  clear x
  go_wp2_with fail
  refine (wd_c _ _ (RR.lit3 (blk_at (by simp)) (HA.out.ext (by (repeat (first | (with_reducible exact Ext.refl _) | (with_reducible apply Ext.alloc))))) (HB.out.ext (by (repeat (first | (with_reducible exact Ext.refl _) | (with_reducible apply Ext.alloc))))) (RS.of_blk (l := eD) (blk_old (blk_at rfl)) rfl rfl (by decide)))).mono ?_
  rintro e w9 ⟨v9, k9, rfl, i9, x⟩
  have X9 := Lib.hid (((X8.out.alloc _).alloc _).trans x)
  have HD := Lib.hid (show RS w9 (.slice (some ⟨w8.heap.size, 0, none⟩) 3 3) 3 eD from RS.ext (RS.of_blk (l := eD) (blk_old (blk_at rfl)) rfl rfl (by decide)) x)
  replace HA := Lib.hid (HA.out.ext (Ext.trans (by (repeat (first | (with_reducible exact Ext.refl _) | (with_reducible apply Ext.alloc)))) x))
  replace HB := Lib.hid (HB.out.ext (Ext.trans (by (repeat (first | (with_reducible exact Ext.refl _) | (with_reducible apply Ext.alloc)))) x))
  obtain ⟨a9, n9, k9', rfl, hn9, rfl, h9⟩ := i9.out
  obtain rfl : n9 = 4 := hn9
  obtain ⟨b9, o9, rfl, hc9⟩ := h9.at (show 0 < 4 by omega)
  have p0 := hc9 0 (by omega)
  have p1 := hc9 1 (by omega)
  have p2 := hc9 2 (by omega)
  have p3 := hc9 3 (by omega)
  rw [Nat.add_zero] at p0
  simp only [gi, List.getD_cons_zero, List.getD_cons_succ] at p0 p1 p2 p3
  clear i9 h9 hc9
  clear x
  obtain ⟨gd, hgd⟩ : ∃ gd, gd = w8.heap.size := ⟨_, rfl⟩
  rw [← hgd] at HD ⊢
  clear hgd
  obtain ⟨e1, e2, e3, e4, e5, e6⟩ := ex_facts
  have E2 := Lib.hid e2; have E3 := Lib.hid e3; have E4 := Lib.hid e4; have E5 := Lib.hid e5; have E6 := Lib.hid e6
  clear e1 e2 e3 e4 e5 e6
  go_wp2_with fail
  refine (ck_c _ 3 [eA, eB, eD] 0 E2.out _ (RR.lit3 (blk_at (by simp)) (HA.out.ext (by (repeat (first | (with_reducible exact Ext.refl _) | (with_reducible apply Ext.alloc))))) (HB.out.ext (by (repeat (first | (with_reducible exact Ext.refl _) | (with_reducible apply Ext.alloc))))) (HD.out.ext (by (repeat (first | (with_reducible exact Ext.refl _) | (with_reducible apply Ext.alloc))))))).mono ?_
  rintro e w10 ⟨rfl, x⟩
  have X10 := Lib.hid ((X9.out.alloc _).trans x)
  replace HA := Lib.hid (HA.out.ext (Ext.trans (by (repeat (first | (with_reducible exact Ext.refl _) | (with_reducible apply Ext.alloc)))) x))
  replace HB := Lib.hid (HB.out.ext (Ext.trans (by (repeat (first | (with_reducible exact Ext.refl _) | (with_reducible apply Ext.alloc)))) x))
  replace HD := Lib.hid (HD.out.ext (Ext.trans (by (repeat (first | (with_reducible exact Ext.refl _) | (with_reducible apply Ext.alloc)))) x))
  clear p0 p1 p2 p3
  clear x
  go_wp2_with fail
  refine (kn_c 1 3 3 rfl _ (by omega)).mono ?_
  rintro e w11 ⟨u11, rfl, r11, x⟩
  have X11 := Lib.hid (X10.out.trans x)
  replace HA := Lib.hid (HA.out.ext x)
  replace HB := Lib.hid (HB.out.ext x)
  replace HD := Lib.hid (HD.out.ext x)
  obtain ⟨d11, hB⟩ := r11.rs
  obtain ⟨a11, n11, c11, rfl, hn11⟩ := r11.form
  have HK := Lib.hid hB
  clear r11 hB hn11
  clear x
  go_wp2_with fail
  refine (ck_c _ 4 [eA, eB, eD, List.replicate 3 (st1 1)] 1 E3.out _ (RR.lit4 (blk_at (by simp)) (HA.out.ext (by (repeat (first | (with_reducible exact Ext.refl _) | (with_reducible apply Ext.alloc))))) (HB.out.ext (by (repeat (first | (with_reducible exact Ext.refl _) | (with_reducible apply Ext.alloc))))) (HD.out.ext (by (repeat (first | (with_reducible exact Ext.refl _) | (with_reducible apply Ext.alloc))))) (HK.out.ext (by (repeat (first | (with_reducible exact Ext.refl _) | (with_reducible apply Ext.alloc))))))).mono ?_
  rintro e w12 ⟨rfl, x⟩
  have X12 := Lib.hid ((X11.out.alloc _).trans x)
  replace HA := Lib.hid (HA.out.ext (Ext.trans (by (repeat (first | (with_reducible exact Ext.refl _) | (with_reducible apply Ext.alloc)))) x))
  replace HB := Lib.hid (HB.out.ext (Ext.trans (by (repeat (first | (with_reducible exact Ext.refl _) | (with_reducible apply Ext.alloc)))) x))
  replace HD := Lib.hid (HD.out.ext (Ext.trans (by (repeat (first | (with_reducible exact Ext.refl _) | (with_reducible apply Ext.alloc)))) x))
  clear x
  go_wp2_with fail
  refine (ck_c _ 3 [eB, eD, eA] 14 E4.out _ (RR.lit3 (blk_at (by simp)) (HB.out.ext (by (repeat (first | (with_reducible exact Ext.refl _) | (with_reducible apply Ext.alloc))))) (HD.out.ext (by (repeat (first | (with_reducible exact Ext.refl _) | (with_reducible apply Ext.alloc))))) (HA.out.ext (by (repeat (first | (with_reducible exact Ext.refl _) | (with_reducible apply Ext.alloc))))))).mono ?_
  rintro e w13 ⟨rfl, x⟩
  have X13 := Lib.hid ((X12.out.alloc _).trans x)
  clear x
  go_wp2_with fail
  refine (kn_c 6 1 1 rfl _ (by omega)).mono ?_
  rintro e w14 ⟨u14, rfl, r14, x⟩
  have X14 := Lib.hid (X13.out.trans x)
  obtain ⟨d14, hB⟩ := r14.rs
  obtain ⟨a14, n14, c14, rfl, hn14⟩ := r14.form
  have HT := Lib.hid hB
  clear r14 hB hn14
  clear x
  go_wp2_with fail
  refine (ck_c _ 3 [eT, eT, eT] 9 E5.out _ (RR.lit3 (blk_at (by simp)) (HT.out.ext (by (repeat (first | (with_reducible exact Ext.refl _) | (with_reducible apply Ext.alloc))))) (HT.out.ext (by (repeat (first | (with_reducible exact Ext.refl _) | (with_reducible apply Ext.alloc))))) (HT.out.ext (by (repeat (first | (with_reducible exact Ext.refl _) | (with_reducible apply Ext.alloc))))))).mono ?_
  rintro e w15 ⟨rfl, x⟩
  have X15 := Lib.hid ((X14.out.alloc _).trans x)
  replace HT := Lib.hid (HT.out.ext (Ext.trans (by (repeat (first | (with_reducible exact Ext.refl _) | (with_reducible apply Ext.alloc)))) x))
  clear x
  go_wp2_with fail
  refine (kn_c 1 1 1 rfl _ (by omega)).mono ?_
  rintro e w16 ⟨u16, rfl, r16, x⟩
  have X16 := Lib.hid (X15.out.trans x)
  replace HT := Lib.hid (HT.out.ext x)
  obtain ⟨d16, hB⟩ := r16.rs
  obtain ⟨a16, n16, c16, rfl, hn16⟩ := r16.form
  have HK := Lib.hid hB
  clear r16 hB hn16
  clear x
  go_wp2_with fail
  refine (ck_c _ 3 [eT, eT, List.replicate 1 (st1 1)] 0 E6.out _ (RR.lit3 (blk_at (by simp)) (HT.out.ext (by (repeat (first | (with_reducible exact Ext.refl _) | (with_reducible apply Ext.alloc))))) (HT.out.ext (by (repeat (first | (with_reducible exact Ext.refl _) | (with_reducible apply Ext.alloc))))) (HK.out.ext (by (repeat (first | (with_reducible exact Ext.refl _) | (with_reducible apply Ext.alloc))))))).mono ?_
  rintro e w17 ⟨rfl, x⟩
  have X17 := Lib.hid ((X16.out.alloc _).trans x)
  clear x
  go_wp2
  obtain ⟨wp, hwp⟩ : ∃ wp, wp = (w17.alloc (.cells #[.int .u8 2, .int .u8 2, .int .i64 0, .int .i64 0, .bool false] 33)).alloc (.cells #[.int .u8 8, .int .u8 1, .int .i64 1, .int .i64 1, .bool true] 33) := ⟨_, rfl⟩
  have hp1 : B5 wp w17.heap.size eP 33 := by rw [hwp]; exact (B5.new w17 eP _).ext ((Ext.refl _).alloc _)
  have hp2 : B5 wp (w17.heap.size + 1) eC 33 := by
    rw [hwp]
    have := B5.new (w17.alloc (.cells #[.int .u8 2, .int .u8 2, .int .i64 0, .int .i64 0, .bool false] 33)) eC 33
    simpa [eC] using this
  obtain ⟨q0_1, q0_2, q0_3, q0_4, q0_5⟩ := hp1.cl
  obtain ⟨q0_6, q0_7, q0_8, q0_9, q0_10⟩ := hp2.cl
  simp only [eP] at q0_1 q0_2 q0_3 q0_4 q0_5
  simp only [eC] at q0_6 q0_7 q0_8 q0_9 q0_10
  have Xw := Lib.hid (show Ext w wp by rw [hwp]; exact (X17.out.alloc _).alloc _)
  rw [← hwp]
  clear hwp hp1 hp2
  clear HA HB HD HT HK E2 E3 E4 E5 E6 X1 X2 X3 X4 X5 X6 X7 X8 X9 X10 X11 X12 X13 X14 X15 X16 X17
  go_region_held3 (fun w' => w'.cell? ⟨w17.heap.size, 0, Option.none⟩ = some (.int .u8 2) ∧ w'.cell? ⟨w17.heap.size, 1, Option.none⟩ = some (.int .u8 2) ∧ w'.cell? ⟨w17.heap.size, 2, Option.none⟩ = some (.int .i64 0) ∧ w'.cell? ⟨w17.heap.size, 3, Option.none⟩ = some (.int .i64 0) ∧ w'.cell? ⟨w17.heap.size, 4, Option.none⟩ = some (.bool false) ∧ w'.cell? ⟨w17.heap.size + 1, 0, Option.none⟩ = some (.int .u8 8) ∧ w'.cell? ⟨w17.heap.size + 1, 1, Option.none⟩ = some (.int .u8 1) ∧ w'.cell? ⟨w17.heap.size + 1, 2, Option.none⟩ = some (.int .i64 1) ∧ w'.cell? ⟨w17.heap.size + 1, 3, Option.none⟩ = some (.int .i64 1) ∧ w'.cell? ⟨w17.heap.size + 1, 4, Option.none⟩ = some (.bool true)) (first | exact ⟨q0_1, q0_2, q0_3, q0_4, q0_5, q0_6, q0_7, q0_8, q0_9, q0_10⟩ | exact ⟨q1_1, q1_2, q1_3, q1_4, q1_5, q1_6, q1_7, q1_8, q1_9, q1_10⟩ | exact ⟨q2_1, q2_2, q2_3, q2_4, q2_5, q2_6, q2_7, q2_8, q2_9, q2_10⟩ | exact ⟨q3_1, q3_2, q3_3, q3_4, q3_5, q3_6, q3_7, q3_8, q3_9, q3_10⟩ | go_keep) (first
    | (go_at_call 35; (refine (of_calls 1 _).mono ?_); intro e wo hh; obtain ⟨rfl, x⟩ := hh; have Xo : Hid (Ext wp wo) := Lib.hid (Ext.trans (by (repeat (first | (with_reducible exact Ext.refl _) | (with_reducible apply Ext.drew) | (with_reducible apply Ext.drewN) | (with_reducible apply Ext.alloc)))) x); have q1_1 := Xo.out.cell q0_1; have q1_2 := Xo.out.cell q0_2; have q1_3 := Xo.out.cell q0_3; have q1_4 := Xo.out.cell q0_4; have q1_5 := Xo.out.cell q0_5; have q1_6 := Xo.out.cell q0_6; have q1_7 := Xo.out.cell q0_7; have q1_8 := Xo.out.cell q0_8; have q1_9 := Xo.out.cell q0_9; have q1_10 := Xo.out.cell q0_10; have Yo := Lib.hid x; clear x)
    | (go_at_call 36; (refine (kn_c 1 2 2 rfl _ (by omega)).mono ?_); intro e wk hh; obtain ⟨uk, rfl, rk, x⟩ := hh; have Xk : Hid (Ext wp wk) := Lib.hid (Ext.trans Xo.out (Ext.trans (by (repeat (first | (with_reducible exact Ext.refl _) | (with_reducible apply Ext.drew) | (with_reducible apply Ext.drewN) | (with_reducible apply Ext.alloc)))) x)); have q2_1 := Xk.out.cell q0_1; have q2_2 := Xk.out.cell q0_2; have q2_3 := Xk.out.cell q0_3; have q2_4 := Xk.out.cell q0_4; have q2_5 := Xk.out.cell q0_5; have q2_6 := Xk.out.cell q0_6; have q2_7 := Xk.out.cell q0_7; have q2_8 := Xk.out.cell q0_8; have q2_9 := Xk.out.cell q0_9; have q2_10 := Xk.out.cell q0_10; have Yk := Lib.hid x; obtain ⟨dk, hK⟩ := rk.rs; obtain ⟨ak, nk, ck, rfl, hnk⟩ := rk.form; have HK2 := Lib.hid hK; clear rk hK hnk; clear x)
    | (go_at_call 15; (refine (tx_a dk ?_ ?_ ?_ (HK2.out.ext ?_) (HY.out _ ?_)).mono ?_); (focus (simp)); (focus (refine rs_kp ?_; (repeat (first | (refine blk_at2 (by simp; done) ?_; rfl) | (with_reducible apply blk_old) | (with_reducible apply blk_drew) | (with_reducible apply Yk.out.block) | (with_reducible apply Yo.out.block))))); (focus (refine rs_c ?_; (repeat (first | (refine blk_at2 (by simp; done) ?_; rfl) | (with_reducible apply blk_old) | (with_reducible apply blk_drew) | (with_reducible apply Yk.out.block) | (with_reducible apply Yo.out.block))))); (focus (repeat (first | (with_reducible exact Ext.refl _) | (with_reducible apply Ext.drew) | (with_reducible apply Ext.drewN) | (with_reducible apply Ext.alloc)))); (focus (refine Ext.trans (Xw.out.trans Xk.out) ?_; (repeat (first | (with_reducible exact Ext.refl _) | (with_reducible apply Ext.drew) | (with_reducible apply Ext.drewN) | (with_reducible apply Ext.alloc))))); intro e wt hh; obtain ⟨rfl, x⟩ := hh; have Xt : Hid (Ext wp wt) := Lib.hid (Ext.trans Xk.out (Ext.trans (by (repeat (first | (with_reducible exact Ext.refl _) | (with_reducible apply Ext.drew) | (with_reducible apply Ext.drewN) | (with_reducible apply Ext.alloc)))) x)); have q3_1 := Xt.out.cell q0_1; have q3_2 := Xt.out.cell q0_2; have q3_3 := Xt.out.cell q0_3; have q3_4 := Xt.out.cell q0_4; have q3_5 := Xt.out.cell q0_5; have q3_6 := Xt.out.cell q0_6; have q3_7 := Xt.out.cell q0_7; have q3_8 := Xt.out.cell q0_8; have q3_9 := Xt.out.cell q0_9; have q3_10 := Xt.out.cell q0_10; clear x))
  all_goals
    have Xt2 := Lib.hid (Xw.out.trans Xt.out)
    clear Xw Xt
    go_wp2_with fail
    refine (pa_c _ (HM.out _ Xt2.out) (HY.out _ Xt2.out)).mono ?_
    rintro e wz ⟨⟨a, rfl⟩, x⟩
    have Xz := Lib.hid (Xt2.out.trans x)
    clear x
    go_wp2
    go_ret
    exact ⟨rfl, Xz.out.alloc _⟩
end Go.Proofs.YtkolebjpeaigcaaDoor
