/- Texts of this claim in one file: libraries and walks. -/
import Derived.Deep.RegionHeld3
import Derived.Test.YtinijapkipeamaaDoorMOf0
import Derived.Test.YtinijapkipeamaaDoorMOf7
import Derived.Test.YtinijapkipeamaaDoorMOf9
import Derived.Test.YtinijapkipeamaaDoorMOf11
import Derived.Test.YtinijapkipeamaaDoorMOf13
/- shapes.Of. -/
namespace Go.Proofs.YtinijapkipeamaaDoor
set_option linter.unusedVariables false
set_option linter.unusedSimpArgs false
set_option maxRecDepth 8000
open Go Go.RowKit

/-- The yarn of the first stitch. -/
def y00 (rows : List (List St)) : Int := (si (sw rows 0) 0).y
def oferr (rows : List (List St)) : Int :=
  if (cloads rows).1 ≠ 0 then (cloads rows).1 else if cherr (wds rows) (y00 rows) = 0 ∧ chres (wds rows) (y00 rows) = rows then 0 else 7
/-- An outline, a yarn and an error are returned. -/
def RetOf (w0 : World) (l : List Int) (y err : Int) (e : Ending) (w' : World) : Prop := ∃ v c, e = .returned (.tuple #[v, .int .u8 y, .int .i64 err]) ∧ IS .i64 w' v c l ∧ Ext w0 w'
theorem cloads_cerr {rows : List (List St)} (h : (cloads rows).1 = 0) : cerr rows = 0 := by
  unfold cloads at h
  by_cases hc : cerr rows ≠ 0
  · rw [if_pos hc] at h; exact h
  · omega

set_option maxHeartbeats 4000000 in
theorem Of_calls (v : Value) (c : Nat) (rows : List (List St)) (w : World) (h : RR w v c rows) (hy : ∀ i, i < rows.length → ∀ s ∈ sw rows i, 0 ≤ s.y ∧ s.y ≤ 255) :
    Calls Tryd.prog 28 #[.agg #[v]] w (RetOf w (if oferr rows = 0 then wds rows else []) (if oferr rows = 0 then y00 rows else 0) (oferr rows)) := by
  have hck := fun w' (x : Ext w w') => CCheck_calls v c rows w' (h.ext x)
  have hsame := fun v2 c2 m w' (x : Ext w w') (h2 : RR w' v2 c2 m) => CSame_calls v2 v c2 c m rows w' h2 (h.ext x)
  have hRR := h
  obtain ⟨ao, n, rfl, hn, hc, hcm, hat⟩ := h.open
  obtain ⟨W, hW⟩ : ∃ W, W = w.alloc (.cells #[.slice ao n c] 26) := ⟨_, rfl⟩
  have xW : Ext w W := by rw [hW]; exact (Ext.refl w).alloc _
  have b0 : W.cell? ⟨w.heap.size, 0, none⟩ = some (.slice ao n c) := by rw [hW, World.cell?_alloc_at (hn := rfl)]; rfl
  have HBx := Lib.hid (fun w' (x : Ext W w') => x.cell b0); have XW := Lib.hid xW
  have hbad : ∀ w' e, Ext w w' → e = oferr rows → e ≠ 0 → RetOf w (if oferr rows = 0 then wds rows else []) (if oferr rows = 0 then y00 rows else 0) (oferr rows) (.returned (.tuple #[.slice none 0 0, .int .u8 0, .int .i64 e])) w' := fun w' e x h1 h2 => by
    rw [if_neg (by omega), if_neg (by omega), ← h1]; exact ⟨_, 0, rfl, IS.nil _ _, x⟩
  have hgood : ∀ w' v c, Ext w w' → oferr rows = 0 → IS .i64 w' v c (wds rows) → RetOf w (if oferr rows = 0 then wds rows else []) (if oferr rows = 0 then y00 rows else 0) (oferr rows) (.returned (.tuple #[v, .int .u8 (y00 rows), .int .i64 0])) w' := fun w' v c x h1 h2 => by
    rw [if_pos h1, if_pos h1, h1]; exact ⟨v, c, rfl, h2, x⟩
  have HBad := Lib.hid hbad; have HGood := Lib.hid hgood
  have hof0 : oferr rows = if (cloads rows).1 ≠ 0 then (cloads rows).1 else if cherr (wds rows) (y00 rows) = 0 ∧ chres (wds rows) (y00 rows) = rows then 0 else 7 := rfl
  generalize (if oferr rows = 0 then wds rows else []) = RL at *
  generalize (if oferr rows = 0 then y00 rows else 0) = RY at *
  generalize oferr rows = RE at *
  by_cases he : (cloads rows).1 = 0
  · have hce := cloads_cerr he
    obtain ⟨r1, r2, r3, r4⟩ := cerr_zero hce
    have hz := fun i (hi : i < rows.length) => rchk_zero (r3 i hi)
    have hwd := fun w' (x : Ext w w') => Widths_calls _ c rows w' (hRR.ext x) (fun i hi => by have := hz i hi; omega) (by omega)
    have hck0 := fun w' x => hck w' x
    rw [he] at hck0
    obtain ⟨b, o, a, m, d, rfl, hc0, hr0⟩ := hat 0 (by omega)
    rw [Nat.add_zero] at hc0
    obtain ⟨ao2, n2, e1, e2, _, _, e5⟩ := hr0.open
    simp only [Value.slice.injEq] at e1
    obtain ⟨rfl, rfl, _⟩ := e1
    have hm0 : 0 < m := by have := hz 0 (by omega); omega
    obtain ⟨b2, o2, rfl, h5⟩ := e5 0 hm0
    have hyc := h5.2.1
    rw [Nat.zero_mul, Nat.add_zero] at hyc
    have hyb : 0 ≤ y00 rows ∧ y00 rows ≤ 255 := hy 0 (by omega) _ (si_mem (by omega))
    have hch := fun w' v c (hi : IS .i64 w' v c (wds rows)) => Chart_calls v c (wds rows) (y00 rows) w' hi hyb
    have hof : RE = if cherr (wds rows) (y00 rows) = 0 ∧ chres (wds rows) (y00 rows) = rows then 0 else 7 := by rw [hof0, if_neg (by omega)]
    have hyc' : w.cell? ⟨b2, o2 + 1, none⟩ = some (.int .u8 (y00 rows)) := hyc
    generalize y00 rows = Y at *
    have HC0 := Lib.hid (fun w' (x : Ext w w') => x.cell hc0); have HY := Lib.hid (fun w' (x : Ext w w') => x.cell hyc')
    have HCk := Lib.hid hck0; have HWd := Lib.hid hwd; have HCh := Lib.hid hch; have HOf := Lib.hid hof; have HSa := Lib.hid hsame
    have t0 : (0 : Int) < n := by omega
    have t1 : (0 : Int) < m := by omega
    have t0' : 0 < n := by omega
    have bb := b0
    rw [hW] at bb
    have HW := Lib.hid hW
    clear hof0 hgood hck hck0 hsame hRR hbad he hce r1 r2 r3 r4 hz hwd hc0 hr0 e2 e5 h5 hyc hyc' hch hof hat h b0 hW xW hy hn
    go_enter Tryd.func28, Tryd.ntmps28
    go_wp2_with fail
    rw [← HW.out]
    refine (HCk.out _ XW.out).mono ?_
    rintro e w1 ⟨rfl, x1⟩
    have X1 := Lib.hid (XW.out.trans x1)
    have XW1 := Lib.hid x1
    have c1 := HBx.out _ x1
    have c2 := HC0.out _ X1.out
    have c3 := HY.out _ X1.out
    clear x1 HCk bb
    go_wp2
    go_region_held3 (fun w' => w'.cell? ⟨w.heap.size, 0, Option.none⟩ = some (.slice (some ⟨b, o, Option.none⟩) n c) ∧ w'.cell? ⟨b, o, Option.none⟩ = some (.slice (some ⟨b2, o2, Option.none⟩) m d) ∧ w'.cell? ⟨b2, o2 + 1, Option.none⟩ = some (.int .u8 Y))
      (first | exact ⟨c1, c2, c3⟩ | exact ⟨z1, z2, z3⟩ | go_keep) (first
      | (go_at_call 27; (refine (HWd.out _ ?_).mono ?_); (focus (refine X1.out.trans ?_; repeat (first | (with_reducible exact Ext.refl _) | (with_reducible apply Ext.drew) | (with_reducible apply Ext.drewN)))); intro e w2 hh; obtain ⟨v2, k2, rfl, i2, x2⟩ := hh; have X2 : Hid (Ext w1 w2) := Lib.hid (Ext.trans (by (repeat (first | (with_reducible exact Ext.refl _) | (with_reducible apply Ext.drew) | (with_reducible apply Ext.drewN)))) x2); have I2 := Lib.hid i2; have z1 := X2.out.cell c1; have z2 := X2.out.cell c2; have z3 := X2.out.cell c3; clear i2 x2))
    have X3 := Lib.hid (X1.out.trans X2.out)
    clear z1 z2 z3 c1 c2 c3
    go_wp2_with fail
    refine (HCh.out _ _ _ I2.out).mono ?_
    rintro e w3 ⟨v3, rfl, r3, x3⟩
    obtain ⟨a3, n3, rfl, q3⟩ := r3.open
    clear q3
    obtain ⟨cc, hcc⟩ : ∃ cc, cc = (chres (wds rows) Y).length := ⟨_, rfl⟩
    rw [← hcc] at r3 ⊢
    obtain ⟨w4, hw4⟩ : ∃ w4, w4 = w3.alloc (.cells #[.slice a3 n3 cc] 26) := ⟨_, rfl⟩
    have x4 : Ext w3 w4 := by rw [hw4]; exact (Ext.refl w3).alloc _
    have d4 : w4.cell? ⟨w3.heap.size, 0, none⟩ = some (.slice a3 n3 cc) := by rw [hw4, World.cell?_alloc_at (hn := rfl)]; rfl
    have X4 := Lib.hid (X3.out.trans (x3.trans x4))
    have d5 := HBx.out _ (XW1.out.trans (X2.out.trans (x3.trans x4)))
    have R4 := Lib.hid (r3.ext x4)
    rw [hw4] at d4 d5
    have HW4 := Lib.hid hw4
    have I4 := Lib.hid (I2.out.ext (x3.trans x4))
    have hsa := HSa.out _ _ _ w4 X4.out R4.out
    have HSa2 := Lib.hid hsa
    have hof := HOf.out
    clear r3 x3 x4 hcc hw4 hsa HCh HWd
    by_cases hce : cherr (wds rows) Y = 0
    · rw [hce]
      by_cases hsm : chres (wds rows) Y = rows
      · rw [if_pos ⟨hce, hsm⟩] at hof
        have hsa := HSa2.out
        rw [decide_eq_true hsm] at hsa
        have HS3 := Lib.hid hsa
        have HOf2 := Lib.hid hof
        clear hof hsa hce hsm
        go_wp2_with fail
        rw [← HW4.out]
        refine HS3.out.mono ?_
        rintro e w5 ⟨rfl, x5⟩
        have HF := Lib.hid (HGood.out w5 _ _ (X4.out.trans x5) HOf2.out (I4.out.ext x5))
        clear x5 d4 d5
        go_wp2
        exact bodyPost_ret (v := .tuple #[v2, .int .u8 Y, .int .i64 0]) (by simp [results, Tryd.results28, go_sem]) rfl HF.out
      · rw [if_neg (fun h => hsm h.2)] at hof
        have hsa := HSa2.out
        rw [decide_eq_false hsm] at hsa
        have HS3 := Lib.hid hsa
        have HOf2 := Lib.hid hof
        clear hof hsa hce hsm
        go_wp2_with fail
        rw [← HW4.out]
        refine HS3.out.mono ?_
        rintro e w5 ⟨rfl, x5⟩
        have HF := Lib.hid (HBad.out w5 7 (X4.out.trans x5) HOf2.out.symm (by decide))
        clear x5 d4 d5
        go_wp2
        exact bodyPost_ret (v := .tuple #[.slice none 0 0, .int .u8 0, .int .i64 7]) (by simp [results, Tryd.results28, go_sem]) rfl HF.out
    · rw [if_neg (fun h => hce h.1)] at hof
      have HF := Lib.hid (HBad.out w4 7 X4.out hof.symm (by decide))
      have tq : (cherr (wds rows) Y != 0) = true := by rw [bne, beq_eq_false_iff_ne.2 hce]; rfl
      rw [HW4.out] at HF
      clear hof hce d4 d5
      go_wp2
      exact bodyPost_ret (v := .tuple #[.slice none 0 0, .int .u8 0, .int .i64 7]) (by simp [results, Tryd.results28, go_sem]) rfl HF.out
  · have hof : (cloads rows).1 = RE := by rw [hof0, if_pos he]
    have HF := Lib.hid (fun w' x => HBad.out w' RE x rfl (by rw [← hof]; exact he))
    have hck0 := fun w' x => hck w' x
    rw [hof] at hck0
    have tq : (RE != 0) = true := by rw [bne, beq_eq_false_iff_ne.2 (by rw [← hof]; exact he)]; rfl
    have HCk := Lib.hid hck0
    have HW := Lib.hid hW
    rw [hW] at b0
    clear hof hof0 hgood hck hck0 hsame hRR hbad he hat h hW xW hy hn
    go_enter Tryd.func28, Tryd.ntmps28
    go_wp2_with fail
    rw [← HW.out]
    refine (HCk.out _ XW.out).mono ?_
    rintro e w1 ⟨rfl, x1⟩
    have HF2 := Lib.hid (HF.out _ (XW.out.trans x1))
    clear x1 HCk b0
    go_wp2
    exact bodyPost_ret (v := .tuple #[.slice none 0 0, .int .u8 0, .int .i64 RE]) (by simp [results, Tryd.results28, go_sem]) rfl HF2.out
end Go.Proofs.YtinijapkipeamaaDoor
/- More for walks: blocks of two cells (a struct of two fields that lies in memory). -/
namespace Go.Proofs.YtinijapkipeamaaDoor
set_option linter.unusedVariables false
set_option linter.unusedSimpArgs false
open Go Go.RowKit

/-- Block b holds a struct of two fields. -/
def B2 (w : World) (b : Nat) (x y : Value) (t : TypeId) : Prop := w.heap[b]? = some (.cells #[x, y] t (0, 0))
theorem B2.c0 {w : World} {b : Nat} {x y : Value} {t : TypeId} (h : B2 w b x y t) : w.cell? ⟨b, 0, none⟩ = some x := by unfold B2 at h; simp [World.cell?, h]
theorem B2.c1 {w : World} {b : Nat} {x y : Value} {t : TypeId} (h : B2 w b x y t) : w.cell? ⟨b, 1, none⟩ = some y := by unfold B2 at h; simp [World.cell?, h]
theorem B2.f0 {w : World} {b : Nat} {x y : Value} {t : TypeId} (h : B2 w b x y t) : w.frozen? ⟨b, 0, none⟩ = false := by unfold B2 at h; simp [World.frozen?, h]
theorem B2.f1 {w : World} {b : Nat} {x y : Value} {t : TypeId} (h : B2 w b x y t) : w.frozen? ⟨b, 1, none⟩ = false := by unfold B2 at h; simp [World.frozen?, h]
theorem B2.ext {w w' : World} {b : Nat} {x y : Value} {t : TypeId} (h : B2 w b x y t) (e : Ext w w') : B2 w' b x y t := Ext.block e h
theorem B2.new (w : World) (x y : Value) (t : TypeId) : B2 (w.alloc (.cells #[x, y] t)) w.heap.size x y t := Deep.blk_alloc_new _ _
theorem B2.lt {w : World} {b : Nat} {x y : Value} {t : TypeId} (h : B2 w b x y t) : b < w.heap.size := World.block_lt_of_cell? w _ h.c0
theorem B2.alloc {w : World} {b : Nat} {x y : Value} {t : TypeId} (h : B2 w b x y t) (o : Obj) : B2 (w.alloc o) b x y t := h.ext ((Ext.refl w).alloc o)
theorem B2.set0 {w : World} {b : Nat} {x y u : Value} {t : TypeId} (h : B2 w b x y t) : B2 (w.setCell ⟨b, 0, none⟩ u) b u y t := by
  unfold B2 at *
  have hlt := lt_of_block h
  have h' : w.heap[b] = .cells #[x, y] t (0, 0) := by simpa [Array.getElem?_eq_getElem hlt] using h
  show (w.heap.modify b _)[b]? = _
  rw [Array.getElem?_eq_getElem (by simpa using hlt), Array.getElem_modify_self, h']
  rfl
theorem B2.set1 {w : World} {b : Nat} {x y u : Value} {t : TypeId} (h : B2 w b x y t) : B2 (w.setCell ⟨b, 1, none⟩ u) b x u t := by
  unfold B2 at *
  have hlt := lt_of_block h
  have h' : w.heap[b] = .cells #[x, y] t (0, 0) := by simpa [Array.getElem?_eq_getElem hlt] using h
  show (w.heap.modify b _)[b]? = _
  rw [Array.getElem?_eq_getElem (by simpa using hlt), Array.getElem_modify_self, h']
  rfl
theorem B2.set2 {w : World} {b : Nat} {x y : Value} {t : TypeId} (h : B2 w b x y t) (u v : Value) : B2 ((w.setCell ⟨b, 0, none⟩ u).setCell ⟨b, 1, none⟩ v) b u v t := h.set0.set1
theorem B2.setOther {w : World} {b : Nat} {x y u : Value} {t : TypeId} {a : Addr} (h : B2 w b x y t) (hn : b ≠ a.block) : B2 (w.setCell a u) b x y t := by
  unfold B2 at *
  rw [Deep.blk_setCell_other _ _ _ _ hn]; exact h
theorem B2.setOther2 {w : World} {b : Nat} {x y : Value} {t : TypeId} (h : B2 w b x y t) (c : Nat) (hn : b ≠ c) (u v : Value) : B2 ((w.setCell ⟨c, 0, none⟩ u).setCell ⟨c, 1, none⟩ v) b x y t := (h.setOther hn).setOther hn
theorem Ext.set2 {w w' : World} (h : Ext w w') (c : Nat) (hc : w.heap.size ≤ c) (u v : Value) : Ext w ((w'.setCell ⟨c, 0, none⟩ u).setCell ⟨c, 1, none⟩ v) := (h.setCell hc _).setCell hc _

/-- Strings: equal or not, in the walk's words. -/
theorem str_eq {a b : ByteArray} (h : a = b) : (a.toList == b.toList) = true := by rw [h]; simp
theorem str_ne {a b : ByteArray} (h : a ≠ b) : (a.toList == b.toList) = false := by
  rw [beq_eq_false_iff_ne]
  intro e
  rw [ByteArray.toList_eq, ByteArray.toList_eq] at e
  exact h (ByteArray.ext (Array.toList_inj.1 e))
theorem str_nonempty {a : ByteArray} (h : 0 < a.size) : a.toList.isEmpty = false := by
  rw [ByteArray.toList_eq, List.isEmpty_eq_false_iff]
  intro e
  have : a.data.toList.length = 0 := by rw [e]; rfl
  rw [Array.length_toList] at this
  have h2 : a.data.size = a.size := rfl
  omega
end Go.Proofs.YtinijapkipeamaaDoor
/- The outlines of plain data: the walk. -/
namespace Go.Proofs.YtinijapkipeamaaDoor
set_option linter.unusedVariables false
set_option linter.unusedSimpArgs false
set_option maxRecDepth 8000
open Go Go.RowKit

set_option maxHeartbeats 2000000 in
theorem O_calls (f : Int) (v : Value) (c : Nat) (st : List Int) (w : World) (h : IS .u8 w v c st) (hf : 0 ≤ f ∧ f ≤ 255) (hs : ∀ i, i < st.length → 0 ≤ gi st i ∧ gi st i ≤ 255) :
    Calls Tryd.prog 20 #[.agg #[.int .u8 f, v]] w (RetX .i64 w (oof f st)) := by
  obtain ⟨ao, n, c', rfl, hn, rfl, hIS⟩ := h.out
  obtain ⟨W, hW⟩ : ∃ W, W = w.alloc (.cells #[.int .u8 f, .slice ao n c'] 44) := ⟨_, rfl⟩
  have xW : Ext w W := by rw [hW]; exact (Ext.refl w).alloc _
  have hB := B2.new w (.int .u8 f) (.slice ao n c') 44
  have c0 := hB.c0; have c1 := hB.c1
  have hbx : ∀ w', Ext W w' → w'.cell? ⟨w.heap.size, 1, none⟩ = some (.slice ao n c') := fun w' x => by rw [hW] at x; exact x.cell c1
  obtain ⟨M, hM⟩ : ∃ M, M = min n 15 := ⟨_, rfl⟩
  have hM15 : M ≤ 15 ∧ M ≤ n := by omega
  have hof : oof f st = olist f st M ++ (if M % 2 = 0 then [oat f st M] else []) := by unfold oof; rw [hM, hn]
  have hbd := oat_bd f st
  have hsc := olist_succ f st
  have hst2 : ∀ k, oat f st (k + 1) = stp (oat f st k) (gi st k) := fun k => rfl
  have hln := olist_len f st
  have hs2 : ∀ i, i < n → 0 ≤ gi st i ∧ gi st i ≤ 255 := fun i hi => hs i (by omega)
  have h0 : oat f st 0 = 2 + f % 15 := rfl
  have HBx := Lib.hid hbx; have HBd := Lib.hid hbd; have HSc := Lib.hid hsc; have HSt := Lib.hid hst2; have HLn := Lib.hid hln; have HI := Lib.hid (hIS.ext xW); have HS := Lib.hid hs2; have HOf := Lib.hid hof; have HMn := Lib.hid hM; have XW := Lib.hid xW
  have w1 : IntKind.u8.wrap (f % 15) = f % 15 := IntWalk.u8_in _ ⟨by omega, by omega⟩
  have w2 : IntKind.i64.wrap (f % 15) = f % 15 := IntWalk.i64_in _ ⟨by omega, by omega⟩
  have w3 : IntKind.i64.wrap (2 + f % 15) = oat f st 0 := by rw [h0]; exact IntWalk.i64_in _ ⟨by omega, by omega⟩
  have hstart : (W.alloc (.cells #[.int .i64 (oat f st 0)] 3)).ownsRow W.heap.size 3 1 (.slice (some ⟨W.heap.size, 0, none⟩) 1 1) 1 [.int .i64 (oat f st 0)] :=
    own_of_row (World.rowIs_alloc W #[.int .i64 (oat f st 0)] 3 (fun _ => .int .i64 (oat f st 0)) (fun i hi => by simp at hi; subst hi; rfl)) (m := 1) (Nat.le_refl _) (by unfold maxLen; simp)
  have HSt0 := Lib.hid hstart
  obtain ⟨f1, f2⟩ := hf
  clear hbx hbd hsc hst2 hln hIS hs2 hof hM xW h hs hB hn h0 hstart
  go_enter Tryd.func20, Tryd.ntmps20
  go_wp2
  clear c0 c1 w1 w2 w3
  rw [← hW]
  have hWs : W.heap.size = w.heap.size + 1 := by rw [hW]; simp
  rw [← hWs]
  have HWs := Lib.hid hWs
  clear hWs hW
  go_loopw [3, 4, 5, 6] (fun x l i _ wr => ∃ k : Nat, k ≤ M ∧ i = .int .i64 k ∧ x = .int .i64 (oat f st k) ∧ Hid (wr.ownsRow W.heap.size 3 1 l (k + 1) ((olist f st k).map (Value.int .i64)) ∧ Ext W wr)) (fun _ _ i _ _ => M - (intOf i).toNat)
  case atStart => exact ⟨0, by omega, rfl, rfl, Lib.hid ⟨by simpa [olist] using HSt0.out, (Ext.refl W).alloc _⟩⟩
  case round =>
    obtain ⟨k, hk, rfl, rfl, H⟩ := hrel
    have b1 := HBx.out _ H.out.2
    have hsz := H.out.2.size
    by_cases hlt : k < M
    · have k1 : (k : Int) < n := by omega
      have k2 : (k : Int) < 15 := by omega
      obtain ⟨b, o, rfl, hc⟩ := HI.out.at (show k < n by omega)
      replace hc := H.out.2.cell (hc k (by omega))
      have hx := HBd.out k
      have hy := HBd.out (k + 1)
      have hso := HSt.out k
      have hsc := HSc.out k
      obtain ⟨s1, s2⟩ := HS.out k (by omega)
      generalize oat f st k = X at *
      generalize gi st k = s at *
      generalize hN : oat f st (k + 1) = Y at *
      obtain ⟨D, hD⟩ : ∃ D, D = s % 5 - 2 := ⟨_, rfl⟩
      unfold stp at hso
      rw [← hD] at hso
      have v1 : IntKind.u8.wrap (s % 5) = s % 5 := IntWalk.u8_in _ ⟨by omega, by omega⟩
      have v2 : IntKind.i64.wrap (s % 5) = s % 5 := IntWalk.i64_in _ ⟨by omega, by omega⟩
      have v3 : IntKind.i64.wrap (s % 5 - 2) = D := by rw [← hD]; exact IntWalk.i64_in _ ⟨by omega, by omega⟩
      have v4 : IntKind.i64.wrap (X + D) = X + D := IntWalk.i64_in _ ⟨by omega, by omega⟩
      have HSo := Lib.hid hso; have HSn := Lib.hid hsc; have HNn := Lib.hid hN
      clear hso hsc hN hD hx hy
      by_cases hin : 2 ≤ X + D ∧ X + D ≤ 16
      · obtain ⟨i1, i2⟩ := hin
        have hY := HSo.out
        rw [if_pos ⟨i1, i2⟩] at hY
        have HY := Lib.hid hY
        clear hY
        go_wp2_with (at_builtin; refine app_own eiInt rfl _ _ rfl W.heap.size _ (k + 1) _ rfl (H.out.1.alloc _) _ _ _ rfl (VS.one _ _ _) (one1 _) ?d1 ?d2 ?d3 ?_)
        any_goals (first | omega | (simp; done) | (simp only [List.length_cons, List.length_nil]; omega) | (simp; omega))
        intro v' w' hown hbel
        have HO := Lib.hid (And.intro hown hbel)
        clear hown hbel
        go_wp2
        go_roundw
        case rel => exact ⟨k + 1, by omega, by go_num, by rw [HNn.out, HY.out], Lib.hid ⟨by rw [HSn.out, HY.out, List.map_append]; exact HO.out.1, Below.trans (H.out.2.alloc _) HO.out.2⟩⟩
        case measure => simp [intOf]; omega
      · have hY := HSo.out
        rw [if_neg hin] at hY
        have HY := Lib.hid hY
        clear hY
        by_cases i1 : 2 ≤ X + D
        · have i2 : ¬ X + D ≤ 16 := by omega
          clear hin
          go_wp2_with (at_builtin; refine app_own eiInt rfl _ _ rfl W.heap.size _ (k + 1) _ rfl (H.out.1.alloc _) _ _ _ rfl (VS.one _ _ _) (one1 _) ?d4 ?d5 ?d6 ?_)
          any_goals (first | omega | (simp; done) | (simp only [List.length_cons, List.length_nil]; omega) | (simp; omega))
          intro v' w' hown hbel
          have HO := Lib.hid (And.intro hown hbel)
          clear hown hbel
          go_wp2
          go_roundw
          case rel => exact ⟨k + 1, by omega, by go_num, by rw [HNn.out, HY.out], Lib.hid ⟨by rw [HSn.out, HY.out, List.map_append]; exact HO.out.1, Below.trans (H.out.2.alloc _) HO.out.2⟩⟩
          case measure => simp [intOf]; omega
        · clear hin
          go_wp2_with (at_builtin; refine app_own eiInt rfl _ _ rfl W.heap.size _ (k + 1) _ rfl (H.out.1.alloc _) _ _ _ rfl (VS.one _ _ _) (one1 _) ?d7 ?d8 ?d9 ?_)
          any_goals (first | omega | (simp; done) | (simp only [List.length_cons, List.length_nil]; omega) | (simp; omega))
          intro v' w' hown hbel
          have HO := Lib.hid (And.intro hown hbel)
          clear hown hbel
          go_wp2
          go_roundw
          case rel => exact ⟨k + 1, by omega, by go_num, by rw [HNn.out, HY.out], Lib.hid ⟨by rw [HSn.out, HY.out, List.map_append]; exact HO.out.1, Below.trans (H.out.2.alloc _) HO.out.2⟩⟩
          case measure => simp [intOf]; omega
    · obtain rfl : M = k := by omega
      have hm15 := HMn.out
      have hof := HOf.out
      have hsc := HSc.out M
      have hln := HLn.out M
      have hl : ¬ ((M : Int) < n ∧ (M : Int) < 15) := by omega
      have hX := HBd.out M
      have HX := Lib.hid H.out.2
      obtain ⟨cA, hI⟩ := IS.of_own (k := .i64) H.out.1
      obtain ⟨aA, nA, cA', hv, hnA, hcA, hI2⟩ := hI.out
      rw [hln] at hnA
      have hcc : cA' = cA := hcA
      subst hcc
      subst hnA
      subst hv
      have HI2 := Lib.hid hI2
      by_cases hp : M % 2 = 0
      · rw [if_pos hp] at hof
        have hp2 : (((M : Int) + 1) % 2 == 1) = true := by rw [beq_iff_eq]; omega
        have HOf2 := Lib.hid hof
        clear hof hsc hln hI hI2
        by_cases hq : M < n
        · exfalso; omega
        · have q1 : ¬ (M : Int) < n := by omega
          clear hl hq hm15
          go_wp2_with (at_builtin; refine app_own eiInt rfl _ _ rfl W.heap.size _ (M + 1) _ rfl (H.out.1.alloc _) _ _ _ rfl (VS.one _ _ _) (one1 _) ?h14 ?h15 ?h16 ?_)
          any_goals (first | omega | (simp; done) | (simp only [List.length_cons, List.length_nil]; omega) | (simp; omega))
          intro v' w' hown hbel
          have hfin : ∃ c, IS .i64 w' v' c (oof f st) := by
            rw [HOf2.out]
            refine IS.of_own (k := .i64) (n := M + 2) (e := 3) (B := W.heap.size) ?_
            rw [List.map_append]; exact hown
          obtain ⟨cf, hfin⟩ := hfin
          have HF := Lib.hid (show RetX .i64 w (oof f st) (.returned v') w' from ⟨v', cf, rfl, hfin, XW.out.trans (Below.trans (HX.out.alloc _) hbel)⟩)
          clear hown hbel hfin
          go_wp2
          go_ret
          exact HF.out
      · rw [if_neg hp, List.append_nil] at hof
        have hp2 : (((M : Int) + 1) % 2 == 1) = false := by rw [beq_eq_false_iff_ne]; omega
        have HOf2 := Lib.hid hof
        clear hof hsc hln hI hI2
        by_cases hq : M < n
        · have q1 : (M : Int) < n := by omega
          have q2 : ¬ (M : Int) < 15 := by omega
          clear hl hq hm15
          have HF := Lib.hid (show RetX .i64 w (oof f st) (.returned (.slice aA (M + 1) cA')) wr from by rw [HOf2.out]; exact ⟨_, cA', rfl, HI2.out, XW.out.trans HX.out⟩)
          go_wp2
          go_ret
          exact HF.out
        · have q1 : ¬ (M : Int) < n := by omega
          clear hl hq hm15
          have HF := Lib.hid (show RetX .i64 w (oof f st) (.returned (.slice aA (M + 1) cA')) wr from by rw [HOf2.out]; exact ⟨_, cA', rfl, HI2.out, XW.out.trans HX.out⟩)
          go_wp2
          go_ret
          exact HF.out
end Go.Proofs.YtinijapkipeamaaDoor
/- ganseyref13.Differ. -/
namespace Go.Proofs.YtinijapkipeamaaDoor
set_option linter.unusedVariables false
set_option linter.unusedSimpArgs false
set_option maxRecDepth 8000
open Go Go.RowKit

def dif (l m : List (List St)) : Int := if l = m then 0 else 1
theorem dif_same (l : List (List St)) : dif l l = 0 := if_pos rfl
set_option maxHeartbeats 4000000 in
theorem Differ_calls (v1 v2 : Value) (c1 c2 : Nat) (l m : List (List St)) (w : World) (h1 : RR w v1 c1 l) (h2 : RR w v2 c2 m) :
    Calls Tryd.prog 25 #[.agg #[v1], .agg #[v2]] w fun e w' => e = .returned (.int .i64 (dif l m)) ∧ Ext w w' := by
  obtain ⟨ao, n, rfl, hn, hc, hcm, hat⟩ := h1.open
  obtain ⟨ao2, n2, rfl, hn2, hc2, hcm2, hat2⟩ := h2.open
  have hT : n = n2 → (∀ i, i < n → sw l i = sw m i) → dif l m = 0 := fun e h => if_pos (sw_ext (by omega) (fun i hi => h i (by omega)))
  have hF : (n ≠ n2 ∨ ∃ i, i < n ∧ sw l i ≠ sw m i) → dif l m = 1 := fun h => if_neg (fun e => by
    rcases h with h | ⟨i, _, h⟩
    · rw [e] at hn; omega
    · rw [e] at h; exact h rfl)
  generalize dif l m = R at hT hF ⊢
  obtain ⟨W, hW⟩ : ∃ W, W = (w.alloc (.cells #[.slice ao n c1] 26)).alloc (.cells #[.slice ao2 n2 c2] 26) := ⟨_, rfl⟩
  have xW : Ext w W := by rw [hW]; exact ((Ext.refl w).alloc _).alloc _
  have hb1 : W.cell? ⟨w.heap.size, 0, none⟩ = some (.slice ao n c1) := by
    rw [hW]; exact ((Ext.refl _).alloc _).cell (by rw [World.cell?_alloc_at (hn := rfl)]; rfl)
  have hb2 : W.cell? ⟨w.heap.size + 1, 0, none⟩ = some (.slice ao2 n2 c2) := by
    rw [hW, World.cell?_alloc_at (hn := by simp)]; rfl
  have HA := Lib.hid hat; have HA2 := Lib.hid hat2; have HT := Lib.hid hT; have HF := Lib.hid hF; have XW := Lib.hid xW
  clear hat hat2 hT hF hn hn2 h1 h2
  unfold maxLen at hcm hcm2
  have HB1 := Lib.hid (fun w' (x : Ext W w') => x.cell hb1); have HB2 := Lib.hid (fun w' (x : Ext W w') => x.cell hb2)
  go_enter Tryd.func25, Tryd.ntmps25
  by_cases hl : n = n2
  · subst hl
    rw [hW] at hb1 hb2
    go_wp2
    rw [← hW]
    clear hb1 hb2 hW
    go_loopw [5, 6] (fun i _ wr => ∃ k : Nat, k ≤ n ∧ i = .int .i64 k ∧ Hid (Ext W wr) ∧ Hid (∀ i, i < k → sw l i = sw m i)) (fun i _ _ => n - (intOf i).toNat)
    case atStart => exact ⟨0, Nat.zero_le _, rfl, Lib.hid (Ext.refl _), Lib.hid (fun i hi => by omega)⟩
    case round =>
      obtain ⟨k, hk, rfl, Hx, HS⟩ := hrel
      have b1 := HB1.out _ Hx.out
      have b2 := HB2.out _ Hx.out
      by_cases hlt : k < n
      · obtain ⟨b, o, a, p, d, rfl, p0, r1⟩ := HA.out k hlt
        obtain ⟨bb, oo, aa, pp, dd, rfl, q0, r2⟩ := HA2.out k hlt
        have P0 := Lib.hid (fun w' (x : Ext W w') => (XW.out.trans x).cell p0); have Q0 := Lib.hid (fun w' (x : Ext W w') => (XW.out.trans x).cell q0)
        replace p0 := (XW.out.trans Hx.out).cell p0
        replace q0 := (XW.out.trans Hx.out).cell q0
        obtain ⟨_, _, e1, e2, e3, e4, e5⟩ := r1.open
        obtain ⟨_, _, f1, f2, f3, f4, f5⟩ := r2.open
        simp only [Value.slice.injEq] at e1 f1
        obtain ⟨rfl, rfl, _⟩ := e1
        obtain ⟨rfl, rfl, _⟩ := f1
        have HE5 := Lib.hid e5; have HF5 := Lib.hid f5
        have t7 : (0 : Int) ≤ (k : Int) := by omega
        have t8 : (k : Int) < n := by omega
        unfold maxLen at e4 f4
        by_cases hpp : p = pp
        · have tq : ((p : Int) != (pp : Int)) = false := by rw [hpp]; simp
          have HR1 := Lib.hid (show (∀ i, i < p → si (sw l k) i = si (sw m k) i) → ∀ i, i < k + 1 → sw l i = sw m i from fun h i hi => by
            by_cases e : i = k
            · rw [e]; exact si_ext (by omega) (fun i hi => h i (by omega))
            · exact HS.out i (by omega))
          have HR2 := Lib.hid (show ∀ i, i < p → si (sw l k) i ≠ si (sw m k) i → R = 1 from fun i hi h => HF.out (.inr ⟨k, hlt, fun e => h (by rw [e])⟩))
          subst hpp
          clear e2 f2 e5 f5 r1 r2
          go_wp2
          go_quiet (fail)
          obtain ⟨wk, hwk⟩ : ∃ wk, wk = wr.drewN nq := ⟨_, rfl⟩
          have Hk := Lib.hid (show Ext W wk by rw [hwk]; exact Hx.out.drewN nq)
          rw [← hwk]
          clear b1 b2 p0 q0 hwk
          go_wp2
          go_loopw [6] (fun i ws => ∃ j : Nat, j ≤ p ∧ i = .int .i64 j ∧ Hid (Ext wk ws) ∧ Hid (∀ i, i < j → si (sw l k) i = si (sw m k) i)) (fun i _ => p - (intOf i).toNat)
          case atStart => exact ⟨0, Nat.zero_le _, rfl, Lib.hid (Ext.refl _), Lib.hid (fun i hi => by omega)⟩
          case round =>
            obtain ⟨j, hj, rfl, Hy, HU⟩ := hrel
            have b1 := HB1.out _ (Hk.out.trans Hy.out)
            have b2 := HB2.out _ (Hk.out.trans Hy.out)
            have p0 := P0.out _ (Hk.out.trans Hy.out)
            have q0 := Q0.out _ (Hk.out.trans Hy.out)
            by_cases hjl : j < p
            · obtain ⟨e6, e7, rfl, e8⟩ := HE5.out j hjl
              obtain ⟨f6, f7, rfl, f8⟩ := HF5.out j hjl
              obtain ⟨s0, s1, s2, s3, s4⟩ := e8.ext (XW.out.trans (Hk.out.trans Hy.out))
              obtain ⟨u0, u1, u2, u3, u4⟩ := f8.ext (XW.out.trans (Hk.out.trans Hy.out))
              have hq := fun w => run_st_neq (si (sw l k) j) (si (sw m k) j) w
              have hR1 : St.eqb (si (sw l k) j) (si (sw m k) j) = false → R = 1 := fun h => HR2.out j hjl (eqb_false h)
              have hR2 : St.eqb (si (sw l k) j) (si (sw m k) j) = true → ∀ i, i < j + 1 → si (sw l k) i = si (sw m k) i := fun h i hi => by
                by_cases e : i = j
                · rw [e]; exact eqb_true h
                · exact HU.out i (by omega)
              obtain ⟨S, hS⟩ : ∃ S, S = si (sw l k) j := ⟨_, rfl⟩
              obtain ⟨T, hT⟩ : ∃ T, T = si (sw m k) j := ⟨_, rfl⟩
              rw [← hS] at s0 s1 s2 s3 s4 hq hR1 hR2
              rw [← hT] at u0 u1 u2 u3 u4 hq hR1 hR2
              generalize St.eqb S T = q at hq hR1 hR2
              have H1 := Lib.hid hR1; have H2 := Lib.hid hR2
              have g1 : (0 : Int) ≤ (j : Int) := by omega
              have g2 : (j : Int) < p := by omega
              clear hR1 hR2 hS hT e8 f8
              go_wp2
              go_quiet (fail)
              clear hq s0 s1 s2 s3 s4 u0 u1 u2 u3 u4 p0 q0 b1 b2
              cases q
              · have hR := H1.out rfl
                subst hR
                clear H1 H2
                go_wp2
                go_ret
                exact ⟨rfl, XW.out.trans (Hk.out.trans (by first | exact Hy.out | exact Hy.out.drewN _))⟩
              · have HU2 := Lib.hid (H2.out rfl)
                clear H1 H2
                go_wp2
                go_roundw
                case rel => exact ⟨j + 1, by omega, by go_num, by first | exact Hy | exact Lib.hid (Hy.out.drewN _), HU2⟩
                case measure => simp [intOf]; omega
            · obtain rfl : p = j := by omega
              have HS2 := Lib.hid (HR1.out HU.out)
              go_wp2
              go_roundw
              case rel => exact ⟨k + 1, by omega, by go_num, Lib.hid (Hk.out.trans Hy.out), HS2⟩
              case measure => simp [intOf]; omega
        · have tq : ((p : Int) != (pp : Int)) = true := by rw [bne, beq_eq_false_iff_ne.2 (by omega)]; rfl
          have hR := HF.out (.inr ⟨k, hlt, fun e => hpp (by rw [e2, f2, e])⟩)
          subst hR
          clear e2 f2 e5 f5 r1 r2 hpp
          go_wp2
          go_quiet (fail)
          go_wp2
          go_ret
          exact ⟨rfl, XW.out.trans (by first | exact Hx.out | exact Hx.out.drewN _)⟩
      · obtain rfl : n = k := by omega
        have hR := HT.out trivial HS.out
        subst hR
        go_wp2
        go_ret
        exact ⟨rfl, XW.out.trans Hx.out⟩
  · have hR := HF.out (.inl hl)
    subst hR
    have t1 : ¬ ((n : Int) = n2) := by omega
    rw [hW] at hb1 hb2
    go_wp2
    go_ret
    exact ⟨rfl, by rw [← hW]; exact XW.out⟩
end Go.Proofs.YtinijapkipeamaaDoor
/- The chapter's examples, in plain Lean. -/
namespace Go.Proofs.YtinijapkipeamaaDoor
set_option linter.unusedVariables false
set_option linter.unusedSimpArgs false
set_option maxRecDepth 20000
open Go Go.RowKit

def outl (k : Nat) : List Int := match k with | 0 => [4, 5] | 1 => [4, 4, 5, 5] | 2 => [4, 6] | 3 => [5, 4] | _ => [6, 4]
def cn (k : Nat) : Int := match k with | 0 => 1 | 1 => -1 | 2 => 0 | 3 => -1 | _ => 0
def txl (k : Nat) : List Int := match k with
  | 0 => [107, 32, 107, 32, 107, 32, 111, 32, 107, 10]
  | 1 => [107, 32, 107, 32, 107, 32, 107, 32, 107, 10, 107, 32, 111, 32, 107, 32, 107, 32, 107, 10, 107, 32, 107, 32, 107, 32, 107, 10]
  | 2 => [107, 32, 111, 32, 107, 32, 107, 32, 111, 32, 107, 10]
  | 3 => [107, 32, 107, 32, 107, 32, 47, 10]
  | _ => [47, 32, 107, 32, 107, 32, 47, 10]
theorem outl_facts : ∀ k, k < 5 → cherr (outl k) 1 = 0 ∧ oerr (outl k) = 0 ∧ cent (outl k) = cn k ∧ ctx (chres (outl k) 1) = txl k
  | 0, _ => by refine ⟨?_, ?_, ?_, ?_⟩ <;> decide
  | 1, _ => by refine ⟨?_, ?_, ?_, ?_⟩ <;> decide
  | 2, _ => by refine ⟨?_, ?_, ?_, ?_⟩ <;> decide
  | 3, _ => by refine ⟨?_, ?_, ?_, ?_⟩ <;> decide
  | 4, _ => by refine ⟨?_, ?_, ?_, ?_⟩ <;> decide
theorem slope_facts : serr 4 7 2 = 0 ∧ serr 7 4 2 = 0 ∧ serr 2 8 2 = 14 ∧ serr 8 2 4 = 0 ∧ sres 4 7 2 = [4, 6, 7] ∧ sres 7 4 2 = [7, 6, 4] ∧ sres 8 2 4 = [8, 7, 5, 4, 2] := by decide
theorem area_fact : area [4, 4, 5, 5] 4 = 14 := by decide
/-- The examples in memory. -/
def livW (w : World) : World := ((((((((w.alloc (.cells #[.int .i64 4, .int .i64 5] 3)).alloc (.cells #[.int .i64 4, .int .i64 4, .int .i64 5, .int .i64 5] 3)).alloc (.cells #[.int .i64 4, .int .i64 6] 3)).alloc (.cells #[.int .i64 5, .int .i64 4] 3)).alloc (.cells #[.int .i64 6, .int .i64 4] 3)).alloc
  (.cells #[.slice (some ⟨w.heap.size, 0, none⟩) 2 2, .slice (some ⟨w.heap.size + 1, 0, none⟩) 4 4, .slice (some ⟨w.heap.size + 1 + 1, 0, none⟩) 2 2, .slice (some ⟨w.heap.size + 1 + 1 + 1, 0, none⟩) 2 2, .slice (some ⟨w.heap.size + 1 + 1 + 1 + 1, 0, none⟩) 2 2] 22)).alloc
  (.cells #[.string (bstr (txl 0)), .string (bstr (txl 1)), .string (bstr (txl 2)), .string (bstr (txl 3)), .string (bstr (txl 4))] 9)).alloc (.cells #[.int .i64 1, .int .i64 (-1), .int .i64 0, .int .i64 (-1), .int .i64 0] 3))
theorem liv_at {w : World} {o : Obj} {g : Nat} (h : g = w.heap.size) : (w.alloc o).heap[g]? = some o := blk_at h
theorem liv_facts (w : World) : Ext w (livW w) ∧ ∀ k, k < 5 → (∃ b m, (livW w).cell? ⟨w.heap.size + 1 + 1 + 1 + 1 + 1, k, none⟩ = some (.slice (some ⟨b, 0, none⟩) m m) ∧ IS .i64 (livW w) (.slice (some ⟨b, 0, none⟩) m m) m (outl k)) ∧
    (livW w).cell? ⟨w.heap.size + 1 + 1 + 1 + 1 + 1 + 1, k, none⟩ = some (.string (bstr (txl k))) ∧ (livW w).cell? ⟨w.heap.size + 1 + 1 + 1 + 1 + 1 + 1 + 1, k, none⟩ = some (.int .i64 (cn k)) := by
  have X : ∀ {a b : World} (h : Ext a b) (o : Obj), Ext a (b.alloc o) := fun h o => h.alloc o
  have h6 := blk_old (o' := .cells #[.int .i64 1, .int .i64 (-1), .int .i64 0, .int .i64 (-1), .int .i64 0] 3) (blk_at (w := (((((((w.alloc (.cells #[.int .i64 4, .int .i64 5] 3)).alloc (.cells #[.int .i64 4, .int .i64 4, .int .i64 5, .int .i64 5] 3)).alloc (.cells #[.int .i64 4, .int .i64 6] 3)).alloc (.cells #[.int .i64 5, .int .i64 4] 3)).alloc (.cells #[.int .i64 6, .int .i64 4] 3)).alloc
  (.cells #[.slice (some ⟨w.heap.size, 0, none⟩) 2 2, .slice (some ⟨w.heap.size + 1, 0, none⟩) 4 4, .slice (some ⟨w.heap.size + 1 + 1, 0, none⟩) 2 2, .slice (some ⟨w.heap.size + 1 + 1 + 1, 0, none⟩) 2 2, .slice (some ⟨w.heap.size + 1 + 1 + 1 + 1, 0, none⟩) 2 2] 22)))) (o := .cells #[.string (bstr (txl 0)), .string (bstr (txl 1)), .string (bstr (txl 2)), .string (bstr (txl 3)), .string (bstr (txl 4))] 9) (g := w.heap.size + 1 + 1 + 1 + 1 + 1 + 1) (by simp))
  have b7 : (livW w).heap[w.heap.size + 1 + 1 + 1 + 1 + 1 + 1 + 1]? = some (.cells #[.int .i64 1, .int .i64 (-1), .int .i64 0, .int .i64 (-1), .int .i64 0] 3 (0, 0)) := blk_at (by simp)
  have b6 : (livW w).heap[w.heap.size + 1 + 1 + 1 + 1 + 1 + 1]? = some (.cells #[.string (bstr (txl 0)), .string (bstr (txl 1)), .string (bstr (txl 2)), .string (bstr (txl 3)), .string (bstr (txl 4))] 9 (0, 0)) := h6
  have b5 : (livW w).heap[w.heap.size + 1 + 1 + 1 + 1 + 1]? = some (.cells #[.slice (some ⟨w.heap.size, 0, none⟩) 2 2, .slice (some ⟨w.heap.size + 1, 0, none⟩) 4 4, .slice (some ⟨w.heap.size + 1 + 1, 0, none⟩) 2 2, .slice (some ⟨w.heap.size + 1 + 1 + 1, 0, none⟩) 2 2, .slice (some ⟨w.heap.size + 1 + 1 + 1 + 1, 0, none⟩) 2 2] 22 (0, 0)) :=
    blk_old (blk_old (blk_at (by simp)))
  have i0 : IS .i64 (livW w) (.slice (some ⟨w.heap.size, 0, none⟩) 2 2) 2 [4, 5] := (IS.lit (xs := [4, 5]) (n := 2) (arr := #[.int .i64 4, .int .i64 5]) (e := 3) rfl rfl rfl (by omega)).ext (X (X (X (X (X (X (X (Ext.refl _) _) _) _) _) _) _) _)
  have i1 : IS .i64 (livW w) (.slice (some ⟨w.heap.size + 1, 0, none⟩) 4 4) 4 [4, 4, 5, 5] := (IS.lit (xs := [4, 4, 5, 5]) (n := 4) (w := w.alloc (.cells #[.int .i64 4, .int .i64 5] 3)) (arr := #[.int .i64 4, .int .i64 4, .int .i64 5, .int .i64 5]) (e := 3) rfl (by simp) rfl (by omega)).ext (X (X (X (X (X (X (Ext.refl _) _) _) _) _) _) _)
  have i2 : IS .i64 (livW w) (.slice (some ⟨w.heap.size + 1 + 1, 0, none⟩) 2 2) 2 [4, 6] := (IS.lit (xs := [4, 6]) (n := 2) (w := (w.alloc (.cells #[.int .i64 4, .int .i64 5] 3)).alloc (.cells #[.int .i64 4, .int .i64 4, .int .i64 5, .int .i64 5] 3)) (arr := #[.int .i64 4, .int .i64 6]) (e := 3) rfl (by simp) rfl (by omega)).ext (X (X (X (X (X (Ext.refl _) _) _) _) _) _)
  have i3 : IS .i64 (livW w) (.slice (some ⟨w.heap.size + 1 + 1 + 1, 0, none⟩) 2 2) 2 [5, 4] := (IS.lit (xs := [5, 4]) (n := 2) (w := ((w.alloc (.cells #[.int .i64 4, .int .i64 5] 3)).alloc (.cells #[.int .i64 4, .int .i64 4, .int .i64 5, .int .i64 5] 3)).alloc (.cells #[.int .i64 4, .int .i64 6] 3)) (arr := #[.int .i64 5, .int .i64 4]) (e := 3) rfl (by simp) rfl (by omega)).ext (X (X (X (X (Ext.refl _) _) _) _) _)
  have i4 : IS .i64 (livW w) (.slice (some ⟨w.heap.size + 1 + 1 + 1 + 1, 0, none⟩) 2 2) 2 [6, 4] := (IS.lit (xs := [6, 4]) (n := 2) (w := (((w.alloc (.cells #[.int .i64 4, .int .i64 5] 3)).alloc (.cells #[.int .i64 4, .int .i64 4, .int .i64 5, .int .i64 5] 3)).alloc (.cells #[.int .i64 4, .int .i64 6] 3)).alloc (.cells #[.int .i64 5, .int .i64 4] 3)) (arr := #[.int .i64 6, .int .i64 4]) (e := 3) rfl (by simp) rfl (by omega)).ext (X (X (X (Ext.refl _) _) _) _)
  refine ⟨X (X (X (X (X (X (X (X (Ext.refl _) _) _) _) _) _) _) _) _, fun k hk => ?_⟩
  match k, hk with
  | 0, _ => exact ⟨⟨_, _, by simp [World.cell?, b5], i0⟩, by simp [World.cell?, b6], by simp [World.cell?, b7, cn]⟩
  | 1, _ => exact ⟨⟨_, _, by simp [World.cell?, b5], i1⟩, by simp [World.cell?, b6], by simp [World.cell?, b7, cn]⟩
  | 2, _ => exact ⟨⟨_, _, by simp [World.cell?, b5], i2⟩, by simp [World.cell?, b6], by simp [World.cell?, b7, cn]⟩
  | 3, _ => exact ⟨⟨_, _, by simp [World.cell?, b5], i3⟩, by simp [World.cell?, b6], by simp [World.cell?, b7, cn]⟩
  | 4, _ => exact ⟨⟨_, _, by simp [World.cell?, b5], i4⟩, by simp [World.cell?, b6], by simp [World.cell?, b7, cn]⟩
end Go.Proofs.YtinijapkipeamaaDoor
