/- Texts of this claim in one file: libraries and walks. -/
import Derived.BigQuiet
import Derived.Laws.OwnMore
import Derived.Test.YtlmkcojimhbmiaaL4
import Derived.Test.YtlmkcojimhbmiaaL9
/- The edge of a block (motifs.block$1). -/
namespace Go.Proofs.Ytlmkcojimhbmiaa
set_option linter.unusedVariables false
set_option linter.unusedSimpArgs false
set_option maxRecDepth 8000
open Go Go.RowKit

/-- A list of charts, its cells given. -/
def VB (w : World) (v : Value) (c : Nat) (bs : List (List (List St))) : Prop := ∃ xs : List Value, VS w v c xs ∧ xs.length = bs.length ∧ ∀ i, i < bs.length → ∃ u d, xs[i]? = some u ∧ RR w u d (bw bs i)
theorem VB.ext {w w' : World} {v : Value} {c : Nat} {bs : List (List (List St))} (h : VB w v c bs) (x : Ext w w') : VB w' v c bs := by
  obtain ⟨xs, h1, h2, h3⟩ := h
  exact ⟨xs, h1.ext x, h2, fun i hi => by obtain ⟨u, d, a, b⟩ := h3 i hi; exact ⟨u, d, a, b.ext x⟩⟩
theorem VB.nil (w : World) : VB w (.slice none 0 0) 0 [] := ⟨[], VS.nil w, rfl, fun i hi => by simp at hi⟩
theorem VB.of_blk {w : World} {g n : Nat} {t : TypeId} {bs : List (List (List St))} {us : List Value} {arr : Array Value} (hb : w.heap[g]? = some (.cells arr t (0, 0))) (ha : arr = us.toArray) (hn : n = us.length) (hu : us.length = bs.length) (hl : n ≤ 1000)
    (h : ∀ i, i < bs.length → ∃ u d, us[i]? = some u ∧ RR w u d (bw bs i)) : VB w (.slice (some ⟨g, 0, none⟩) n n) n bs := by
  subst hn
  refine ⟨us, ⟨_, rfl, Nat.le_refl _, by unfold maxLen; omega, fun h => (by cases h), fun a ha' => ?_⟩, hu, h⟩
  obtain rfl := Option.some.inj ha'
  refine ⟨fun _ => rfl, fun j u hj => ?_⟩
  rw [ha] at hb
  simp only [World.cell?, hb, Nat.zero_add]
  simpa using hj
theorem VB.lit1 {w : World} {g : Nat} {t : TypeId} {u0 : Value} {c0 : Nat} {b0 : List (List St)} (hb : w.heap[g]? = some (Obj.cells #[u0] t (0, 0))) (h0 : RR w u0 c0 b0) : VB w (.slice (some ⟨g, 0, none⟩) 1 1) 1 [b0] :=
  VB.of_blk (us := [u0]) hb rfl rfl rfl (by simp) fun i hi => by
    obtain rfl : i = 0 := by simpa using hi
    exact ⟨u0, c0, rfl, by simpa [bw] using h0⟩
theorem VB.rep {w : World} {g n : Nat} {t : TypeId} {u0 : Value} {c0 : Nat} {b0 : List (List St)} (hb : w.heap[g]? = some (Obj.cells (List.replicate n u0).toArray t (0, 0))) (hn : n ≤ 1000) (h0 : RR w u0 c0 b0) : VB w (.slice (some ⟨g, 0, none⟩) n n) n (List.replicate n b0) :=
  VB.of_blk (us := List.replicate n u0) hb rfl (by simp) (by simp) hn fun i hi => by
    have hi' : i < n := by simpa using hi
    exact ⟨u0, c0, by simp [hi'], by rw [bw_of_lt hi]; simpa using h0⟩
theorem VB.bb {w : World} {v : Value} {c : Nat} {bs : List (List (List St))} (h : VB w v c bs) : BB w v c bs := by
  obtain ⟨xs, ⟨ao, hv, hl, hm, hno, hc⟩, hlen, h3⟩ := h
  have hcap : ∀ i, ∃ d, i < bs.length → RR w (xs.getD i undef) d (bw bs i) := fun i => by
    by_cases hi : i < bs.length
    · obtain ⟨u, d, a, b⟩ := h3 i hi
      exact ⟨d, fun _ => by rw [show xs.getD i undef = u by simp [List.getD, a]]; exact b⟩
    · exact ⟨0, fun h => absurd h hi⟩
  refine ⟨ao, fun i => xs.getD i undef, fun i => (hcap i).choose, by rw [hv, hlen], by omega, hm, ?_, fun i hi => (hcap i).choose_spec hi⟩
  by_cases h0 : bs.length = 0
  · exact .inl (List.eq_nil_of_length_eq_zero h0)
  · cases ao with
    | none => have := hno rfl; omega
    | some a =>
      obtain ⟨b, o, s⟩ := a
      obtain ⟨hs, hcell⟩ := hc _ rfl
      have hs' : s = Option.none := hs (by omega)
      subst hs'
      exact .inr ⟨b, o, rfl, fun i hi => hcell i _ (by obtain ⟨u, d, a, _⟩ := h3 i hi; rw [a]; simp [List.getD, a])⟩
/-- A list of charts is returned. -/
def RetVB (w0 : World) (bs : List (List (List St))) (e : Ending) (w' : World) : Prop := ∃ v c, e = .returned v ∧ VB w' v c bs ∧ Ext w0 w'
def edgeB (rows : List (List St)) : List (List (List St)) := if rows.length = 0 then [] else [rows]
theorem Edge_calls (v : Value) (c : Nat) (rows : List (List St)) (w : World) (h : RR w v c rows) : Calls Try.prog 45 #[.agg #[v]] w (RetVB w (edgeB rows)) := by
  have hx := fun w' (x : Ext w w') => h.ext x
  obtain ⟨ao, n, rfl, hn, hc, hcm, _⟩ := h.open
  unfold maxLen at hcm
  obtain ⟨W, hW⟩ : ∃ W, W = w.alloc (.cells #[.slice ao n c] 24) := ⟨_, rfl⟩
  have xW : Ext w W := by rw [hW]; exact (Ext.refl w).alloc _
  have b0 : W.cell? ⟨w.heap.size, 0, none⟩ = some (.slice ao n c) := by rw [hW, World.cell?_alloc_at (hn := rfl)]; rfl
  have x2 : Ext w (W.alloc (.cells #[.slice ao n c] 24)) := xW.alloc _
  by_cases h0 : n = 0
  · have hF : RetVB w (edgeB rows) (.returned (.slice none 0 0)) W := by
      unfold edgeB; rw [if_pos (by omega)]
      exact ⟨_, 0, rfl, VB.nil _, xW⟩
    have t1 : ((n : Int) == 0) = true := by rw [h0]; rfl
    have HF := Lib.hid hF; have HW := Lib.hid hW
    rw [hW] at b0
    clear h hx hn h0 hF xW x2 hW
    go_enter Try.func45, Try.ntmps45
    go_wp2
    rw [← HW.out]
    go_ret
    exact HF.out
  · have hF : RetVB w (edgeB rows) (.returned (.slice (some ⟨W.heap.size, 0, none⟩) 1 1)) (W.alloc (.cells #[.slice ao n c] 24)) := by
      unfold edgeB; rw [if_neg (by omega)]
      exact ⟨_, 1, rfl, VB.lit1 (blk_at rfl) (hx _ x2), x2⟩
    have t1 : ((n : Int) == 0) = false := beq_eq_false_iff_ne.2 (by omega)
    rw [hW] at hF
    have HF := Lib.hid hF
    rw [hW] at b0
    clear h hx hn h0 hF xW x2 hW
    go_enter Try.func45, Try.ntmps45
    go_wp2
    go_ret
    simpa using HF.out
end Go.Proofs.Ytlmkcojimhbmiaa
/- motifs.joined of blocks. -/
namespace Go.Proofs.Ytlmkcojimhbmiaa
set_option linter.unusedVariables false
set_option linter.unusedSimpArgs false
set_option maxRecDepth 8000
open Go Go.RowKit

theorem bw_left {a b : List (List (List St))} {i : Nat} (h : i < a.length) : bw (a ++ b) i = bw a i := by unfold bw; simp [List.getD, List.getElem?_append_left h]
theorem bw_right {a b : List (List (List St))} {i : Nat} (h : a.length ≤ i) : bw (a ++ b) i = bw b (i - a.length) := by unfold bw; simp [List.getD, List.getElem?_append_right h]
/-- The blocks that were appended so far. -/
def OB (w wr : World) (B : Nat) (v : Value) (bs : List (List (List St))) : Prop :=
  Ext w wr ∧ ∃ xs : List Value, wr.ownsRow B 24 1 v bs.length xs ∧ ∀ i, i < bs.length → ∃ u d, xs[i]? = some u ∧ RR w u d (bw bs i)
theorem RR.one' {w : World} {u : Value} {d : Nat} {rows : List (List St)} (h : RR w u d rows) : u.oneCell' = true := by
  obtain ⟨a, n, rfl, _⟩ := h.open
  rfl
theorem VB.ones {w : World} {v : Value} {c : Nat} {bs : List (List (List St))} {xs : List Value} (h2 : xs.length = bs.length) (h3 : ∀ i, i < bs.length → ∃ u d, xs[i]? = some u ∧ RR w u d (bw bs i)) : ∀ u ∈ xs, u.oneCell' = true := by
  intro u hu
  obtain ⟨i, hi, rfl⟩ := List.mem_iff_getElem.1 hu
  obtain ⟨u', d, a, b⟩ := h3 i (by omega)
  rw [List.getElem?_eq_getElem hi] at a
  rw [Option.some.inj a]
  exact b.one'
theorem OB.rr {w wr : World} {B : Nat} {v : Value} {bs : List (List (List St))} (h : OB w wr B v bs) : ∃ c, VB wr v c bs := by
  obtain ⟨x, xs, h1, h2⟩ := h
  have hl := h1.1
  obtain ⟨c, hv⟩ := VS.of_own h1
  exact ⟨c, xs, hv, by omega, fun i hi => by obtain ⟨u, d, a, b⟩ := h2 i hi; exact ⟨u, d, a, b.ext x⟩⟩
theorem OB.app {w wr w' : World} {B : Nat} {v v' y : Value} {bs bs2 : List (List (List St))} {xs ys : List Value} (h1 : wr.ownsRow B 24 1 v bs.length xs) (h2 : ∀ i, i < bs.length → ∃ u d, xs[i]? = some u ∧ RR w u d (bw bs i)) (hl : ys.length = bs2.length)
    (h3 : ∀ i, i < bs2.length → ∃ u d, ys[i]? = some u ∧ RR w u d (bw bs2 i)) (h4 : w'.ownsRow B 24 1 v' (bs.length + ys.length) (xs ++ ys)) (x : Ext w w') : OB w w' B v' (bs ++ bs2) := by
  have hx := h1.1
  refine ⟨x, xs ++ ys, by rw [List.length_append, ← hl]; exact h4, fun i hi => ?_⟩
  rw [List.length_append] at hi
  by_cases e : i < bs.length
  · obtain ⟨u, d, a, b⟩ := h2 i e
    exact ⟨u, d, by rw [List.getElem?_append_left (by omega)]; exact a, by rw [bw_left e]; exact b⟩
  · obtain ⟨u, d, a, b⟩ := h3 (i - bs.length) (by omega)
    refine ⟨u, d, ?_, by rw [bw_right (by omega)]; exact b⟩
    rw [List.getElem?_append_right (by omega), show i - xs.length = i - bs.length by omega]; exact a
theorem own_blk_ge {w : World} {B n z : Nat} {e : TypeId} {v : Value} {xs : List Value} (h : w.ownsRow B e z v n xs) : ∀ k, v.ownBlock = some k → B ≤ k := fun k hk => by
  obtain ⟨_, hv | ⟨g, cap, cur, hv, hB, _⟩⟩ := h
  · rw [hv.1] at hk; cases hk
  · rw [hv] at hk; injection hk with hk; rw [← hk]; exact hB
/-- The first k parts. -/
def fb (ps : Nat → List (List (List St))) (k : Nat) : List (List (List St)) := ((List.range k).map ps).flatten
theorem fb_succ (ps : Nat → List (List (List St))) (k : Nat) : fb ps (k + 1) = fb ps k ++ ps k := by unfold fb; rw [List.range_succ]; simp
theorem fb_bd {ps : Nat → List (List (List St))} {M : Nat} (h : ∀ k, (ps k).length ≤ M) : ∀ k, (fb ps k).length ≤ k * M
  | 0 => by simp [fb]
  | k + 1 => by
    have := fb_bd h k
    have := h k
    rw [fb_succ, List.length_append, Nat.succ_mul]
    omega
set_option maxHeartbeats 4000000 in
theorem joinC_calls (g o n c : Nat) (pv : Nat → Value) (pc : Nat → Nat) (ps : Nat → List (List (List St))) (w : World) (hn : n ≤ 10) (hcell : ∀ i, i < n → w.cell? ⟨g, o + i, none⟩ = some (pv i)) (h : ∀ i, i < n → VB w (pv i) (pc i) (ps i)) (hb : ∀ i, (ps i).length ≤ 100) :
    Calls Try.prog 46 #[.slice (some ⟨g, o, none⟩) n c] w (RetVB w (fb ps n)) := by
  have hfb : ∀ k, k ≤ n → (fb ps k).length ≤ 1000 := fun k hk => by
    have h1 := fb_bd hb k
    have h2 : k * 100 ≤ 10 * 100 := Nat.mul_le_mul_right 100 (by omega)
    omega
  have hfs := fb_succ ps
  have HC := Lib.hid hcell; have HP := Lib.hid h; have HB := Lib.hid hfb; have HS := Lib.hid hfs
  clear hcell h hb hfb hfs
  go_enter Try.func46, Try.ntmps46
  go_wp2
  go_loopw [3, 5, 11] (fun s _ i wr => ∃ k m : Nat, k ≤ n ∧ i = .int .i64 k ∧ s = .int .i64 m ∧ Hid (m = (fb ps k).length) ∧ Hid (Ext w wr)) (fun _ _ i _ => n - (intOf i).toNat)
  case atStart => exact ⟨0, 0, Nat.zero_le _, rfl, rfl, Lib.hid (by simp [fb]), Lib.hid (Ext.refl w)⟩
  case round =>
    obtain ⟨k, m, hk, rfl, rfl, HM, HX⟩ := hrel
    have hm := HB.out k hk
    rw [← HM.out] at hm
    by_cases hlt : k < n
    · obtain ⟨xs, ⟨ao, hv, h1, h2, h3, h4⟩, hl, h5⟩ := HP.out k hlt
      have hc1 := HX.out.cell (HC.out k hlt)
      rw [hv] at hc1
      have hnx := HS.out k
      have hm2 := HB.out (k + 1) (by omega)
      rw [hnx, List.length_append, ← HM.out, ← hl] at hm2
      have t1 : (k : Int) < n := by omega
      obtain ⟨q, hq⟩ : ∃ q, q = xs.length := ⟨_, rfl⟩
      rw [← hq] at hc1 hm2
      have HN := Lib.hid (show m + q = (fb ps (k + 1)).length by rw [hnx, List.length_append, ← HM.out, ← hl, hq])
      clear hnx HM hv h1 h2 h3 h4 hl h5 hq
      go_wp2
      go_roundw
      case rel => exact ⟨k + 1, m + q, by omega, by go_num, by go_num, HN, HX⟩
      case measure => simp [intOf]; omega
    · obtain rfl : n = k := by omega
      obtain ⟨wo, hwo⟩ : ∃ wo : World, wo = wr := ⟨_, rfl⟩
      rw [← hwo] at HX ⊢
      clear hwo
      obtain ⟨i, hi, hz0, hz1, hz2⟩ := info_parts eiC.info
      obtain ⟨w0, hmk, hown, hgrow⟩ := run_make_own (P := Try.prog) wo wo.heap.size 40 24 i (.agg #[.slice none 0 0]) 1 eiC.und hi hz0 hz1 .i64 .i64 m (by rw [hz2]; omega) (by unfold maxLen; omega) (Nat.le_refl _)
      have HO := Lib.hid (And.intro hown (And.intro (HX.out.trans (grown_ext hgrow)) (grown_ext hgrow)))
      clear hlt hk hi hz0 hz1 hz2 hown hgrow
      go_wp2
      clear hmk
      go_loopw [6, 8, 24] (fun v _ i wr => ∃ k : Nat, k ≤ n ∧ i = .int .i64 k ∧ Hid (OB w wr wo.heap.size v (fb ps k) ∧ Ext wo wr)) (fun _ _ i _ => n - (intOf i).toNat)
      case atStart => exact ⟨0, Nat.zero_le _, rfl, Lib.hid ⟨⟨HO.out.2.1, [], by simpa [fb] using HO.out.1, fun i hi => by simp [fb] at hi⟩, HO.out.2.2⟩⟩
      case round =>
        obtain ⟨k, hk, rfl, H⟩ := hrel
        by_cases hlt : k < n
        · obtain ⟨xs, hvs, hl, h5⟩ := HP.out k hlt
          have hvs' := hvs.ext H.out.1.1
          have hc1 := H.out.1.1.cell (HC.out k hlt)
          have hone := VB.ones (v := pv k) (c := pc k) hl h5
          obtain ⟨ao, hv, h1, h2, h3, h4⟩ := hvs
          rw [hv] at hc1 hvs'
          have hnx := HS.out k
          have hm2 := HB.out (k + 1) (by omega)
          rw [hnx, List.length_append, ← hl] at hm2
          have HN := Lib.hid hnx; have HL := Lib.hid hl; have H5 := Lib.hid h5; have HV := Lib.hid hvs'; have H1 := Lib.hid hone
          obtain ⟨ys, hown, hys⟩ := H.out.1.2
          have HOw := Lib.hid hown; have HYs := Lib.hid hys
          have t1 : (k : Int) < n := by omega
          clear hnx hv h1 h2 h3 h4 hl h5 hvs' hone hown hys
          go_wp2_with (at_builtin; refine app_own_g1 eiC rfl _ _ rfl wo.heap.size _ (fb ps k).length ys rfl HOw.out _ _ xs rfl HV.out H1.out ?d0 ?d1 ?d2 ?_)
          case d0 => omega
          case d1 => omega
          case d2 => exact H.out.2.size
          intro v' w' hown hgr
          have hB := own_blk_ge HOw.out
          have HO2 := Lib.hid (show OB w w' wo.heap.size v' (fb ps (k + 1)) ∧ Ext wo w' from ⟨by rw [HN.out]; exact OB.app (y := pv k) HOw.out HYs.out HL.out H5.out hown (H.out.1.1.grown hgr (fun k' hk' => Nat.le_trans HX.out.size (hB k' hk'))), H.out.2.grown hgr hB⟩)
          clear hown hgr hc1 hm2 hB
          go_wp2
          go_roundw
          case rel => exact ⟨k + 1, by omega, by go_num, HO2⟩
          case measure => simp [intOf]; omega
        · obtain rfl : n = k := by omega
          have HF := Lib.hid (show RetVB w (fb ps n) (.returned _) wr from by
            obtain ⟨c, hc⟩ := H.out.1.rr
            exact ⟨_, c, rfl, hc, HX.out.trans H.out.2⟩)
          clear hlt hk
          go_wp2
          go_ret
          exact HF.out
end Go.Proofs.Ytlmkcojimhbmiaa
/- motifs.joined of rows of stitches. -/
namespace Go.Proofs.Ytlmkcojimhbmiaa
set_option linter.unusedVariables false
set_option linter.unusedSimpArgs false
set_option maxRecDepth 8000
open Go Go.RowKit

theorem run_append_none_c {P : Program} {w : World} (base : Nat) (t ty e : TypeId) (i : TypeInfo) (size : Nat) (ht : P.underlying t = some (.slice e)) (hi : P.info? e = some i)
    (v : Value) (n c : Nat) (xs : List Value) (hown : w.ownsRow base e size v n xs) :
    (Builtin.append_ #[t, t] ty #[v, .slice none 0 c]).run P w = .ok v w := by
  rcases hown.2 with ⟨rfl, rfl⟩ | ⟨g, cap, cur, rfl, _, _, hnc, _⟩
  · simp [Builtin.append_, run_underlying ht, sizeOf, typeInfo, hi, Builtin.lenOf, Builtin.firstCells]
  · simp [Builtin.append_, run_underlying ht, sizeOf, typeInfo, hi, Builtin.lenOf, Builtin.firstCells, hnc, storeCells]
/-- The cells of a row that came in. -/
theorem RS.news {w : World} {b o : Nat} {l : List St} (h : ∀ i, i < l.length → At5 w b (o + i * 5) (si l i)) : ∀ j u, (cells l)[j]? = some u → w.cell? ((⟨b, o, none⟩ : Addr).add j) = some u := by
  intro j u hu
  have hj : j < l.length * 5 := by rw [← cells_len]; exact (List.getElem?_eq_some_iff.1 hu).1
  have hadd : (⟨b, o, none⟩ : Addr).add j = ⟨b, o + j, none⟩ := Addr.add_lit _ _ _
  rw [hadd]
  obtain ⟨a0, a1, a2, a3, a4⟩ := h (j / 5) (by omega)
  obtain ⟨b0, b1, b2, b3, b4⟩ := cells_at l (j / 5) (by omega)
  rcases (show j = j / 5 * 5 ∨ j = j / 5 * 5 + 1 ∨ j = j / 5 * 5 + 2 ∨ j = j / 5 * 5 + 3 ∨ j = j / 5 * 5 + 4 by omega) with e | e | e | e | e <;> rw [e] at hu ⊢
  · rw [a0, ← hu, b0]
  · rw [← Nat.add_assoc, a1, ← hu, b1]
  · rw [← Nat.add_assoc, a2, ← hu, b2]
  · rw [← Nat.add_assoc, a3, ← hu, b3]
  · rw [← Nat.add_assoc, a4, ← hu, b4]
/-- 'append(s, x...)' of stitches that came in to stitches of the call's own. -/
theorem app_rs {w : World} {ops : Array Oper} {rest : List Oper} {o : Oper} {a : Act} {Q : Exit → Act → World → Prop}
    (hg : o.guard = none) (s x : Operand) (hop : o.op = Op.call { callee := Callee.builtin Builtin.append, args := #[s, x], argTypes := #[59, 59] })
    (B : Nat) (v : Value) (n : Nat) (xs : List Value) (hs : a.eval s = v) (hown : w.ownsRow B 67 5 v n xs)
    (y : Value) (c : Nat) (l : List St) (hx : a.eval x = y) (hR : RS w y c l)
    (hlen : n + l.length ≤ 1000000) (hB : B ≤ w.heap.size)
    (hK : ∀ v' w', w'.ownsRow B 67 5 v' (n + l.length) (xs ++ cells l) → w.grownBy w' v.ownBlock → wpList Try.prog ops Q rest (a.put o.dst v') w') :
    wpList Try.prog ops Q (o :: rest) a w := by
  obtain ⟨i, hi, hzz⟩ := Option.map_eq_some_iff.1 (show (Try.prog.info? 67).map (fun i => (i.zero, i.size, i.bytes)) = some (some (.agg z5), 5, 32) by kernel_rfl)
  simp only [Prod.mk.injEq] at hzz
  obtain ⟨hz, hsz, hb⟩ := hzz
  obtain ⟨ao, rfl, hl, hm, hrest⟩ := hR
  have hok : ∀ ad : Addr, ao = some ad → (∀ j u, (cells l)[j]? = some u → w.cell? (ad.add j) = some u) → wpList Try.prog ops Q (o :: rest) a w := fun ad had hn => by
    subst had
    refine wpList_append_own w hg s x 59 hop B 67 i (.agg z5) 5 32 Try.underlying59 hi hz hsz hb rfl (by decide) v n xs hs hown ad l.length c (cells l) hx (by rw [cells_len]) hn (cs_one l) (by unfold maxLen; omega) (by omega) hB ?_
    intro v' w' h2 h3 _
    exact hK v' w' h2 h3
  rcases hrest with h0 | ⟨b, q, h1, h2⟩
  · subst h0
    cases ao with
    | none =>
      refine wpList_plain hg fun K hK2 => ?_
      have hrun := run_append_none_c (P := Try.prog) (w := w) B 59 o.type 67 i 5 Try.underlying59 hi v n c xs hown
      have hx' : a.eval x = .slice none 0 c := hx
      unfold Oper.wp
      simp [execOp, hop, resolve, invoke, builtin, hs, hx', hrun, Result.andThen]
      exact hK2 _ _ (hK v w (by simpa [cells] using hown) (World.grownBy.refl _ _))
    | some ad => exact hok ad rfl (fun j u hj => by simp [cells] at hj)
  · exact hok _ h1 (RS.news h2)
def RetRW (w0 : World) (l : List St) (e : Ending) (w' : World) : Prop := ∃ u, e = .returned u ∧ RV w' u l ∧ Ext w0 w'
def fl (rows : List (List St)) (k : Nat) : List St := (rows.take k).flatten
theorem fl_succ {rows : List (List St)} {k : Nat} (h : k < rows.length) : fl rows (k + 1) = fl rows k ++ sw rows k := by unfold fl; rw [take_succ_sw h]; simp
theorem fl_all {rows : List (List St)} : fl rows rows.length = rows.flatten := by unfold fl; rw [List.take_length]
theorem fl_le {rows : List (List St)} {k : Nat} : (fl rows k).length ≤ rows.flatten.length := by
  unfold fl
  conv => rhs; rw [← List.take_append_drop k rows, List.flatten_append, List.length_append]
  omega
set_option maxHeartbeats 2000000 in
theorem joinS_calls (v : Value) (c : Nat) (rows : List (List St)) (w : World) (h : RR w v c rows) (hL : rows.flatten.length ≤ 100000) :
    Calls Try.prog 39 #[v] w (RetRW w rows.flatten) := by
  obtain ⟨ao, n, rfl, hn, hc, hcm, hat⟩ := h.open
  unfold maxLen at hcm
  have hfs := fun k (hk : k < n) => fl_succ (rows := rows) (k := k) (by omega)
  have hfb := fun k => Nat.le_trans (fl_le (rows := rows) (k := k)) hL
  have hfa : fl rows n = rows.flatten := by rw [hn, fl_all]
  have HR := Lib.hid hat; have HS := Lib.hid hfs; have HB := Lib.hid hfb; have HA := Lib.hid hfa
  clear hat hfs hfb hfa hn h hL
  go_enter Try.func39, Try.ntmps39
  go_wp2
  go_loopw [3, 5, 11] (fun s _ i wr => ∃ k m : Nat, k ≤ n ∧ i = .int .i64 k ∧ s = .int .i64 m ∧ Hid (m = (fl rows k).length) ∧ Hid (Ext w wr)) (fun _ _ i _ => n - (intOf i).toNat)
  case atStart => exact ⟨0, 0, Nat.zero_le _, rfl, rfl, Lib.hid (by simp [fl]), Lib.hid (Ext.refl w)⟩
  case round =>
    obtain ⟨k, m, hk, rfl, rfl, HM, HX⟩ := hrel
    have hm := HB.out k
    rw [← HM.out] at hm
    by_cases hlt : k < n
    · obtain ⟨b, o, a, q, d, rfl, hc1, hr1⟩ := HR.out k hlt
      replace hc1 := HX.out.cell hc1
      have hnx := HS.out k hlt
      obtain ⟨_, _, e1, e2, e3, e4, _⟩ := hr1.open
      simp only [Value.slice.injEq] at e1
      obtain ⟨rfl, rfl, _⟩ := e1
      have hm2 := HB.out (k + 1)
      rw [hnx, List.length_append, ← HM.out, ← e2] at hm2
      have t1 : (k : Int) < n := by omega
      have HN := Lib.hid (show m + q = (fl rows (k + 1)).length by rw [hnx, List.length_append, ← HM.out, ← e2])
      clear hnx HM hr1 e2 e3 e4
      go_wp2
      go_roundw
      case rel => exact ⟨k + 1, m + q, by omega, by go_num, by go_num, HN, HX⟩
      case measure => simp [intOf]; omega
    · obtain rfl : n = k := by omega
      obtain ⟨wo, hwo⟩ : ∃ wo : World, wo = wr := ⟨_, rfl⟩
      rw [← hwo] at HX ⊢
      clear hwo
      obtain ⟨i, hi, hzz⟩ := Option.map_eq_some_iff.1 (show (Try.prog.info? 67).map (fun i => (i.zero, i.size, i.bytes)) = some (some (.agg z5), 5, 32) by kernel_rfl)
      simp only [Prod.mk.injEq] at hzz
      obtain ⟨hz, hsz, hby⟩ := hzz
      obtain ⟨w0, hmk, hown, hgrow⟩ := run_make_own (P := Try.prog) wo wo.heap.size 59 67 i (.agg z5) 5 Try.underlying59 hi hz hsz .i64 .i64 m (by rw [hby]; omega) (by unfold maxLen; omega) (Nat.le_refl _)
      have HO := Lib.hid (And.intro hown (And.intro (HX.out.trans (grown_ext hgrow)) (grown_ext hgrow)))
      clear hlt hk hi hz hsz hby hown hgrow
      go_wp2
      clear hmk
      go_loopw [6, 8, 24] (fun v _ i wr => ∃ k : Nat, k ≤ n ∧ i = .int .i64 k ∧ Hid (wr.ownsRow wo.heap.size 67 5 v (fl rows k).length (cells (fl rows k)) ∧ Ext wo wr)) (fun _ _ i _ => n - (intOf i).toNat)
      case atStart => exact ⟨0, Nat.zero_le _, rfl, Lib.hid ⟨by simpa [fl, cells] using HO.out.1, HO.out.2.2⟩⟩
      case round =>
        obtain ⟨k, hk, rfl, H⟩ := hrel
        by_cases hlt : k < n
        · obtain ⟨b, o, a, q, d, rfl, hc1, hr1⟩ := HR.out k hlt
          have xx := HX.out.trans H.out.2
          replace hc1 := xx.cell hc1
          have HRo := Lib.hid (hr1.ext xx)
          have hnx := HS.out k hlt
          have hm2 := HB.out (k + 1)
          rw [hnx, List.length_append] at hm2
          have HN := Lib.hid hnx
          have hln : (fl rows (k + 1)).length = (fl rows k).length + (sw rows k).length := by rw [hnx, List.length_append]
          have HLn := Lib.hid hln
          have t1 : (k : Int) < n := by omega
          clear hnx hr1 hln xx
          go_wp2_with (at_builtin; refine app_rs rfl _ _ rfl wo.heap.size _ (fl rows k).length _ rfl H.out.1 _ _ (sw rows k) rfl HRo.out ?d1 ?d2 ?_)
          case d1 => omega
          case d2 => exact H.out.2.size
          intro v' w' hown hgr
          have HO2 := Lib.hid (show w'.ownsRow wo.heap.size 67 5 v' (fl rows (k + 1)).length (cells (fl rows (k + 1))) ∧ Ext wo w' from ⟨by rw [HLn.out, HN.out, cells_app]; exact hown, H.out.2.grown hgr (fun k' hk' => by
            obtain ⟨_, hv | ⟨g', cap, cur, hv, hBg, _⟩⟩ := H.out.1
            · rw [hv.1] at hk'; cases hk'
            · rw [hv] at hk'; injection hk' with hk'; rw [← hk']; exact hBg)⟩)
          clear hown hgr hc1 hm2
          go_wp2
          go_roundw
          case rel => exact ⟨k + 1, by omega, by go_num, HO2⟩
          case measure => simp [intOf]; omega
        · obtain rfl : n = k := by omega
          have HF := Lib.hid (show RetRW w rows.flatten (.returned _) wr from ⟨_, rfl, by rw [← HA.out]; exact (RV.of_own H.out.1).1, HX.out.trans H.out.2⟩)
          clear hlt hk
          go_wp2
          go_ret
          exact HF.out
end Go.Proofs.Ytlmkcojimhbmiaa
/- Blocks beside and above each other, in plain Lean; rows of charts that a call fills in. -/
namespace Go.Proofs.Ytlmkcojimhbmiaa
set_option linter.unusedVariables false
set_option linter.unusedSimpArgs false
set_option maxRecDepth 8000
open Go Go.RowKit

/-- Row i of the blocks, side by side. -/
def rowB (bs : List (List (List St))) (i : Nat) : List St := (bs.map fun b => sw b i).flatten
def besRows (bs : List (List (List St))) : List (List St) := (List.range (bw bs 0).length).map (rowB bs)
def besE (bs : List (List (List St))) : Int :=
  if bs = [] then 0 else if bs.any (fun b => decide (b.length ≠ (bw bs 0).length)) then 5 else if 64 < bs.length ∨ 31 < (bw bs 0).length then 3
  else if (besRows bs).any (fun r => decide (16 < r.length)) then 3 else 0
def besR (bs : List (List (List St))) : List (List St) := if besE bs = 0 then besRows bs else []
theorem besRows_len (bs : List (List (List St))) : (besRows bs).length = (bw bs 0).length := by simp [besRows]
theorem besRows_at {bs : List (List (List St))} {i : Nat} (h : i < (bw bs 0).length) : sw (besRows bs) i = rowB bs i := by
  unfold sw besRows; simp [List.getD, h]
theorem besE_nil {bs : List (List (List St))} (h : bs.length = 0) : besE bs = 0 ∧ besR bs = [] := by
  have h0 : bs = [] := List.eq_nil_of_length_eq_zero h
  subst h0
  exact ⟨rfl, rfl⟩
theorem besE_5 {bs : List (List (List St))} {k : Nat} (hk : k < bs.length) (h : (bw bs k).length ≠ (bw bs 0).length) : besE bs = 5 := by
  unfold besE
  rw [if_neg (fun e => by rw [e] at hk; simp at hk), if_pos]
  exact List.any_eq_true.2 ⟨_, bw_mem hk, decide_eq_true h⟩
theorem bes_eq {bs : List (List (List St))} (h : ∀ k, k < bs.length → (bw bs k).length = (bw bs 0).length) : bs.any (fun b => decide (b.length ≠ (bw bs 0).length)) = false := by
  rw [List.any_eq_false]
  intro b hb
  obtain ⟨k, hk, rfl⟩ := List.mem_iff_getElem.1 hb
  have := h k hk
  rw [bw_of_lt hk] at this
  simpa using this
theorem besE_3 {bs : List (List (List St))} (h0 : 0 < bs.length) (h : ∀ k, k < bs.length → (bw bs k).length = (bw bs 0).length) (hb : 64 < bs.length ∨ 31 < (bw bs 0).length) : besE bs = 3 := by
  unfold besE
  rw [if_neg (fun e => by rw [e] at h0; simp at h0), if_neg (by rw [bes_eq h]; simp), if_pos hb]
theorem besE_w {bs : List (List (List St))} (h0 : 0 < bs.length) (h : ∀ k, k < bs.length → (bw bs k).length = (bw bs 0).length) {i : Nat} (hi : i < (bw bs 0).length) (hw : 16 < (rowB bs i).length) : besE bs = 3 := by
  unfold besE
  rw [if_neg (fun e => by rw [e] at h0; simp at h0), if_neg (by rw [bes_eq h]; simp)]
  by_cases hb : 64 < bs.length ∨ 31 < (bw bs 0).length
  · rw [if_pos hb]
  · rw [if_neg hb, if_pos]
    exact List.any_eq_true.2 ⟨rowB bs i, by unfold besRows; exact List.mem_map.2 ⟨i, List.mem_range.2 hi, rfl⟩, decide_eq_true hw⟩
theorem besE_0 {bs : List (List (List St))} (h0 : 0 < bs.length) (h : ∀ k, k < bs.length → (bw bs k).length = (bw bs 0).length) (hb : ¬ (64 < bs.length ∨ 31 < (bw bs 0).length)) (hw : ∀ i, i < (bw bs 0).length → (rowB bs i).length ≤ 16) : besE bs = 0 ∧ besR bs = besRows bs := by
  have h1 : besE bs = 0 := by
    unfold besE
    rw [if_neg (fun e => by rw [e] at h0; simp at h0), if_neg (by rw [bes_eq h]; simp), if_neg hb, if_neg]
    rw [List.any_eq_true]
    rintro ⟨r, hr, hlt⟩
    unfold besRows at hr
    obtain ⟨i, hi, rfl⟩ := List.mem_map.1 hr
    have := hw i (List.mem_range.1 hi)
    have := of_decide_eq_true hlt
    omega
  exact ⟨h1, by unfold besR; rw [if_pos h1]⟩
theorem besR_bad {bs : List (List (List St))} (h : besE bs ≠ 0) : besR bs = [] := by unfold besR; rw [if_neg h]
/-- The first k parts of row i. -/
def partB (bs : List (List (List St))) (i k : Nat) : List (List St) := (bs.take k).map fun b => sw b i
theorem partB_succ {bs : List (List (List St))} {i k : Nat} (h : k < bs.length) : partB bs i (k + 1) = partB bs i k ++ [sw (bw bs k) i] := by unfold partB; rw [take_succ_bw h]; simp
theorem partB_all (bs : List (List (List St))) (i : Nat) : (partB bs i bs.length).flatten = rowB bs i := by unfold partB rowB; rw [List.take_length]
theorem partB_len {bs : List (List (List St))} {i k : Nat} (h : k ≤ bs.length) : (partB bs i k).length = k := by unfold partB; simp [h]
theorem partB_at {bs : List (List (List St))} {i k j : Nat} (h : k ≤ bs.length) (hj : j < k) : sw (partB bs i k) j = sw (bw bs j) i := by
  unfold sw bw partB
  simp [List.getD, List.getElem?_take, hj]
  cases bs[j]? <;> simp [sw, List.getD]

/-! ### Rows that a call fills in -/
/-- The first k of N rows are laid; they came in, or are the call's own. -/
def RB (w wr : World) (R N k : Nat) (rows : Nat → List St) : Prop := Ext w wr ∧ w.heap.size ≤ R ∧ N ≤ maxLen ∧ ∃ f, wr.rowIs R 59 N f ∧ ∀ i, i < k → ∃ c, RS w (f i) c (rows i) ∨ RV wr (f i) (rows i)
theorem RB.start {w wr : World} {R N : Nat} {f : Nat → Value} {rows : Nat → List St} (x : Ext w wr) (h : w.heap.size ≤ R) (hN : N ≤ maxLen) (hr : wr.rowIs R 59 N f) : RB w wr R N 0 rows :=
  ⟨x, h, hN, f, hr, fun i hi => by omega⟩
theorem RB.later {w wr w' : World} {R N k : Nat} {rows : Nat → List St} (h : RB w wr R N k rows) (x : Ext wr w') : RB w w' R N k rows := by
  obtain ⟨h1, h2, h3, f, h4, h5⟩ := h
  refine ⟨h1.trans x, h2, h3, f, x.row h4, fun i hi => ?_⟩
  obtain ⟨c, h | h⟩ := h5 i hi
  · exact ⟨c, .inl h⟩
  · exact ⟨c, .inr (h.ext x)⟩
theorem RB.ex {w wr : World} {R N k : Nat} {rows : Nat → List St} (h : RB w wr R N k rows) {i : Nat} (hi : i < N) : ∃ v, wr.cell? ⟨R, i, none⟩ = some v := by
  obtain ⟨h1, h2, h3, f, h4, h5⟩ := h
  exact ⟨_, h4.cell hi⟩
theorem RB.frozen {w wr : World} {R N k : Nat} {rows : Nat → List St} (h : RB w wr R N k rows) (i : Nat) : wr.frozen? ⟨R, i, none⟩ = false := by
  obtain ⟨h1, h2, h3, f, h4, h5⟩ := h
  exact h4.frozen i
theorem RB.put {w wr : World} {R N k : Nat} {rows : Nat → List St} {u : Value} (h : RB w wr R N k rows) (hk : k < N) (hu : ∃ c, RS w u c (rows k) ∨ RV wr u (rows k)) : RB w (wr.setCell ⟨R, k, none⟩ u) R N (k + 1) rows := by
  obtain ⟨h1, h2, h3, f, h4, h5⟩ := h
  obtain ⟨cur, hb, _⟩ := id h4
  refine ⟨h1.setCell h2 _, h2, h3, _, h4.set k _, fun i hi => ?_⟩
  show ∃ c, RS w (if i = k then u else f i) c (rows i) ∨ RV _ (if i = k then u else f i) (rows i)
  by_cases e : i = k
  · rw [if_pos e, e]
    obtain ⟨c, h | h⟩ := hu
    · exact ⟨c, .inl h⟩
    · exact ⟨c, .inr (h.setOther hb (by decide))⟩
  · rw [if_neg e]
    obtain ⟨c, h | h⟩ := h5 i (by omega)
    · exact ⟨c, .inl h⟩
    · exact ⟨c, .inr (h.setOther hb (by decide))⟩
theorem RB.setOther {w wr : World} {R N k : Nat} {rows : Nat → List St} {a : Addr} {u : Value} {cs : Array Value} {t : TypeId} {q : Nat × Nat} (h : RB w wr R N k rows) (hb : wr.heap[a.block]? = some (Obj.cells cs t q)) (ht1 : 67 ≠ t) (hne : R ≠ a.block) (hw : w.heap.size ≤ a.block) : RB w (wr.setCell a u) R N k rows := by
  obtain ⟨h1, h2, h3, f, h4, h5⟩ := h
  refine ⟨h1.setCell hw _, h2, h3, f, h4.setOther hne _, fun i hi => ?_⟩
  obtain ⟨c, h | h⟩ := h5 i hi
  · exact ⟨c, .inl h⟩
  · exact ⟨c, .inr (h.setOther hb ht1)⟩
theorem RB.rr {w wr : World} {R N : Nat} {rows : Nat → List St} (h : RB w wr R N N rows) : RR wr (.slice (some ⟨R, 0, none⟩) N N) N ((List.range N).map rows) := by
  obtain ⟨h1, h2, h3, f, h4, h5⟩ := h
  have hcap : ∀ i, ∃ c, i < N → RS wr (f i) c (rows i) := fun i => by
    by_cases hi : i < N
    · obtain ⟨c, h | h⟩ := h5 i hi
      · exact ⟨c, fun _ => h.ext h1⟩
      · obtain ⟨c', h'⟩ := h.rs
        exact ⟨c', fun _ => h'⟩
    · exact ⟨0, fun h => absurd h hi⟩
  refine ⟨some ⟨R, 0, none⟩, f, fun i => (hcap i).choose, by simp, by simp, h3, .inr ⟨R, 0, rfl, fun i hi => ?_⟩, fun i hi => ?_⟩
  · rw [Nat.zero_add, h4.cell (by simpa using hi)]
  · have hi' : i < N := by simpa using hi
    have e : sw ((List.range N).map rows) i = rows i := by unfold sw; simp [List.getD, hi']
    rw [e]; exact (hcap i).choose_spec hi'
/-- The first k of N rows are laid, in blocks of the call's own. -/
def RBv (w wr : World) (R N k : Nat) (rows : Nat → List St) : Prop := Ext w wr ∧ w.heap.size ≤ R ∧ N ≤ maxLen ∧ ∃ f, wr.rowIs R 59 N f ∧ ∀ i, i < k → RV wr (f i) (rows i)
theorem RBv.start {w wr : World} {R N : Nat} {f : Nat → Value} {rows : Nat → List St} (x : Ext w wr) (h : w.heap.size ≤ R) (hN : N ≤ maxLen) (hr : wr.rowIs R 59 N f) : RBv w wr R N 0 rows :=
  ⟨x, h, hN, f, hr, fun i hi => by omega⟩
theorem RBv.later {w wr w' : World} {R N k : Nat} {rows : Nat → List St} (h : RBv w wr R N k rows) (x : Ext wr w') : RBv w w' R N k rows := by
  obtain ⟨h1, h2, h3, f, h4, h5⟩ := h
  exact ⟨h1.trans x, h2, h3, f, x.row h4, fun i hi => (h5 i hi).ext x⟩
theorem RBv.ex {w wr : World} {R N k : Nat} {rows : Nat → List St} (h : RBv w wr R N k rows) {i : Nat} (hi : i < N) : ∃ v, wr.cell? ⟨R, i, none⟩ = some v := by
  obtain ⟨h1, h2, h3, f, h4, h5⟩ := h
  exact ⟨_, h4.cell hi⟩
theorem RBv.frozen {w wr : World} {R N k : Nat} {rows : Nat → List St} (h : RBv w wr R N k rows) (i : Nat) : wr.frozen? ⟨R, i, none⟩ = false := by
  obtain ⟨h1, h2, h3, f, h4, h5⟩ := h
  exact h4.frozen i
theorem RBv.put {w wr : World} {R N k : Nat} {rows : Nat → List St} {u : Value} (h : RBv w wr R N k rows) (hk : k < N) (hu : RV wr u (rows k)) : RBv w (wr.setCell ⟨R, k, none⟩ u) R N (k + 1) rows := by
  obtain ⟨h1, h2, h3, f, h4, h5⟩ := h
  obtain ⟨cur, hb, _⟩ := id h4
  refine ⟨h1.setCell h2 _, h2, h3, _, h4.set k _, fun i hi => ?_⟩
  show RV _ (if i = k then u else f i) (rows i)
  by_cases e : i = k
  · rw [if_pos e, e]; exact hu.setOther hb (by decide)
  · rw [if_neg e]; exact (h5 i (by omega)).setOther hb (by decide)
theorem RBv.setOther {w wr : World} {R N k : Nat} {rows : Nat → List St} {a : Addr} {u : Value} {cs : Array Value} {t : TypeId} {q : Nat × Nat} (h : RBv w wr R N k rows) (hb : wr.heap[a.block]? = some (Obj.cells cs t q)) (ht1 : 67 ≠ t) (hne : R ≠ a.block) (hw : w.heap.size ≤ a.block) : RBv w (wr.setCell a u) R N k rows := by
  obtain ⟨h1, h2, h3, f, h4, h5⟩ := h
  exact ⟨h1.setCell hw _, h2, h3, f, h4.setOther hne _, fun i hi => (h5 i hi).setOther hb ht1⟩
theorem RBv.co {w wr : World} {R N : Nat} {rows : Nat → List St} (h : RBv w wr R N N rows) : CO w wr (.slice (some ⟨R, 0, none⟩) N N) ((List.range N).map rows) := by
  obtain ⟨h1, h2, h3, f, h4, h5⟩ := h
  refine ⟨h1, (List.range N).map f, ?_, fun i hi => ?_⟩
  · have := own_base' (own_of_row h4 (Nat.le_refl _) h3) h2
    simpa using this
  · have hi' : i < N := by simpa using hi
    refine ⟨f i, by simp [hi'], ?_⟩
    have e : sw ((List.range N).map rows) i = rows i := by unfold sw; simp [List.getD, hi']
    rw [e]; exact h5 i hi'
/-- A chart in blocks of the call's own, and an error. -/
def RetCO (w0 : World) (rows : List (List St)) (err : Int) (e : Ending) (w' : World) : Prop := ∃ v, e = .returned (.tuple #[.agg #[v], .int .i64 err]) ∧ CO w0 w' v rows ∧ RR w' v rows.length rows
theorem RetCO.ce {w0 w' : World} {rows : List (List St)} {err : Int} {e : Ending} (h : RetCO w0 rows err e w') : RetCE w0 rows err e w' := by
  obtain ⟨v, h1, h2, h3⟩ := h
  exact ⟨v, h1, h3, h2.1⟩
/-- .. that a caller stores away. -/
theorem CO.put {w w8 w' : World} {v u : Value} {rows : List (List St)} {a : Addr} {cs : Array Value} {t : TypeId} {q : Nat × Nat} (h : CO w8 w' v rows) (hr : RR w' v rows.length rows) (x : Ext w w8) (hb : w'.heap[a.block]? = some (.cells cs t q)) (ht1 : 67 ≠ t) (ht2 : t ≠ 59) (hw : w.heap.size ≤ a.block) :
    CO w (w'.setCell a u) v rows ∧ RR (w'.setCell a u) v rows.length rows := by
  have h1 := (h.base x).setOther (u' := u) hb ht1 ht2 hw
  refine ⟨h1, ?_⟩
  obtain ⟨c, hc⟩ := h1.rr
  obtain ⟨a1, n1, e1, _⟩ := hr.open
  obtain ⟨a2, n2, e2, _⟩ := hc.open
  rw [e1] at e2
  simp only [Value.slice.injEq] at e2
  obtain ⟨_, _, rfl⟩ := e2
  exact hc
end Go.Proofs.Ytlmkcojimhbmiaa
/- motifs.Beside. -/
namespace Go.Proofs.Ytlmkcojimhbmiaa
set_option linter.unusedVariables false
set_option linter.unusedSimpArgs false
set_option maxRecDepth 8000
open Go Go.RowKit

theorem CO.rrc {w wr : World} {g n H : Nat} {rows : List (List St)} (h : CO w wr (.slice (some ⟨g, 0, none⟩) n H) rows) : RR wr (.slice (some ⟨g, 0, none⟩) n H) H rows := by
  obtain ⟨c, hc⟩ := h.rr
  obtain ⟨_, _, e, _⟩ := hc.open
  simp only [Value.slice.injEq] at e
  obtain ⟨_, _, rfl⟩ := e
  exact hc
set_option maxHeartbeats 8000000 in
theorem Beside2_calls (v : Value) (c : Nat) (bs : List (List (List St))) (w : World) (h : BB w v c bs) (hl : bs.length ≤ 1000) (hr : ∀ k, k < bs.length → ∀ i, i < (bw bs k).length → (sw (bw bs k) i).length ≤ 1000) :
    Calls Try.prog 19 #[v] w (RetCO w (besR bs) (besE bs)) := by
  obtain ⟨ao, n, rfl, hn, hc, hcm, hat⟩ := h.open
  unfold maxLen at hcm
  obtain ⟨W, hW⟩ : ∃ W, W = w.alloc (.cells #[.slice none 0 0] 24) := ⟨_, rfl⟩
  have xW : Ext w W := by rw [hW]; exact (Ext.refl w).alloc _
  have hres : W.heap[w.heap.size]? = some (Obj.cells #[.slice none 0 0] 24 (0, 0)) := by rw [hW]; exact blk_at rfl
  have HRes := Lib.hid (fun w' (x : Ext W w') => x.block hres)
  have hbad : ∀ w' e, Ext W w' → besE bs = e → e ≠ 0 → RetCO w (besR bs) (besE bs) (.returned (.tuple #[.agg #[.slice none 0 0], .int .i64 e])) (w'.setCell ⟨w.heap.size, 0, none⟩ (.slice none 0 0)) := fun w' e x he h0 => by
    rw [besR_bad (by omega), he]
    exact ⟨_, rfl, CO.nil ((xW.trans x).setCell (Nat.le_refl _) _), RR.nil _⟩
  have XW := Lib.hid xW; have HBad := Lib.hid hbad; have HW := Lib.hid hW; have HA := Lib.hid hat; have Hn := Lib.hid hn; have Hr := Lib.hid (fun k (hk : k < n) => hr k (by omega))
  have hn1000 : n ≤ 1000 := by omega
  by_cases hn0 : n = 0
  · obtain ⟨z1, z2⟩ := besE_nil (bs := bs) (by omega)
    have hF : RetCO w (besR bs) (besE bs) (.returned (.tuple #[.agg #[.slice none 0 0], .int .i64 0])) W := by
      rw [z1, z2]; exact ⟨_, rfl, CO.nil xW, RR.nil _⟩
    rw [hW] at hF
    have HF := Lib.hid hF
    have t1 : ((n : Int) == 0) = true := by rw [hn0]; rfl
    clear hat h hn hW xW hres hbad HBad hF z1 z2 hr hn0
    go_enter Try.func19, Try.ntmps19
    go_wp2
    exact bodyPost_ret (v := .tuple #[.agg #[.slice none 0 0], .int .i64 0]) (by simp [results, Try.results19, go_sem]) rfl HF.out
  have t1 : ((n : Int) == 0) = false := beq_eq_false_iff_ne.2 (by omega)
  have h5 := fun k (hk : k < n) => besE_5 (bs := bs) (k := k) (by omega)
  have h3 := fun (h : ∀ k, k < n → (bw bs k).length = (bw bs 0).length) => besE_3 (bs := bs) (by omega) (fun k hk => h k (by omega))
  have hw3 := fun (h : ∀ k, k < n → (bw bs k).length = (bw bs 0).length) i => besE_w (bs := bs) (by omega) (fun k hk => h k (by omega)) (i := i)
  have h00 := fun (h : ∀ k, k < n → (bw bs k).length = (bw bs 0).length) => besE_0 (bs := bs) (by omega) (fun k hk => h k (by omega))
  rw [← hn] at h3 h00
  obtain ⟨b, o, a0, m0, d0, rfl, y1, y2, y3⟩ := hat 0 (by omega)
  rw [Nat.add_zero] at y1
  have hbx := xW.cell y1
  have Hm0 := Lib.hid y2
  have hm0b : m0 ≤ 2 ^ 63 - 1 := by obtain ⟨_, _, e1, e2, e3, e4, _⟩ := y3.open; simp only [Value.slice.injEq] at e1; obtain ⟨_, rfl, _⟩ := e1; unfold maxLen at e4; omega
  rw [← y2] at h5 h3 hw3 h00
  have H5 := Lib.hid h5; have H3 := Lib.hid h3; have Hw3 := Lib.hid hw3; have H00 := Lib.hid h00; have H1 := Lib.hid y1
  have hn0' : 0 < n := by omega
  have t2 : (0 : Int) < n := by omega
  rw [hW] at hbx
  clear hat h hn hW xW hres hbad h5 h3 hw3 h00 y1 y2 y3 hr hn0 hl
  go_enter Try.func19, Try.ntmps19
  go_wp2
  rw [← HW.out]
  clear hbx
  go_loopw [6, 24] (fun _ i wr => ∃ k : Nat, k ≤ n ∧ i = .int .i64 k ∧ Hid (Ext W wr) ∧ Hid (∀ j, j < k → (bw bs j).length = m0)) (fun _ i _ => n - (intOf i).toNat)
  case atStart => exact ⟨0, Nat.zero_le _, rfl, Lib.hid (Ext.refl _), Lib.hid (fun j hj => by omega)⟩
  case round =>
    obtain ⟨k, hk, rfl, HX, HG⟩ := hrel
    by_cases hlt : k < n
    · obtain ⟨b', o', a, m, d, hbo, y1, y2, y3⟩ := HA.out k hlt
      obtain ⟨rfl, rfl⟩ : b = b' ∧ o = o' := by simpa using hbo
      replace y1 := (XW.out.trans HX.out).cell y1
      have t3 : (k : Int) < n := by omega
      have XB := Lib.hid (HX.out.alloc (.cells #[.slice a m d] 24))
      have Hm := Lib.hid y2
      clear y2 y3 hbo
      by_cases hm : m = m0
      · have t4 : ((m : Int) != (m0 : Int)) = false := by rw [bne, beq_iff_eq.2 (by omega)]; rfl
        have HG2 := Lib.hid (show ∀ j, j < k + 1 → (bw bs j).length = m0 from fun j hj => by
          by_cases e : j = k
          · rw [e, ← Hm.out]; exact hm
          · exact HG.out j (by omega))
        clear hm
        go_wp2
        go_roundw
        case rel => exact ⟨k + 1, by omega, by go_num, XB, HG2⟩
        case measure => simp [intOf]; omega
      · have t4 : ((m : Int) != (m0 : Int)) = true := by rw [bne, beq_eq_false_iff_ne.2 (by omega)]; rfl
        obtain ⟨W3, hW3⟩ : ∃ W3, W3 = wr.alloc (.cells #[.slice a m d] 24) := ⟨_, rfl⟩
        rw [← hW3] at XB
        have hR := HRes.out _ XB.out
        have r1 : W3.cell? ⟨w.heap.size, 0, none⟩ = some (.slice none 0 0) := by simp [World.cell?, hR]
        have r2 : W3.frozen? ⟨w.heap.size, 0, none⟩ = false := by simp [World.frozen?, hR]
        have r3 : (W3.setCell ⟨w.heap.size, 0, none⟩ (.slice none 0 0)).cell? ⟨w.heap.size, 0, none⟩ = some (.slice none 0 0) := by simp [World.cell?, blk_one hR _]
        have HF := Lib.hid (HBad.out W3 5 XB.out (H5.out k hlt (by rw [← Hm.out]; exact hm)) (by decide))
        have R3 := Lib.hid r3; have HW3 := Lib.hid hW3
        rw [hW3] at r1 r2
        clear hm hR hW3 r3
        go_wp2
        rw [← HW3.out]
        have r3 := R3.out
        exact bodyPost_ret (v := .tuple #[.agg #[.slice none 0 0], .int .i64 5]) (by simp [results, Try.results19, go_sem, r3]) rfl HF.out
    · obtain rfl : n = k := by omega
      obtain ⟨w1, hw1⟩ : ∃ w1 : World, w1 = wr := ⟨_, rfl⟩
      rw [← hw1] at HX ⊢
      clear hw1 hlt hk
      by_cases hbig : 64 < n ∨ 31 < m0
      · have hR := HRes.out _ HX.out
        have r1 : w1.cell? ⟨w.heap.size, 0, none⟩ = some (.slice none 0 0) := by simp [World.cell?, hR]
        have r2 : w1.frozen? ⟨w.heap.size, 0, none⟩ = false := by simp [World.frozen?, hR]
        have r3 : (w1.setCell ⟨w.heap.size, 0, none⟩ (.slice none 0 0)).cell? ⟨w.heap.size, 0, none⟩ = some (.slice none 0 0) := by simp [World.cell?, blk_one hR _]
        have HF := Lib.hid (HBad.out w1 3 HX.out (H3.out HG.out hbig) (by decide))
        have R3 := Lib.hid r3
        clear hR r3
        by_cases h64 : 64 < n
        · have u1 : (64 : Int) < n := by omega
          clear hbig h64
          go_wp2
          have r3 := R3.out
          exact bodyPost_ret (v := .tuple #[.agg #[.slice none 0 0], .int .i64 3]) (by simp [results, Try.results19, go_sem, r3]) rfl HF.out
        · have u1 : ¬ (64 : Int) < n := by omega
          have u2 : (31 : Int) < m0 := by omega
          clear hbig h64
          go_wp2
          have r3 := R3.out
          exact bodyPost_ret (v := .tuple #[.agg #[.slice none 0 0], .int .i64 3]) (by simp [results, Try.results19, go_sem, r3]) rfl HF.out
      have u1 : ¬ (64 : Int) < n := by omega
      have u2 : ¬ (31 : Int) < m0 := by omega
      have u3 : n ≤ 64 := by omega
      have u4 : m0 ≤ 31 := by omega
      have HBig := Lib.hid hbig
      have hmk := run_make_lc (P := Try.prog) eiRows .i64 .i64 m0 m0 (by omega) (by omega) (by omega) w1
      obtain ⟨W4, hW4⟩ : ∃ W4, W4 = w1.alloc (.cells (madeCells #[.slice none 0 0] m0) 59) := ⟨_, rfl⟩
      have x4 : Ext w1 W4 := by rw [hW4]; exact (Ext.refl w1).alloc _
      have hrow : W4.rowIs w1.heap.size 59 m0 (fun _ => .slice none 0 0) := by rw [hW4]; exact World.rowIs_made _ _ _ _
      have HRB := Lib.hid (RBv.start (w := w) (rows := rowB bs) (XW.out.trans (HX.out.trans x4)) (XW.out.trans HX.out).size (by unfold maxLen; omega) hrow); have X4 := Lib.hid (HX.out.trans x4)
      have HW4 := Lib.hid hW4; have hRs := HX.out.size
      have HGa := Lib.hid HG.out
      clear hbig hW4 x4 hrow HG
      go_wp2
      rw [← HW4.out]
      clear hmk
      obtain ⟨R, hR⟩ : ∃ R, R = w1.heap.size := ⟨_, rfl⟩
      rw [← hR] at HRB hRs ⊢
      clear hR
      go_loopw [8, 9, 10, 11, 12, 47] (fun _ _ _ _ _ i wr => ∃ k : Nat, k ≤ m0 ∧ i = .int .i64 k ∧ Hid (Ext W wr) ∧ Hid (RBv w wr R m0 k (rowB bs)) ∧ Hid (∀ j, j < k → (rowB bs j).length ≤ 16)) (fun _ _ _ _ _ i _ => m0 - (intOf i).toNat)
      case atStart => exact ⟨0, Nat.zero_le _, rfl, X4, HRB, Lib.hid (fun j hj => by omega)⟩
      case round =>
        obtain ⟨k, hk, rfl, HX2, HB2, HG2⟩ := hrel
        by_cases hlt : k < m0
        · have v1 : (k : Int) < m0 := by omega
          have hmk := run_make_lc (P := Try.prog) eiRows .i64 .i64 n n (by omega) (by omega) (by omega) wr
          obtain ⟨W5, hW5⟩ : ∃ W5, W5 = wr.alloc (.cells (madeCells #[.slice none 0 0] n) 59) := ⟨_, rfl⟩
          have x5 : Ext wr W5 := by rw [hW5]; exact (Ext.refl wr).alloc _
          have hrow : W5.rowIs wr.heap.size 59 n (fun _ => .slice none 0 0) := by rw [hW5]; exact World.rowIs_made _ _ _ _
          have HPB := Lib.hid (RB.start (w := wr) (rows := fun j => sw (bw bs j) k) x5 (Nat.le_refl _) (by unfold maxLen; omega) hrow)
          have HW5 := Lib.hid hW5
          obtain ⟨wq, hwq⟩ : ∃ wq : World, wq = wr := ⟨_, rfl⟩
          rw [← hwq] at HPB HX2 HB2 HW5 hmk ⊢
          clear hW5 x5 hrow hwq
          go_wp2
          rw [← HW5.out]
          clear hmk
          have HPs := Lib.hid (Nat.le_refl wq.heap.size)
          obtain ⟨P, hP⟩ : ∃ P, P = wq.heap.size := ⟨_, rfl⟩
          rw [← hP] at HPB ⊢
          have HPq := Lib.hid hP
          clear hP
          go_loopw [10, 11, 12, 55] (fun x _ _ i wr => ∃ j q : Nat, j ≤ n ∧ i = .int .i64 j ∧ x = .int .i64 q ∧ Hid (q = (partB bs k j).flatten.length) ∧ q ≤ 1000 * j ∧ Hid (RB wq wr P n j (fun j => sw (bw bs j) k))) (fun _ _ _ i _ => n - (intOf i).toNat)
          case atStart => exact ⟨0, 0, Nat.zero_le _, rfl, rfl, Lib.hid (by simp [partB]), by omega, HPB⟩
          case round =>
            obtain ⟨j, q, hj, rfl, rfl, HQ, hq, HP2⟩ := hrel
            by_cases hlt2 : j < n
            · obtain ⟨b', o', a, m, d, hbo, y1, y2, y3⟩ := HA.out j hlt2
              obtain ⟨rfl, rfl⟩ : b = b' ∧ o = o' := by simpa using hbo
              have xx := XW.out.trans (HX2.out.trans HP2.out.1)
              have hmj := HGa.out j hlt2
              obtain ⟨a', m', e1, e2, e3, e4, e5⟩ := y3.open
              simp only [Value.slice.injEq] at e1
              obtain ⟨rfl, rfl, _⟩ := e1
              have hkm : k < m := by omega
              obtain ⟨b2, o2, aa, mm, dd, rfl, z1, z2⟩ := e5 k hkm
              obtain ⟨_, _, f1, f2, _⟩ := z2.open
              simp only [Value.slice.injEq] at f1
              obtain ⟨rfl, rfl, _⟩ := f1
              have hrl := Hr.out j hlt2 k (by omega)
              rw [← f2] at hrl
              obtain ⟨W6, hW6⟩ : ∃ W6, W6 = wr.alloc (.cells #[.slice (some ⟨b2, o2, none⟩) m d] 24) := ⟨_, rfl⟩
              have x6 : Ext wr W6 := by rw [hW6]; exact (Ext.refl wr).alloc _
              have HP6 := Lib.hid (HP2.out.later x6)
              obtain ⟨ov, hov⟩ := HP6.out.ex hlt2
              have hfz := HP6.out.frozen j
              have HP7 := Lib.hid (HP6.out.put hlt2 ⟨dd, .inl (z2.ext (XW.out.trans HX2.out))⟩)
              have hbox : W6.heap[wr.heap.size]? = some (Obj.cells #[.slice (some ⟨b2, o2, none⟩) m d] 24 (0, 0)) := by rw [hW6]; exact blk_at rfl
              have hPlt : P < wr.heap.size := by
                obtain ⟨_, _, _, f, hf, _⟩ := HP2.out
                exact hf.lt
              have c1 : (W6.setCell ⟨P, j, none⟩ (.slice aa mm dd)).cell? ⟨wr.heap.size, 0, none⟩ = some (.slice (some ⟨b2, o2, none⟩) m d) := by
                rw [World.cell?_of_block (Deep.blk_setCell_other _ _ _ _ (show wr.heap.size ≠ P by omega))]; simp [World.cell?, hbox]
              have c2 : (W6.setCell ⟨P, j, none⟩ (.slice aa mm dd)).cell? ⟨b2, o2 + k, none⟩ = some (.slice aa mm dd) := (XW.out.trans (HX2.out.trans HP7.out.1)).cell z1
              have c3 : W6.cell? ⟨b2, o2 + k, none⟩ = some (.slice aa mm dd) := (xx.trans x6).cell z1
              have hcomm : W6.setCell ⟨P, j, none⟩ (.slice aa mm dd) = (wr.setCell ⟨P, j, none⟩ (.slice aa mm dd)).alloc (.cells #[.slice (some ⟨b2, o2, none⟩) m d] 24) := by rw [hW6]; simp [hPlt, go_sem]
              rw [hcomm] at c1 c2
              have HCm := Lib.hid hcomm
              replace y1 := xx.cell y1
              have C1 := Lib.hid c1; have C2 := Lib.hid c2; have HW6 := Lib.hid hW6
              have HQ2 := Lib.hid (show q + mm = (partB bs k (j + 1)).flatten.length by rw [partB_succ (by have := Hn.out; omega), List.flatten_append, List.length_append, ← HQ.out, f2]; simp)
              have v2 : (j : Int) < n := by omega
              have v3 : (k : Int) < m := by omega
              have v4 : IntKind.i64.wrap ((q : Int) + (mm : Int)) = (q : Int) + (mm : Int) := IntWalk.i64_in _ ⟨by omega, by omega⟩
              rw [hW6] at hov hfz c3
              clear hbo y2 y3 e2 e3 e4 e5 z1 z2 f2 hW6 x6 hbox xx HQ hcomm
              go_wp2
              rw [← HCm.out]
              go_roundw
              case rel => exact ⟨j + 1, q + mm, by omega, by go_num, by go_num, HQ2, by omega, HP7⟩
              case measure => simp [intOf]; omega
            · obtain rfl : n = j := by omega
              have hql : q = (rowB bs k).length := by rw [HQ.out, Hn.out, partB_all]
              have XQ := Lib.hid (HX2.out.trans HP2.out.1)
              by_cases hq16 : 16 < q
              · have v2 : (16 : Int) < q := by omega
                have hR2 := HRes.out _ XQ.out
                have r1 : wr.cell? ⟨w.heap.size, 0, none⟩ = some (.slice none 0 0) := by simp [World.cell?, hR2]
                have r2 : wr.frozen? ⟨w.heap.size, 0, none⟩ = false := by simp [World.frozen?, hR2]
                have r3 : (wr.setCell ⟨w.heap.size, 0, none⟩ (.slice none 0 0)).cell? ⟨w.heap.size, 0, none⟩ = some (.slice none 0 0) := by simp [World.cell?, blk_one hR2 _]
                have HF := Lib.hid (HBad.out wr 3 XQ.out (Hw3.out HGa.out k hlt (by rw [← hql]; exact hq16)) (by decide))
                have R3 := Lib.hid r3
                clear hR2 r3 hql hq16
                go_wp2
                have r3 := R3.out
                exact bodyPost_ret (v := .tuple #[.agg #[.slice none 0 0], .int .i64 3]) (by simp [results, Try.results19, go_sem, r3]) rfl HF.out
              · have v2 : ¬ (16 : Int) < q := by omega
                have hjr := HP2.out.rr
                have hpe : (List.range n).map (fun j => sw (bw bs j) k) = partB bs k n := by
                  apply List.ext_getElem (by rw [partB_len (by have := Hn.out; omega)]; simp)
                  intro i h1 h2
                  have hi : i < n := by simpa using h1
                  rw [List.getElem_map, List.getElem_range]
                  rw [← partB_at (k := n) (by have := Hn.out; omega) hi, sw_of_lt h2]
                rw [hpe] at hjr
                have hfl : (partB bs k n).flatten = rowB bs k := by rw [Hn.out, partB_all]
                have hj2 := joinS_calls _ _ _ wr hjr (by rw [hfl, ← hql]; omega)
                rw [hfl] at hj2
                have HJ := Lib.hid hj2
                have HQ16 := Lib.hid (show ∀ j, j < k + 1 → (rowB bs j).length ≤ 16 from fun j hj => by
                  by_cases e : j = k
                  · rw [e, ← hql]; omega
                  · exact HG2.out j (by omega))
                clear hjr hpe hfl hj2 hql hq16
                go_wp2_with fail
                refine HJ.out.mono ?_
                intro e w7 hh
                obtain ⟨ju, rfl, jv, x7⟩ := hh
                obtain ⟨ja, jn, jc, rfl, hjn⟩ := jv.form
                have HB7 := Lib.hid (HB2.out.later (HP2.out.1.trans x7))
                obtain ⟨ov, hov⟩ := HB7.out.ex hlt
                have hfz := HB7.out.frozen k
                have HB8 := Lib.hid (HB7.out.put hlt jv)
                have X8 := Lib.hid ((XQ.out.trans x7).setCell (p := ⟨R, k, none⟩) hRs (.slice ja jn jc))
                clear jv hjn x7 HJ
                go_wp2
                go_roundw
                case rel => exact ⟨k + 1, by omega, by go_num, X8, HB8, HQ16⟩
                case measure => simp [intOf]; omega
        · obtain rfl : m0 = k := by omega
          have v1 : ¬ (m0 : Int) < m0 := by omega
          have hR2 := HRes.out _ HX2.out
          have r1 : wr.cell? ⟨w.heap.size, 0, none⟩ = some (.slice none 0 0) := by simp [World.cell?, hR2]
          have r2 : wr.frozen? ⟨w.heap.size, 0, none⟩ = false := by simp [World.frozen?, hR2]
          have r3 : (wr.setCell ⟨w.heap.size, 0, none⟩ (.slice (some ⟨R, 0, none⟩) m0 m0)).cell? ⟨w.heap.size, 0, none⟩ = some (.slice (some ⟨R, 0, none⟩) m0 m0) := by simp [World.cell?, blk_one hR2 _]
          have hRw : w.heap.size < R := by have h1 := hRs; have h2 := congrArg (fun w : World => w.heap.size) HW.out; simp at h2; omega
          have hco := (HB2.out.setOther (a := ⟨w.heap.size, 0, none⟩) (u := .slice (some ⟨R, 0, none⟩) m0 m0) hR2 (by decide) (show R ≠ w.heap.size by omega) (Nat.le_refl _)).co
          have hrr := hco.rrc
          obtain ⟨z1, z2⟩ := H00.out HGa.out HBig.out HG2.out
          have hF : RetCO w (besR bs) (besE bs) (.returned (.tuple #[.agg #[.slice (some ⟨R, 0, none⟩) m0 m0], .int .i64 0])) (wr.setCell ⟨w.heap.size, 0, none⟩ (.slice (some ⟨R, 0, none⟩) m0 m0)) := by
            have hbr : (List.range m0).map (rowB bs) = besRows bs := by unfold besRows; rw [Hm0.out]
            have hln : (besRows bs).length = m0 := by rw [besRows_len, ← Hm0.out]
            rw [hbr] at hrr hco
            rw [z1, z2]
            exact ⟨_, rfl, hco, by rw [hln]; exact hrr⟩
          have HF := Lib.hid hF; have R3 := Lib.hid r3
          clear hR2 r3 hrr hco z1 z2 hF
          go_wp2
          have r3 := R3.out
          exact bodyPost_ret (v := .tuple #[.agg #[.slice (some ⟨R, 0, none⟩) m0 m0], .int .i64 0]) (by simp [results, Try.results19, go_sem, r3]) rfl HF.out
theorem Beside_calls (v : Value) (c : Nat) (bs : List (List (List St))) (w : World) (h : BB w v c bs) (hl : bs.length ≤ 1000) (hr : ∀ k, k < bs.length → ∀ i, i < (bw bs k).length → (sw (bw bs k) i).length ≤ 1000) :
    Calls Try.prog 19 #[v] w (RetCE w (besR bs) (besE bs)) := (Beside2_calls v c bs w h hl hr).mono fun _ _ h => h.ce
end Go.Proofs.Ytlmkcojimhbmiaa
