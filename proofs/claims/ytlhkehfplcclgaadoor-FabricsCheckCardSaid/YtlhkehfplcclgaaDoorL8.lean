/- Texts of this claim in one file: libraries and walks. -/
import Derived.Test.YtlhkehfplcclgaaDoorL6
/- copyFabric: the walk. -/
namespace Go.Proofs.YtlhkehfplcclgaaDoor
set_option linter.unusedVariables false
set_option linter.unusedSimpArgs false
set_option maxRecDepth 8000
open Go Go.RowKit

/-- A fabric is returned: it lies in blocks that the call has made. -/
def RetFB (w : World) (f : Fab) (en : Ending) (w' : World) : Prop := ∃ tv cv hv fv, en = .returned (.agg #[tv, cv, hv, fv]) ∧ (∀ w'', Agr w.heap.size w' w'' → FB w'' tv cv hv fv f) ∧ Ext w w'
theorem ekT : EK Tryd.prog 31 47 (.slice none 0 0) 1 24 := ⟨Tryd.underlying31, by kernel_rfl, rfl, by decide⟩
theorem blk_ck {k g n : Nat} {w : World} {e : TypeId} {xs : List (List Value)} (hn : n = xs.length) (hk : Ks k xs) (hb : w.heap[g]? = some (.cells xs.flatten.toArray e (0, 0))) (h9 : n ≤ 1000000) : CK k w (.slice (some ⟨g, 0, none⟩) n n) n xs :=
  CK.of_blk hb hk hn (Nat.le_refl _) (by omega) (by rw [List.take_of_length_le (by simp [hk.len, hn])])
set_option maxHeartbeats 16000000 in
theorem CopyF_calls (tv cv hv fv : Value) (f : Fab) (w : World) (h : FB w tv cv hv fv f) (hin : FIn f) :
    Calls Tryd.prog 52 #[.agg #[tv, cv, hv, fv]] w (RetFB w f) := by
  obtain ⟨ct, hT⟩ := h.t
  obtain ⟨cc, hC⟩ := h.c
  obtain ⟨ch, hH⟩ := h.h
  obtain ⟨cf, hF⟩ := h.f
  have HCx := Lib.hid (fun w' (x : Ext w w') => CopX_calls cv cc (f.cr.map Xg.cs) w' (hC.ext x) (Ks.xg _) (by have := hin.n3; simp; omega))
  have HCh := Lib.hid (fun w' (x : Ext w w') => CopN_calls hv ch (f.held.map Nm.cs) w' (hH.ext x) (Ks.nm _) (by have := hin.n1; simp; omega))
  have HCf := Lib.hid (fun w' (x : Ext w w') => CopN_calls fv cf (f.fallen.map Nm.cs) w' (hF.ext x) (Ks.nm _) (by have := hin.n2; simp; omega))
  obtain ⟨ca, cn, rfl, o2, _, _, _⟩ := hC.open
  obtain ⟨ha, hn, rfl, o3, _, _, _⟩ := hH.open
  obtain ⟨fa, fn, rfl, o4, _, _, _⟩ := hF.open
  obtain ⟨ta, tn, rfl, htn, htc, ht9, htt⟩ := hT.open
  obtain ⟨t, ht⟩ : ∃ t, t = f.ys := ⟨_, rfl⟩
  have hin5 := hin.n5; have hin6 := hin.n6; have tn9 : tn ≤ 100 := by have := hin.n4; omega
  have h31 := hin.n3; have h11 := hin.n1; have h21 := hin.n2
  rw [← ht] at htn htt hin5 hin6
  have HT := Lib.hid (show ∀ y, y < tn → (∃ b o a m d, ta = some ⟨b, o, none⟩ ∧ w.cell? ⟨b, o + y, none⟩ = some (.slice a m d) ∧ m = (yi t y).length ∧ LR w (.slice a m d) d (yi t y)) ∧ (yi t y).length ≤ 1000 ∧ (∀ l ∈ yi t y, l.thr.length ≤ 100 ∧ l.past.length ≤ 1000) from fun y hy => ⟨htt y hy, hin5 _ (yi_mem (by omega)), fun l hl => hin6 _ (yi_mem (by omega)) l hl⟩)
  obtain ⟨W1, hW1⟩ : ∃ W1, W1 = (w.alloc (.cells #[.slice ta tn ct, .slice ca cn cc, .slice ha hn ch, .slice fa fn cf] 35)).alloc (.cells #[.slice none 0 0, .slice none 0 0, .slice none 0 0, .slice none 0 0] 35) := ⟨_, rfl⟩
  have xW1 : Ext w W1 := by rw [hW1]; exact ((Ext.refl _).alloc _).alloc _
  have HB := Lib.hid (show B4 W1 w.heap.size (.slice ta tn ct) (.slice ca cn cc) (.slice ha hn ch) (.slice fa fn cf) 35 by rw [hW1]; exact (B4.new _ _ _ _ _ _).ext ((Ext.refl _).alloc _))
  have HRb := Lib.hid (show B4 W1 (w.heap.size + 1) (.slice none 0 0) (.slice none 0 0) (.slice none 0 0) (.slice none 0 0) 35 by rw [hW1]; have := B4.new (w.alloc (.cells #[.slice ta tn ct, .slice ca cn cc, .slice ha hn ch, .slice fa fn cf] 35)) (.slice none 0 0) (.slice none 0 0) (.slice none 0 0) (.slice none 0 0) 35; simpa using this)
  obtain ⟨g0, hg0⟩ : ∃ g, g = W1.heap.size := ⟨_, rfl⟩
  have hg0' : g0 = w.heap.size + 1 + 1 := by rw [hg0, hW1]; simp
  obtain ⟨W, hW⟩ : ∃ W, W = W1.alloc (.cells (madeCells #[.slice none 0 0] tn) 47) := ⟨_, rfl⟩
  have hmk : ∀ w, (Instr.makeSlice 31 (.int .i64 (tn : Int)) (.int .i64 (tn : Int))).run Tryd.prog w = .ok (.slice (some ⟨w.heap.size, 0, none⟩) tn tn) (w.alloc (.cells (madeCells #[.slice none 0 0] tn) 47)) := fun w => (by have := make_k ekT (by decide) tn (by omega) .i64 .i64 w; rw [Nat.mul_one] at this; exact this)
  have H0 := Lib.hid (show Ext W1 W ∧ CS (g0 + 1) g0 tn W (fun _ => .slice none 0 0) t 0 from ⟨by rw [hW]; exact (Ext.refl _).alloc _, by rw [hW, hg0]; exact World.rowIs_made W1 _ tn _, fun i hi => by omega⟩)
  have XW1 := Lib.hid xW1; have Ht := Lib.hid ht; have Htn := Lib.hid htn
  have HO := Lib.hid (And.intro o2 (And.intro o3 o4))
  have HW := Lib.hid (show W = ((w.alloc (.cells #[.slice ta tn ct, .slice ca cn cc, .slice ha hn ch, .slice fa fn cf] 35)).alloc (.cells #[.slice none 0 0, .slice none 0 0, .slice none 0 0, .slice none 0 0] 35)).alloc (.cells (madeCells #[.slice none 0 0] tn) 47) by rw [hW, hW1])
  have Hg0 := Lib.hid hg0'
  have HgW1 := Lib.hid hg0
  clear h hT hC hH hF hin htt htn hW1 xW1 hg0 hg0' hW ht hin5 hin6 o2 o3 o4
  go_enter Tryd.func52, Tryd.ntmps52
  go_wp2
  rw [← HW.out, ← Hg0.out]
  go_loopg [4, 5, 6, 7, 15] tn (fun gk _ _ _ _ i wr => ∃ (y : Nat) (F : Nat → Value), y + gk = tn ∧ i = .int .i64 y ∧ Hid (Ext W1 wr ∧ CS (g0 + 1) g0 tn wr F t y))
  case atStart => exact ⟨0, _, by omega, rfl, H0⟩
  case round =>
    obtain ⟨y, F, hyg, rfl, G⟩ := hrel
    by_cases hyt : y < tn
    · obtain ⟨⟨b1, o1, ra, rm, rd, rfl, hc, hrm, hLR⟩, hr9, hrr⟩ := HT.out y hyt
      have f1 : (y : Int) < tn := by omega
      have f2 : (0 : Int) ≤ y := by omega
      have cr := G.out.1.cell (XW1.out.cell hc)
      obtain ⟨us, vs, hck, hks, huv⟩ := hLR.kk
      have HCL := Lib.hid (fun w' (x : Ext w w') => CopL_calls _ rd (cL (yi t y) us vs) w' (hck.ext x) hks (by rw [cL_len]; omega))
      have HKs := Lib.hid hks; have Hrm := Lib.hid hrm; have Hr9 := Lib.hid hr9
      have rm9 : rm ≤ 1000 := by omega
      have HLo := Lib.hid (show ∀ i, i < rm → ∃ b o a1 n1 d1 a2 n2 d2, ra = some ⟨b, o, none⟩ ∧ AtL w b (o + i * 4) (li (yi t y) i) (.slice a1 n1 d1) (.slice a2 n2 d2) ∧ NL w (.slice a1 n1 d1) d1 (li (yi t y) i).thr ∧ PL w (.slice a2 n2 d2) d2 (li (yi t y) i).past ∧ (li (yi t y) i).thr.length ≤ 100 ∧ (li (yi t y) i).past.length ≤ 1000 from fun i hi => by
        obtain ⟨a', n', e, hn', _, _, hat⟩ := hLR.open
        have e2 : ra = a' ∧ rm = n' := by simpa using e
        obtain ⟨b, o, a1, n1, d1, a2, n2, d2, h1, h2, _, _, h3, h4⟩ := hat i (by omega)
        have h5 := hrr _ (li_mem (l := yi t y) (i := i) (by omega))
        exact ⟨b, o, a1, n1, d1, a2, n2, d2, by rw [e2.1]; exact h1, h2, h3, h4, h5.1, h5.2⟩)
      clear hc hrm hLR hr9 hrr hck hks huv
      go_wp2_with fail
      clear cr
      refine (HCL.out wr (XW1.out.trans G.out.1)).mono ?_
      rintro e w2 ⟨gy, m, hm, rfl, hgy, hbk, x⟩
      obtain rfl : m = rm := by rw [hm, cL_len, ← Hrm.out]
      have hgy0 : g0 < gy := by have h1 := G.out.1.size; have h2 := G.out.2.tab.lt; omega
      have hcs := G.out.2.ext x
      have hgl : ∀ i, i < y → (F i).ownBlock ≠ some gy := fun i hi e => by
        obtain ⟨us, vs, h1⟩ := G.out.2.rows i hi
        have := (h1.row.lt gy e).2
        omega
      have hci := CI.start hcs (show g0 + 1 ≤ gy by omega) (Nat.lt_succ_self g0) HKs.out hgl hbk
      rw [← Hrm.out] at hci
      have p1 := hcs.tab.cell hyt
      have p2 := hcs.tab.frozen y
      have hb1 : W1.heap.size ≤ g0 := by rw [← HgW1.out]; exact Nat.le_refl _
      have HI := Lib.hid (show Ext W1 (w2.setCell ⟨g0, y, none⟩ (.slice (some ⟨gy, 0, none⟩) m m)) ∧ CI (g0 + 1) g0 gy tn (w2.setCell ⟨g0, y, none⟩ (.slice (some ⟨gy, 0, none⟩) m m)) (upV F y (.slice (some ⟨gy, 0, none⟩) m m)) t y us vs 0 from ⟨Ext.setCell (G.out.1.trans x) hb1 _, hci⟩)
      clear hm hgy hbk x hcs hgl hci hb1
      go_wp2
      obtain ⟨wo, hwo⟩ : ∃ wo, wo = wr := ⟨_, rfl⟩
      subst hwo
      clear p1 p2
      go_loopg [6, 7, 27] m (fun gk _ _ i wq => ∃ (n : Nat) (us vs : Nat → Value), n + gk = m ∧ i = .int .i64 n ∧ Hid (Ext W1 wq ∧ CI (g0 + 1) g0 gy tn wq (upV F y (.slice (some ⟨gy, 0, none⟩) m m)) t y us vs n))
      case atStart => exact ⟨0, us, vs, by omega, rfl, HI⟩
      case round =>
        obtain ⟨n, us, vs, hng, rfl, G2⟩ := hrel
        by_cases hnt : n < m
        · obtain ⟨b2, o2, a1, n1, d1, a2, n2, d2, rfl, hAL, hNL, hPL, hl1, hl2⟩ := HLo.out n hnt
          have i1 : (n : Int) < m := by omega
          have i2 : (0 : Int) ≤ n := by omega
          obtain ⟨x0, x1, x2, x3⟩ := hAL.ext (XW1.out.trans G2.out.1)
          obtain ⟨l, hl⟩ : ∃ l, l = li (yi t y) n := ⟨_, rfl⟩
          rw [← hl] at x0 x1 hNL hPL hl1 hl2
          obtain ⟨W2, hW2⟩ : ∃ W2, W2 = wr.alloc (.cells #[.int .u8 l.bed, .bool l.new, .slice a1 n1 d1, .slice a2 n2 d2] 46) := ⟨_, rfl⟩
          obtain ⟨nb, hnb⟩ : ∃ nb, nb = wr.heap.size := ⟨_, rfl⟩
          have y2 : Ext wr W2 := by rw [hW2]; exact (Ext.refl _).alloc _
          have N2 := Lib.hid (show B4 W2 nb (.int .u8 l.bed) (.bool l.new) (.slice a1 n1 d1) (.slice a2 n2 d2) 46 by rw [hW2, hnb]; exact B4.new _ _ _ _ _ _)
          have S2 := Lib.hid (show Ext W1 W2 ∧ CI (g0 + 1) g0 gy tn W2 (upV F y (.slice (some ⟨gy, 0, none⟩) m m)) t y us vs n from ⟨G2.out.1.trans y2, G2.out.2.ext y2⟩)
          have hgnb : gy ≠ nb := by have := G2.out.2.row.lt; omega
          have HCN := Lib.hid (fun w' (x : Ext w w') => CopN_calls _ d1 (l.thr.map Nm.cs) w' (hNL.ext x) (Ks.nm _) (by simp; omega))
          have HCP := Lib.hid (fun w' (x : Ext w w') => CopP_calls _ d2 (l.past.map Ps.cs) w' (hPL.ext x) (Ks.ps _) (by simp; omega))
          have HW2 := Lib.hid hW2; have Hnb := Lib.hid hnb; have Hl := Lib.hid hl; have HNe := Lib.hid hgnb; have H12 := Lib.hid (And.intro hl1 hl2)
          clear hAL hNL hPL hl hW2 hnb y2 hgnb hl1 hl2
          go_wp2
          rw [← HW2.out, ← Hnb.out]
          clear x0 x1 x2 x3
          have hg0y : g0 ≠ gy := by omega
          have hnby : nb ≠ gy := fun e => HNe.out e.symm
          have hnb0 : nb ≠ g0 := by have := G2.out.2.c.tab.lt; have := Hnb.out; omega
          have HD := Lib.hid (And.intro hg0y (And.intro hnby hnb0))
          have HNm := Lib.hid (show n < (yi t y).length by rw [← Hrm.out]; exact hnt)
          clear hg0y hnby hnb0
          have q0_1 : W2.cell? ⟨g0, y, none⟩ = some (.slice (some ⟨gy, 0, none⟩) m m) := by have := S2.out.2.c.tab.cell hyt; rw [S2.out.2.fy, ← Hrm.out] at this; exact this
          have q0_2 := N2.out.c2
          go_region_held3 (fun w' => w'.cell? ⟨g0, y, Option.none⟩ = some (.slice (some ⟨gy, 0, none⟩) m m) ∧ w'.cell? ⟨nb, 2, Option.none⟩ = some (.slice a1 n1 d1)) (first | (with_reducible exact ⟨q0_1, q0_2⟩) | (with_reducible exact ⟨q1_1, q1_2⟩) | (exact ⟨cell_set q1_1 HD.out.1 _, cell_set q1_2 HD.out.2.1 _⟩) | go_keep) (first
            | (go_at_call 55; (refine (HCN.out _ ?_).mono ?_); (focus (refine Ext.trans (XW1.out.trans S2.out.1) ?_; (focus (repeat (first | (with_reducible exact Ext.refl _) | (with_reducible apply Ext.drew) | (with_reducible apply Ext.drewN) | (with_reducible apply Ext.alloc)))))); intro e w5 hh; obtain ⟨g5, m5, hm5, rfl, hg5, hb5, x⟩ := hh; have Xa : Hid (Ext W2 w5) := Lib.hid (Ext.trans (by ((repeat (first | (with_reducible exact Ext.refl _) | (with_reducible apply Ext.drew) | (with_reducible apply Ext.drewN) | (with_reducible apply Ext.alloc))); done)) x); have q1_1 := Xa.out.cell q0_1; have q1_2 := Xa.out.cell q0_2; have HM5 := Lib.hid (And.intro hm5 (And.intro hg5 hb5)); clear hm5 hg5 hb5; have p1 := (S2.out.2.ext Xa.out).row.cell (i := n * 4 + 2) (by have := HNm.out; omega); have p2 := (S2.out.2.ext Xa.out).row.frozen (n * 4 + 2); clear x))
          clear q0_1 q0_2 q1_1 q1_2 p1 p2
          obtain ⟨W3, hW3⟩ : ∃ W3, W3 = w5.setCell ⟨gy, n * 4 + 2, none⟩ (.slice (some ⟨g5, 0, none⟩) m5 m5) := ⟨_, rfl⟩
          have hsz := S2.out.2.c.tab.lt
          have hw2 := Xa.out.size
          have own5 : w5.ownsRow (g0 + 1) 41 2 (.slice (some ⟨g5, 0, none⟩) m5 m5) m5 (l.thr.map Nm.cs).flatten := own_of_copy HM5.out.1 (Ks.nm _) (by have h1 : W2.heap.size ≤ g5 := HM5.out.2.1; omega) HM5.out.2.2 (by rw [HM5.out.1, List.length_map]; have := H12.out.1; omega)
          have hm5 : m5 = l.thr.length := by rw [HM5.out.1, List.length_map]
          have C3 : CI (g0 + 1) g0 gy tn W3 (upV F y (.slice (some ⟨gy, 0, none⟩) m m)) t y (upV us n (.slice (some ⟨g5, 0, none⟩) m5 m5)) vs n := by
            rw [hW3]
            exact (S2.out.2.ext Xa.out).set (n * 4 + 2) _ (fun i hi => LF_2 _ hi) (fun i hi => by unfold upV; rw [if_neg (by omega)]) (fun _ _ => rfl)
          obtain ⟨cg, hcg, _⟩ := (S2.out.2.ext Xa.out).row
          have own3 : W3.ownsRow (g0 + 1) 41 2 (.slice (some ⟨g5, 0, none⟩) m5 m5) l.thr.length (l.thr.map Nm.cs).flatten := by
            rw [hW3, ← hm5]
            exact own_set own5 (own_ne_ty own5 hcg (by decide)) _
          have y3 : Ext W1 W3 := by rw [hW3]; exact Ext.setCell (S2.out.1.trans Xa.out) (by have h1 := HgW1.out; have h2 := HD.out.1; have h3 := S2.out.2.b; dsimp only; omega) _
          have N3 : B4 W3 nb (.int .u8 l.bed) (.bool l.new) (.slice a1 n1 d1) (.slice a2 n2 d2) 46 := by rw [hW3]; exact (N2.out.ext Xa.out).set HD.out.2.1 _
          have S3 := Lib.hid (And.intro y3 (And.intro C3 (And.intro own3 N3)))
          have HW3 := Lib.hid hW3
          clear hW3 hsz hw2 own5 hm5 C3 hcg own3 y3 N3
          go_wp2
          rw [← HW3.out]
          have q0_1 : W3.cell? ⟨g0, y, none⟩ = some (.slice (some ⟨gy, 0, none⟩) m m) := by have := S3.out.2.1.c.tab.cell hyt; rw [S3.out.2.1.fy, ← Hrm.out] at this; exact this
          have q0_2 := S3.out.2.2.2.c3
          go_region_held3 (fun w' => w'.cell? ⟨g0, y, Option.none⟩ = some (.slice (some ⟨gy, 0, none⟩) m m) ∧ w'.cell? ⟨nb, 3, Option.none⟩ = some (.slice a2 n2 d2)) (first | (with_reducible exact ⟨q0_1, q0_2⟩) | (with_reducible exact ⟨q1_1, q1_2⟩) | (exact ⟨cell_set q1_1 HD.out.1 _, cell_set q1_2 HD.out.2.1 _⟩) | go_keep) (first
            | (go_at_call 66; (refine (HCP.out _ ?_).mono ?_); (focus (refine Ext.trans (XW1.out.trans S3.out.1) ?_; (focus (repeat (first | (with_reducible exact Ext.refl _) | (with_reducible apply Ext.drew) | (with_reducible apply Ext.drewN) | (with_reducible apply Ext.alloc)))))); intro e w6 hh; obtain ⟨g6, m6, hm6, rfl, hg6, hb6, x⟩ := hh; have Xb : Hid (Ext W3 w6) := Lib.hid (Ext.trans (by ((repeat (first | (with_reducible exact Ext.refl _) | (with_reducible apply Ext.drew) | (with_reducible apply Ext.drewN) | (with_reducible apply Ext.alloc))); done)) x); have q1_1 := Xb.out.cell q0_1; have q1_2 := Xb.out.cell q0_2; have HM6 := Lib.hid (And.intro hm6 (And.intro hg6 hb6)); clear hm6 hg6 hb6; have p1 := (S3.out.2.1.ext Xb.out).row.cell (i := n * 4 + 3) (by have := HNm.out; omega); have p2 := (S3.out.2.1.ext Xb.out).row.frozen (n * 4 + 3); clear x))
          clear q0_1 q0_2 q1_1 q1_2 p1 p2
          obtain ⟨W4, hW4⟩ : ∃ W4, W4 = w6.setCell ⟨gy, n * 4 + 3, none⟩ (.slice (some ⟨g6, 0, none⟩) m6 m6) := ⟨_, rfl⟩
          have hsz := S3.out.2.1.c.tab.lt
          have own6 : w6.ownsRow (g0 + 1) 50 4 (.slice (some ⟨g6, 0, none⟩) m6 m6) m6 (l.past.map Ps.cs).flatten := own_of_copy HM6.out.1 (Ks.ps _) (by have h1 : W3.heap.size ≤ g6 := HM6.out.2.1; omega) HM6.out.2.2 (by rw [HM6.out.1, List.length_map]; have := H12.out.2; omega)
          have hm6 : m6 = l.past.length := by rw [HM6.out.1, List.length_map]
          obtain ⟨cg, hcg, _⟩ := (S3.out.2.1.ext Xb.out).row
          have C4 : CI (g0 + 1) g0 gy tn W4 (upV F y (.slice (some ⟨gy, 0, none⟩) m m)) t y (upV us n (.slice (some ⟨g5, 0, none⟩) m5 m5)) (upV vs n (.slice (some ⟨g6, 0, none⟩) m6 m6)) (n + 1) := by
            have C := (S3.out.2.1.ext Xb.out).set (n * 4 + 3) (.slice (some ⟨g6, 0, none⟩) m6 m6) (fun i hi => LF_3 _ hi) (fun _ _ => rfl) (fun i hi => by unfold upV; rw [if_neg (by omega)])
            rw [← hW4] at C
            have o3 := own_extk S3.out.2.2.1 Xb.out
            have o3' : W4.ownsRow (g0 + 1) 41 2 (.slice (some ⟨g5, 0, none⟩) m5 m5) l.thr.length (l.thr.map Nm.cs).flatten := by rw [hW4]; exact own_set o3 (own_ne_ty o3 hcg (by decide)) _
            have o6' : W4.ownsRow (g0 + 1) 50 4 (.slice (some ⟨g6, 0, none⟩) m6 m6) l.past.length (l.past.map Ps.cs).flatten := by rw [hW4, ← hm6]; exact own_set own6 (own_ne_ty own6 hcg (by decide)) _
            refine ⟨C.c, C.fy, C.b, C.b0, C.row, C.ne, fun i h1 h2 => ?_, fun i h1 h2 => ?_⟩
            · rcases Nat.lt_or_ge i n with h3 | h3
              · exact C.u i h3 h2
              · obtain rfl : i = n := by omega
                rw [← Hl.out]; unfold upV; rw [if_pos rfl]; exact o3'
            · rcases Nat.lt_or_ge i n with h3 | h3
              · exact C.v i h3 h2
              · obtain rfl : i = n := by omega
                rw [← Hl.out]; unfold upV; rw [if_pos rfl]; exact o6'
          have y4 : Ext W1 W4 := by rw [hW4]; exact Ext.setCell (S3.out.1.trans Xb.out) (by have h1 := HgW1.out; have h3 := S3.out.2.1.b; dsimp only; omega) _
          have HN := Lib.hid (And.intro y4 C4)
          have HW4 := Lib.hid hW4
          clear hW4 hsz own6 hm6 hcg C4 y4
          go_wp2
          rw [← HW4.out]
          go_roundg (m - (n + 1))
          case measure => omega
          case rel => exact ⟨n + 1, _, _, by omega, by go_num, HN⟩
        · obtain rfl : n = m := by omega
          have i1 : ¬ (n : Int) < n := by omega
          have HN := Lib.hid (show Ext W1 wr ∧ CS (g0 + 1) g0 tn wr (upV F y (.slice (some ⟨gy, 0, none⟩) n n)) t (y + 1) from ⟨G2.out.1, (by have := G2.out.2; rw [Hrm.out] at this ⊢; exact CI.done this (by have := Hr9.out; omega))⟩)
          go_wp2
          go_roundg (tn - (y + 1))
          case measure => omega
          case rel => exact ⟨y + 1, _, by omega, by go_num, HN⟩
    · obtain rfl : y = tn := by omega
      have f1 : ¬ (y : Int) < y := by omega
      have z := HB.out.ext G.out.1
      have q0_1 := z.c1; have q0_2 := z.c2; have q0_3 := z.c3
      have zr := HRb.out.ext G.out.1
      have HZr := Lib.hid zr
      clear z zr
      have hdn : w.heap.size ≠ w.heap.size + 1 := by omega
      go_wp2
      go_region_held3 (fun w' => w'.cell? ⟨w.heap.size, 1, Option.none⟩ = some (.slice ca cn cc) ∧ w'.cell? ⟨w.heap.size, 2, Option.none⟩ = some (.slice ha hn ch) ∧ w'.cell? ⟨w.heap.size, 3, Option.none⟩ = some (.slice fa fn cf)) (first | (with_reducible exact ⟨q0_1, q0_2, q0_3⟩) | (with_reducible exact ⟨q1_1, q1_2, q1_3⟩) | (with_reducible exact ⟨q2_1, q2_2, q2_3⟩) | (with_reducible exact ⟨q3_1, q3_2, q3_3⟩) | (exact ⟨cell_set (cell_set (cell_set (cell_set q3_1 (show w.heap.size ≠ w.heap.size + 1 by omega) _) (show w.heap.size ≠ w.heap.size + 1 by omega) _) (show w.heap.size ≠ w.heap.size + 1 by omega) _) (show w.heap.size ≠ w.heap.size + 1 by omega) _, cell_set (cell_set (cell_set (cell_set q3_2 (show w.heap.size ≠ w.heap.size + 1 by omega) _) (show w.heap.size ≠ w.heap.size + 1 by omega) _) (show w.heap.size ≠ w.heap.size + 1 by omega) _) (show w.heap.size ≠ w.heap.size + 1 by omega) _, cell_set (cell_set (cell_set (cell_set q3_3 (show w.heap.size ≠ w.heap.size + 1 by omega) _) (show w.heap.size ≠ w.heap.size + 1 by omega) _) (show w.heap.size ≠ w.heap.size + 1 by omega) _) (show w.heap.size ≠ w.heap.size + 1 by omega) _⟩) | go_keep) (first
        | (go_at_call 53; (refine (HCx.out _ ?_).mono ?_); (focus (refine Ext.trans (XW1.out.trans G.out.1) ?_; (focus (repeat (first | (with_reducible exact Ext.refl _) | (with_reducible apply Ext.drew) | (with_reducible apply Ext.drewN) | (with_reducible apply Ext.alloc)))))); intro e w7 hh; obtain ⟨g7, m7, hm7, rfl, hg7, hb7, x⟩ := hh; have Xa : Hid (Ext wr w7) := Lib.hid (Ext.trans (by ((repeat (first | (with_reducible exact Ext.refl _) | (with_reducible apply Ext.drew) | (with_reducible apply Ext.drewN) | (with_reducible apply Ext.alloc))); done)) x); have q1_1 := Xa.out.cell q0_1; have q1_2 := Xa.out.cell q0_2; have q1_3 := Xa.out.cell q0_3; have HM7 := Lib.hid (And.intro hm7 (And.intro hg7 hb7)); clear hm7 hg7 hb7; clear x)
        | (go_at_call_of 55 (Value.slice ha hn ch); (refine (HCh.out _ ?_).mono ?_); (focus (refine Ext.trans (XW1.out.trans (G.out.1.trans Xa.out)) ?_; (focus (repeat (first | (with_reducible exact Ext.refl _) | (with_reducible apply Ext.drew) | (with_reducible apply Ext.drewN) | (with_reducible apply Ext.alloc)))))); intro e w8 hh; obtain ⟨g8, m8, hm8, rfl, hg8, hb8, x⟩ := hh; have Xb : Hid (Ext wr w8) := Lib.hid (Ext.trans Xa.out (Ext.trans (by ((repeat (first | (with_reducible exact Ext.refl _) | (with_reducible apply Ext.drew) | (with_reducible apply Ext.drewN) | (with_reducible apply Ext.alloc))); done)) x)); have q2_1 := Xb.out.cell q0_1; have q2_2 := Xb.out.cell q0_2; have q2_3 := Xb.out.cell q0_3; have HM8 := Lib.hid (And.intro hm8 (And.intro hg8 hb8)); clear hm8 hg8 hb8; have X78 : Hid (Ext w7 w8) := Lib.hid (Ext.trans (by (focus (repeat (first | (with_reducible exact Ext.refl _) | (with_reducible apply Ext.drew) | (with_reducible apply Ext.drewN) | (with_reducible apply Ext.alloc))))) x); clear x)
        | (go_at_call_of 55 (Value.slice fa fn cf); (refine (HCf.out _ ?_).mono ?_); (focus (refine Ext.trans (XW1.out.trans (G.out.1.trans Xb.out)) ?_; (focus (repeat (first | (with_reducible exact Ext.refl _) | (with_reducible apply Ext.drew) | (with_reducible apply Ext.drewN) | (with_reducible apply Ext.alloc)))))); intro e w9 hh; obtain ⟨g9, m9, hm9, rfl, hg9, hb9, x⟩ := hh; have Xc : Hid (Ext wr w9) := Lib.hid (Ext.trans Xb.out (Ext.trans (by ((repeat (first | (with_reducible exact Ext.refl _) | (with_reducible apply Ext.drew) | (with_reducible apply Ext.drewN) | (with_reducible apply Ext.alloc))); done)) x)); have q3_1 := Xc.out.cell q0_1; have q3_2 := Xc.out.cell q0_2; have q3_3 := Xc.out.cell q0_3; have HM9 := Lib.hid (And.intro hm9 (And.intro hg9 hb9)); clear hm9 hg9 hb9; have X89 : Hid (Ext w8 w9) := Lib.hid (Ext.trans (by (focus (repeat (first | (with_reducible exact Ext.refl _) | (with_reducible apply Ext.drew) | (with_reducible apply Ext.drewN) | (with_reducible apply Ext.alloc))))) x); have zr := HZr.out.ext Xc.out; have p0 := zr.c0; have p1 := zr.c1; have p2 := zr.c2; have p3 := zr.c3; have pf := zr.fr; have pl := zr.lt; clear x))
      obtain ⟨WF, hWF⟩ : ∃ WF, WF = (((w9.setCell ⟨w.heap.size + 1, 0, none⟩ (.slice (some ⟨g0, 0, none⟩) y y)).setCell ⟨w.heap.size + 1, 1, none⟩ (.slice (some ⟨g7, 0, none⟩) m7 m7)).setCell ⟨w.heap.size + 1, 2, none⟩ (.slice (some ⟨g8, 0, none⟩) m8 m8)).setCell ⟨w.heap.size + 1, 3, none⟩ (.slice (some ⟨g9, 0, none⟩) m9 m9) := ⟨_, rfl⟩
      have hr0 : w.heap.size + 1 < g0 := by have := Hg0.out; omega
      have s1 := G.out.1.size
      have s2 : wr.heap.size ≤ g7 := HM7.out.2.1
      have s3 : w7.heap.size ≤ g8 := HM8.out.2.1
      have s4 : w8.heap.size ≤ g9 := HM9.out.2.1
      have s5 := Xa.out.size
      have s6 := Xb.out.size
      have s7 := HgW1.out
      have hcs : CS (g0 + 1) g0 y WF F t y := by rw [hWF]; exact (G.out.2.ext Xc.out).put4 hr0 (Nat.lt_succ_self _) _ _ _ _
      have e7 : WF.heap[g7]? = some (.cells (f.cr.map Xg.cs).flatten.toArray 52 (0, 0)) := by rw [hWF]; exact blk_put4 (X89.out.block (X78.out.block HM7.out.2.2)) (by omega) _ _ _ _
      have e8 : WF.heap[g8]? = some (.cells (f.held.map Nm.cs).flatten.toArray 41 (0, 0)) := by rw [hWF]; exact blk_put4 (X89.out.block HM8.out.2.2) (by omega) _ _ _ _
      have e9 : WF.heap[g9]? = some (.cells (f.fallen.map Nm.cs).flatten.toArray 41 (0, 0)) := by rw [hWF]; exact blk_put4 HM9.out.2.2 (by omega) _ _ _ _
      have n7 := HM7.out.1; have n8 := HM8.out.1; have n9 := HM9.out.1
      rw [List.length_map] at n7 n8 n9
      have hXF : Ext w WF := by rw [hWF]; exact (XW1.out.trans (G.out.1.trans Xc.out)).set4 (by omega) _ _ _ _
      have bF : B4 WF (w.heap.size + 1) (.slice (some ⟨g0, 0, none⟩) y y) (.slice (some ⟨g7, 0, none⟩) m7 m7) (.slice (some ⟨g8, 0, none⟩) m8 m8) (.slice (some ⟨g9, 0, none⟩) m9 m9) 35 := by rw [hWF]; exact (HZr.out.ext Xc.out).put4 _ _ _ _
      have HE := Lib.hid (show (∀ w'', Agr w.heap.size WF w'' → FB w'' (.slice (some ⟨g0, 0, none⟩) y y) (.slice (some ⟨g7, 0, none⟩) m7 m7) (.slice (some ⟨g8, 0, none⟩) m8 m8) (.slice (some ⟨g9, 0, none⟩) m9 m9) f) ∧ Ext w WF from ⟨fun w'' u => ⟨⟨y, by rw [← Ht.out]; exact (hcs.agr (by omega) (by omega) u).tb Htn.out (by omega)⟩, ⟨m7, blk_ck (by rw [List.length_map]; exact n7) (Ks.xg _) (u.blk (by omega) e7) (by omega)⟩, ⟨m8, blk_ck (by rw [List.length_map]; exact n8) (Ks.nm _) (u.blk (by omega) e8) (by omega)⟩, ⟨m9, blk_ck (by rw [List.length_map]; exact n9) (Ks.nm _) (u.blk (by omega) e9) (by omega)⟩⟩, hXF⟩)
      have c0 := bF.c0; have c1 := bF.c1; have c2 := bF.c2; have c3 := bF.c3
      clear hcs e7 e8 e9 hXF bF
      rw [← hWF]
      clear hWF
      clear n7 n8 n9 s1 s2 s3 s4 s5 s6 s7
      go_wp2
      exact bodyPost_ret (v := .agg #[.slice (some ⟨g0, 0, none⟩) y y, .slice (some ⟨g7, 0, none⟩) m7 m7, .slice (some ⟨g8, 0, none⟩) m8 m8, .slice (some ⟨g9, 0, none⟩) m9 m9]) (by simp [results, Tryd.results52, go_sem, c0, c1, c2, c3]) rfl ⟨_, _, _, _, rfl, HE.out.1, HE.out.2⟩
end Go.Proofs.YtlhkehfplcclgaaDoor
/- Cross: what it computes. No program in sight. -/
namespace Go.Proofs.YtlhkehfplcclgaaDoor
set_option linter.unusedVariables false
set_option linter.unusedSimpArgs false
open Go Go.RowKit

/-- The sum of two loops grows by s. -/
def addX : List Xg → Nm → Nm → Int → List Xg
  | [], a, b, s => [⟨a, b, s⟩]
  | c :: l, a, b, s => if cmpX c ⟨a, b, 0⟩ = 0 then (if c.n + s = 0 then l else ⟨a, b, c.n + s⟩ :: l) else if 0 < cmpX c ⟨a, b, 0⟩ then ⟨a, b, s⟩ :: c :: l else c :: addX l a b s
/-- The sum of two loops. -/
def lnk : List Xg → Nm → Nm → Int
  | [], _, _ => 0
  | c :: l, a, b => if cmpX c ⟨a, b, 0⟩ = 0 then c.n else lnk l a b
theorem xi_succ (c : Xg) (l : List Xg) (i : Nat) : xi (c :: l) (i + 1) = xi l i := rfl
theorem xi_zero (c : Xg) (l : List Xg) : xi (c :: l) 0 = c := rfl
theorem At.tail {c : Xg} {l : List Xg} {x : Xg} {i : Nat} (h : At (c :: l) x (i + 1)) : At l x i :=
  ⟨by have := h.le; simp at this; omega, fun j hj => by have := h.lo (j + 1) (by omega); rwa [xi_succ] at this, fun j h1 h2 => by have := h.hi (j + 1) (by omega) (by simp; omega); rwa [xi_succ] at this⟩
theorem hitB_succ {c : Xg} {l : List Xg} {x : Xg} {i : Nat} : hitB (c :: l) x (i + 1) = hitB l x i := by unfold hitB; rw [xi_succ]; simp
theorem ltX_le_lt {a b c : Xg} (h : ltX a b) (k : 0 ≤ cmpX a c) : 0 < cmpX b c := by
  by_cases e : cmpX a c = 0
  · have h1 := cmpX_eq.1 e
    rcases Int.lt_or_le (cmpX b c) 0 with h2 | h2
    · have := ltX_trans h (cmpX_lt.1 h2)
      exact absurd e (by have := cmpX_lt.2 this; omega)
    · rcases Int.lt_or_eq_of_le h2 with h3 | h3
      · exact h3
      · have h4 := cmpX_eq.1 h3.symm
        have : ltX a a := by
          unfold ltX at h ⊢
          rw [h4.1, h4.2, ← h1.1, ← h1.2] at h; exact h
        unfold ltX at this
        rcases this with t | ⟨_, t⟩ <;> exact absurd t ltN_irr
  · rcases Int.lt_or_le (cmpX b c) 0 with h2 | h2
    · have := cmpX_lt.2 (ltX_trans h (cmpX_lt.1 h2)); omega
    · rcases Int.lt_or_eq_of_le h2 with h3 | h3
      · exact h3
      · have h4 := cmpX_eq.1 h3.symm
        have : ltX a c := by unfold ltX at h ⊢; rw [h4.1, h4.2] at h; exact h
        have := cmpX_lt.2 this; omega
theorem lnk_hit {x : Xg} : ∀ {cr : List Xg} {i : Nat}, At cr x i → hitB cr x i = true → lnk cr x.a x.b = (xi cr i).n
  | [], i, h, hb => by unfold hitB at hb; simp at hb
  | c :: l, 0, h, hb => by
    unfold hitB at hb
    rw [xi_zero] at hb ⊢
    simp only [Bool.and_eq_true, decide_eq_true_eq] at hb
    unfold lnk; rw [if_pos (show cmpX c ⟨x.a, x.b, 0⟩ = 0 from hb.2)]
  | c :: l, i + 1, h, hb => by
    have h0 := h.lo 0 (by omega)
    rw [xi_zero] at h0
    rw [hitB_succ] at hb
    rw [xi_succ]
    unfold lnk; rw [if_neg (show ¬ cmpX c ⟨x.a, x.b, 0⟩ = 0 from fun e => by have h1 : cmpX c ⟨x.a, x.b, 0⟩ = cmpX c x := rfl; omega)]
    exact lnk_hit h.tail hb
theorem lnk_none {x : Xg} : ∀ {cr : List Xg}, (∀ j, j < cr.length → cmpX (xi cr j) x ≠ 0) → lnk cr x.a x.b = 0
  | [], _ => rfl
  | c :: l, h => by
    have h0 := h 0 (by simp)
    rw [xi_zero] at h0
    unfold lnk; rw [if_neg (show ¬ cmpX c ⟨x.a, x.b, 0⟩ = 0 from h0)]
    exact lnk_none fun j hj => by have := h (j + 1) (by simp; omega); rwa [xi_succ] at this
theorem At.miss {cr : List Xg} {x : Xg} {i : Nat} (hs : SrtX cr) (h : At cr x i) (hb : hitB cr x i = false) : ∀ j, j < cr.length → cmpX (xi cr j) x ≠ 0 := fun j hj => by
  rcases Nat.lt_or_ge j i with h1 | h1
  · have := h.lo j h1; omega
  · rcases Nat.lt_or_ge i j with h2 | h2
    · have := ltX_le_lt (hs i j h2 hj) (h.hi i (Nat.le_refl _) (by omega)); omega
    · obtain rfl : j = i := by omega
      intro e
      unfold hitB at hb
      rw [decide_eq_true hj, decide_eq_true e] at hb; cases hb
/-- The new list: the place, and what lies around it. -/
theorem addX_hit {x : Xg} {s n : Int} : ∀ {cr : List Xg} {i : Nat}, At cr x i → hitB cr x i = true → n = s + (xi cr i).n → cr.take i ++ (if n = 0 then [] else [⟨x.a, x.b, n⟩]) ++ cr.drop (i + 1) = addX cr x.a x.b s
  | [], i, h, hb, _ => by unfold hitB at hb; simp at hb
  | c :: l, 0, h, hb, hn => by
    unfold hitB at hb
    rw [xi_zero] at hb hn
    simp only [Bool.and_eq_true, decide_eq_true_eq] at hb
    unfold addX; rw [if_pos (show cmpX c ⟨x.a, x.b, 0⟩ = 0 from hb.2)]
    rw [show c.n + s = n by omega]
    by_cases h0 : n = 0
    · rw [if_pos h0, if_pos h0]; simp
    · rw [if_neg h0, if_neg h0]; simp
  | c :: l, i + 1, h, hb, hn => by
    have h0 := h.lo 0 (by omega)
    rw [xi_zero] at h0
    rw [hitB_succ] at hb
    rw [xi_succ] at hn
    have hc : cmpX c ⟨x.a, x.b, 0⟩ < 0 := h0
    unfold addX
    rw [if_neg (show ¬ cmpX c ⟨x.a, x.b, 0⟩ = 0 by omega), if_neg (show ¬ 0 < cmpX c ⟨x.a, x.b, 0⟩ by omega)]
    rw [← addX_hit h.tail hb hn]
    simp
theorem addX_miss {x : Xg} {s : Int} (hs0 : s ≠ 0) : ∀ {cr : List Xg} {i : Nat}, At cr x i → hitB cr x i = false → cr.take i ++ [⟨x.a, x.b, s⟩] ++ cr.drop i = addX cr x.a x.b s
  | [], 0, h, hb => by simp [addX]
  | [], i + 1, h, _ => by have := h.le; simp at this
  | c :: l, 0, h, hb => by
    have h0 := h.hi 0 (by omega) (by simp)
    unfold hitB at hb
    rw [xi_zero] at hb h0
    simp only [List.length_cons, Nat.zero_lt_succ, decide_true, Bool.true_and, decide_eq_false_iff_not] at hb
    have e : cmpX c ⟨x.a, x.b, 0⟩ = cmpX c x := rfl
    unfold addX; rw [if_neg (by rw [e]; exact hb), if_pos (by rw [e]; omega)]
    simp
  | c :: l, i + 1, h, hb => by
    have h0 := h.lo 0 (by omega)
    rw [xi_zero] at h0
    rw [hitB_succ] at hb
    have hc : cmpX c ⟨x.a, x.b, 0⟩ < 0 := h0
    unfold addX
    rw [if_neg (by omega), if_neg (by omega)]
    rw [← addX_miss hs0 h.tail hb]
    simp
/-- Crossings that are as they should be are in order, and their sums are not too great. -/
theorem cchk_srt {t : Tab} {cr : List Xg} (h : cchk t cr = 0) : SrtX cr ∧ ∀ i, i < cr.length → (hasB t (xi cr i).a = true ∧ hasB t (xi cr i).b = true ∧ cmpN (xi cr i).a (xi cr i).b < 0) ∧ -1048576 ≤ (xi cr i).n ∧ (xi cr i).n ≤ 1048576 ∧ (xi cr i).n ≠ 0 := by
  have hc : ∀ i, i < cr.length → crB t cr i = true := by
    unfold cchk at h
    by_cases e : (List.range cr.length).all (crB t cr) = true
    · exact fun i hi => List.all_eq_true.1 e i (List.mem_range.2 hi)
    · rw [if_neg e] at h; cases h
  have hc2 : ∀ i, i < cr.length → ((hasB t (xi cr i).a = true ∧ hasB t (xi cr i).b = true ∧ cmpN (xi cr i).a (xi cr i).b < 0) ∧ -1048576 ≤ (xi cr i).n ∧ (xi cr i).n ≤ 1048576 ∧ (xi cr i).n ≠ 0) ∧ (i = 0 ∨ cmpX (xi cr (i - 1)) (xi cr i) < 0) := fun i hi => by
    have := hc i hi
    unfold crB at this
    simp only [Bool.and_eq_true, Bool.or_eq_true, decide_eq_true_eq] at this
    exact ⟨⟨⟨this.1, this.2.1, this.2.2.1⟩, this.2.2.2.1, this.2.2.2.2.1, this.2.2.2.2.2.1⟩, this.2.2.2.2.2.2⟩
  refine ⟨fun i j hij hj => ?_, fun i hi => (hc2 i hi).1⟩
  obtain ⟨d, rfl⟩ : ∃ d, j = i + 1 + d := ⟨j - i - 1, by omega⟩
  induction d with
  | zero =>
    rcases (hc2 (i + 1) hj).2 with h1 | h1
    · omega
    · exact cmpX_lt.1 h1
  | succ d ih =>
    have h1 := ih (by omega) (by omega)
    rcases (hc2 (i + 1 + (d + 1)) hj).2 with h2 | h2
    · omega
    · exact ltX_trans h1 (cmpX_lt.1 h2)
/-- What Cross says. -/
def crossE (f : Fab) (a b : Nm) (s : Int) : Int :=
  if fchk f = 0 then
    if (s = 1 ∨ s = -1) ∧ a ≠ b then
      if hasB f.ys a = true ∧ hasB f.ys b = true then
        if -1048576 ≤ s + lnk f.cr (pairX a b).a (pairX a b).b ∧ s + lnk f.cr (pairX a b).a (pairX a b).b ≤ 1048576 then 0 else 3
      else 7
    else 1
  else fchk f
def crossF (f : Fab) (a b : Nm) (s : Int) : Fab := { f with cr := addX f.cr (pairX a b).a (pairX a b).b s }
end Go.Proofs.YtlhkehfplcclgaaDoor
