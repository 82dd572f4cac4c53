/- Texts of this claim in one file: libraries and walks. -/
import Derived.Test.YtlhkehfplcclgaaDoorL14
import Derived.Test.YtlhkehfplcclgaaDoorL18
/- The law FabricsUndone: the walk. -/
namespace Go.Proofs.YtlhkehfplcclgaaDoor
set_option linter.unusedVariables false
set_option linter.unusedSimpArgs false
set_option maxRecDepth 8000
open Go Go.RowKit

/-- What Of returns: a fabric and its loops. -/
theorem RetFD.open {w w' : World} {x : FD} {en : Ending} (h : RetFD w x en w') : ∃ g0 ca cn cc ha hn hc fa fn fc ma mn mc, en = .returned (.tuple #[.agg #[.slice (some ⟨g0, 0, none⟩) 6 6, .slice ca cn cc, .slice ha hn hc, .slice fa fn fc], .slice ma mn mc]) ∧
    (cn = (ofF x).cr.length ∧ hn = (ofF x).held.length ∧ fn = (ofF x).fallen.length ∧ mn = (ofT x.t).made.length) ∧ FB w' (.slice (some ⟨g0, 0, none⟩) 6 6) (.slice ca cn cc) (.slice ha hn hc) (.slice fa fn fc) (ofF x) ∧ NL w' (.slice ma mn mc) mc (ofT x.t).made ∧ Ext w w' := by
  obtain ⟨g0, F, us, vs, lv, mv, w1, cv, hv, fv, rfl, _, hO, hA, _, hx, hF⟩ := h
  have hfb := OF.fb hO hA hF
  obtain ⟨mc, hm⟩ := (hO.agr hA).nl
  obtain ⟨ma, mn, rfl, h4, _⟩ := hm.open
  obtain ⟨ca, cc, rfl, _⟩ := own_slice hF.c
  obtain ⟨ha, hc, rfl, _⟩ := own_slice hF.h
  obtain ⟨fa, fc, rfl, _⟩ := own_slice hF.f
  exact ⟨g0, ca, _, cc, ha, _, hc, fa, _, fc, ma, mn, mc, rfl, ⟨rfl, rfl, rfl, h4⟩, hfb, hm, hx⟩
theorem FDm.ext {w w' : World} {tv : Value} {fal : Int} {hv cv : Value} {x : FD} (h : FDm w tv fal hv cv x) (e : Ext w w') : FDm w' tv fal hv cv x := by
  obtain ⟨⟨c1, h1⟩, h2, ⟨c3, h3⟩, ⟨c4, h4⟩, h5, h6, h7, h8⟩ := h
  exact ⟨⟨c1, h1.ext e⟩, h2, ⟨c3, h3.ext e⟩, ⟨c4, h4.ext e⟩, h5, h6, h7, h8⟩
/-- Twice as many pairs. -/
theorem srt_bd2 {l : List Xg} {m : List Nm} (h : List.Pairwise ltX l) (hm : ∀ c ∈ l, c.a ∈ m ∧ c.b ∈ m) (ho : ∀ c ∈ l, cmpN c.a c.b < 0) : 2 * l.length ≤ m.length * m.length := by
  have h1 : (l.map fun c => (c.a, c.b)).Nodup := by
    unfold List.Nodup
    rw [List.pairwise_map]
    refine h.imp fun {a b} hab e => ?_
    have e := Prod.mk.inj e
    unfold ltX at hab
    rw [e.1, e.2] at hab
    rcases hab with k | ⟨_, k⟩ <;> exact ltN_irr k
  have h2 : (l.map fun c => (c.b, c.a)).Nodup := by
    unfold List.Nodup
    rw [List.pairwise_map]
    refine h.imp fun {a b} hab e => ?_
    have e := Prod.mk.inj e
    unfold ltX at hab
    rw [e.1, e.2] at hab
    rcases hab with k | ⟨_, k⟩ <;> exact ltN_irr k
  have h3 : ((l.map fun c => (c.a, c.b)) ++ l.map fun c => (c.b, c.a)).Nodup := List.nodup_append.2 ⟨h1, h2, fun p hp q hq e => by
    obtain ⟨c, hc, rfl⟩ := List.mem_map.1 hp
    obtain ⟨d, hd, rfl⟩ := List.mem_map.1 hq
    have e := Prod.mk.inj e
    have k1 := cmpN_lt.1 (ho c hc)
    have k2 := cmpN_lt.1 (ho d hd)
    rw [e.1, e.2] at k1
    exact ltN_irr (ltN_trans k1 k2)⟩
  have h4 := nodup_len (m := (m.map fun a => m.map fun b => (a, b)).flatten) h3 fun p hp => by
    rcases List.mem_append.1 hp with hp | hp
    · obtain ⟨c, hc, rfl⟩ := List.mem_map.1 hp
      have := hm c hc
      exact List.mem_flatten.2 ⟨_, List.mem_map.2 ⟨c.a, this.1, rfl⟩, List.mem_map.2 ⟨c.b, this.2, rfl⟩⟩
    · obtain ⟨c, hc, rfl⟩ := List.mem_map.1 hp
      have := hm c hc
      exact List.mem_flatten.2 ⟨_, List.mem_map.2 ⟨c.b, this.2, rfl⟩, List.mem_map.2 ⟨c.a, this.1, rfl⟩⟩
  rw [List.length_append, List.length_map, List.length_map] at h4
  have : ∀ k : List Nm, ((k.map fun a => m.map fun b => (a, b)).flatten).length = k.length * m.length := fun k => by
    induction k with
    | nil => simp
    | cons a k ih => simp only [List.map_cons, List.flatten_cons, List.length_append, List.length_map, ih, List.length_cons]; rw [Nat.succ_mul]; omega
  have := this m
  omega
theorem FOk.fin40 {x : FD} (h : FOk x) (h40 : (ofT x.t).made.length ≤ 40) (hx : x.cross.length ≤ 9223372036854775807) : FIn (ofF x) := by
  have hin : ∀ a, a ∈ (ofT x.t).made → a.In := fun a ha => nm_in h.inv.l6 (by rw [h.inv.cnt]; have := h.m60; omega) ((h.inv.cov a).2 ha)
  have hb : ∀ a, hasB (ofT x.t).t a = true → a.In := fun a ha => hin a ((h.inv.cov a).1 ha)
  have hl := h.len
  have hbd := srt_bd2 (m := (ofT x.t).made) h.cr.s (fun c hc => ⟨(h.inv.cov _).1 (h.cr.m c hc).1, (h.inv.cov _).1 (h.cr.m c hc).2.1⟩) fun c hc => (h.cr.m c hc).2.2
  have hq : (ofT x.t).made.length * (ofT x.t).made.length ≤ 40 * 40 := Nat.mul_le_mul h40 h40
  refine ⟨fun a ha => hin a (h.hm a (List.mem_append_left _ ha)), fun a ha => hin a (h.hm a (List.mem_append_right _ ha)), fun c hc => ?_, fun r hr l hl => ?_, by omega, by omega, by omega, ?_, fun r hr => ?_, fun r hr l hl => ?_⟩
  · have h1 := h.cr.m c hc
    have h2 := h.cr.n c hc
    exact ⟨hb _ h1.1, hb _ h1.2.1, by omega, by omega⟩
  · have h1 := (h.inv.ri r hr l hl).1
    exact ⟨by rcases h1.bed with e | e <;> rw [e] <;> decide, fun a ha => (h1.i1 a ha).1, fun p hp => (h1.i2 p hp).1⟩
  · rw [show (ofF x).ys.length = 6 from h.inv.l6]; decide
  · exact h.ok.r.n5 r hr
  · have h1 := h.inv.ri r hr l hl
    have h2 := h1.1.n1
    omega
set_option maxHeartbeats 16000000 in
theorem FabricsUndone_walk (tv hv cv : Value) (fal : Int) (x : FD) (w : World) (ht : PTab w) (h : FDm w tv fal hv cv x) :
    Calls Tryd.prog 5 #[.agg #[tv, .int .u64 fal, hv, cv]] w fun e w' => e = .returned (.bool true) ∧ Ext w w' := by
  have HM := Lib.hid h
  obtain ⟨⟨tc, hT⟩, hfal, ⟨hc, hH⟩, ⟨cc, hC⟩, _⟩ := h
  obtain ⟨ta, tn, rfl, htn, -⟩ := hT.open
  obtain ⟨ha, hn, rfl, -⟩ := hH.atD
  obtain ⟨ca, cn, rfl, hcn, hcc, hc9, -⟩ := hC.open
  obtain ⟨W0, hW0⟩ : ∃ W0, W0 = w.alloc (.cells #[.slice ta tn tc, .int .u64 fal, .slice ha hn hc, .slice ca cn cc] 28) := ⟨_, rfl⟩
  have xW : Ext w W0 := by rw [hW0]; exact (Ext.refl _).alloc _
  have HW0 := Lib.hid hW0; have XW := Lib.hid xW
  have HB := Lib.hid (show B4 W0 w.heap.size (.slice ta tn tc) (.int .u64 fal) (.slice ha hn hc) (.slice ca cn cc) 28 by rw [hW0]; exact B4.new _ _ _ _ _ _)
  have HT := Lib.hid ht; have Htn := Lib.hid htn; have Hcn := Lib.hid (show x.cross.length ≤ 9223372036854775807 by omega)
  obtain ⟨q0, q1, q2, q3⟩ := B4.cells HB.out
  rw [hW0] at q0 q1 q2 q3
  clear hT hfal hH hC htn hcn hcc hc9 hW0 xW ht
  go_enter Tryd.func5, Tryd.ntmps5
  by_cases h40 : 40 < tn
  · have f1 : (40 : Int) < tn := by omega
    go_wp2_with fail
    rw [← HW0.out]
    clear q0 q1 q2 q3
    refine (Lives_calls W0 (HT.out.ext XW.out)).mono ?_
    rintro e w2 ⟨rfl, x2⟩
    have X2 := Lib.hid (XW.out.trans x2)
    clear x2
    go_wp2
    go_ret
    exact ⟨rfl, X2.out⟩
  · have f1 : ¬ (40 : Int) < tn := by omega
    go_wp2_with fail
    rw [← HW0.out]
    clear q0 q1 q2 q3
    refine (OfF_calls _ _ _ fal x W0 (HM.out.ext XW.out)).mono ?_
    rintro e w2 hR
    obtain ⟨g0, ka, kn, kc, la, ln, lc, fa, fn, fc, ma, mn, mc, rfl, ⟨hkn, hln, hfn, hmn⟩, hFB, hNL, hx⟩ := hR.open
    have hok := fok x
    have hm40 : (ofT x.t).made.length ≤ 40 := by rw [(ofT_inv x.t).2, List.length_take]; have := Htn.out; omega
    have hfin := hok.fin40 hm40 Hcn.out
    obtain ⟨f, hf⟩ : ∃ f, f = ofF x := ⟨_, rfl⟩
    rw [← hf] at hkn hln hfn hFB hfin
    obtain ⟨W2, hW2⟩ : ∃ W2, W2 = w2.alloc (.cells #[.slice (some ⟨g0, 0, none⟩) 6 6, .slice ka kn kc, .slice la ln lc, .slice fa fn fc] 35) := ⟨_, rfl⟩
    have X2 := Lib.hid (show Ext w W2 by rw [hW2]; exact (XW.out.trans hx).alloc _)
    have hFB2 : FB W2 (.slice (some ⟨g0, 0, none⟩) 6 6) (.slice ka kn kc) (.slice la ln lc) (.slice fa fn fc) f := by rw [hW2]; exact hFB.ext ((Ext.refl _).alloc _)
    obtain ⟨gb, hgb⟩ : ∃ gb, gb = w2.heap.size := ⟨_, rfl⟩
    have HB2 := Lib.hid (show B4 W2 gb (.slice (some ⟨g0, 0, none⟩) 6 6) (.slice ka kn kc) (.slice la ln lc) (.slice fa fn fc) 35 by rw [hW2, hgb]; exact B4.new _ _ _ _ _ _)
    have HFB := Lib.hid hFB2; have HW2 := Lib.hid hW2; have HFI := Lib.hid hfin; have Hgb := Lib.hid hgb
    have n40 : fn ≤ 1000 := by have := hfin.n2; omega
    obtain ⟨c1, hT2⟩ := hFB2.t
    obtain ⟨c2, hF2⟩ := hFB2.f
    have HT2 := Lib.hid hT2
    obtain ⟨fa', fn', e, hfn', -, -, hFat⟩ := hF2.open
    cases e
    have HFat := Lib.hid hFat; have Hfn := Lib.hid hfn
    have HHas := Lib.hid (show ∀ i, i < fn → hasB f.ys (ni f.fallen i) = true from fun i hi => by rw [hf]; exact (hok.inv.cov _).2 (hok.hm _ (List.mem_append_right _ (by rw [← hf]; exact ni_mem (by omega)))))
    have H6 := Lib.hid (show f.ys.length = 6 by rw [hf]; exact hok.inv.l6)
    obtain ⟨U, hU⟩ : ∃ U : Nat → List Nm, U = fun k => und f.ys (f.fallen.take k) := ⟨_, rfl⟩
    have HU0 := Lib.hid (show U 0 = [] by rw [hU]; rfl)
    have HUy := Lib.hid (show ∀ k, k < fn → fastB f.ys (ni f.fallen k) = false → U (k + 1) = U k ++ [ni f.fallen k] from fun k hk hh => by rw [hU]; exact und_yes (by omega) hh)
    have HUn := Lib.hid (show ∀ k, k < fn → fastB f.ys (ni f.fallen k) = true → U (k + 1) = U k from fun k hk hh => by rw [hU]; exact und_no (by omega) hh)
    have HUE := Lib.hid (show und f.ys f.fallen = U fn by rw [hU, hfn]; dsimp only; rw [List.take_length])
    have HUl := Lib.hid (show ∀ k, (U k).length ≤ 1000 from fun k => by
      rw [hU]
      have h1 := und_len f.ys (f.fallen.take k)
      have h2 : (f.fallen.take k).length ≤ f.fallen.length := by simp; omega
      dsimp only
      omega)
    clear hR hkn hln hfn hmn hFB hNL hx hok hm40 hfin hf hW2 hFB2 hgb hT2 hF2 hfn' hFat hU h40 f1
    go_upto_region 5 with fail
    rw [← HW2.out, ← Hgb.out]
    obtain ⟨q0, q1, q2, q3⟩ := B4.cells HB2.out
    go_wp2_with fail
    clear q0 q1 q2 q3
    go_loopg [5, 6, 7, 8] fn (fun g wv iv _ _ wr => ∃ k : Nat, g + k = fn ∧ iv = .int .i64 k ∧ Hid (Ext W2 wr ∧ wr.ownsRow W2.heap.size 41 2 wv (U k).length ((U k).map Nm.cs).flatten))
    case atStart => exact ⟨0, by omega, rfl, Lib.hid ⟨Ext.refl _, by rw [HU0.out]; exact own_none _ _ _ _⟩⟩
    case round =>
      obtain ⟨k, hgk, rfl, G⟩ := hrel
      have Hgk := Lib.hid hgk
      obtain ⟨ar, cr, hr, -⟩ := own_slice G.out.2
      obtain ⟨L, hL⟩ : ∃ L, L = (U k).length := ⟨_, rfl⟩
      have hL9 := HUl.out k
      rw [← hL] at hr hL9
      subst hr
      have HL := Lib.hid hL
      clear hL
      obtain ⟨q0, q1, q2, q3⟩ := B4.cells (HB2.out.ext G.out.1)
      by_cases hlt : k < fn
      · have e1 : (k : Int) < fn := by omega
        have e2 : (0 : Int) ≤ k := by omega
        clear hgk
        obtain ⟨b', o', rfl, hA⟩ := HFat.out k hlt
        obtain ⟨A, hAd⟩ : ∃ A, A = ni f.fallen k := ⟨_, rfl⟩
        have hhas := HHas.out k hlt
        have huy := HUy.out k hlt; have hun := HUn.out k hlt
        rw [← hAd] at hA hhas huy hun
        obtain ⟨y, m, rfl, hy6, hmm⟩ := hasB_iff hhas
        rw [H6.out] at hy6
        obtain ⟨ta0, tn0, e, htn, -, -, htt⟩ := HT2.out.open
        cases e
        obtain ⟨b2, o2, ra, rm, rd, e2', hcell, hrm, hLR⟩ := htt y hy6
        cases e2'
        obtain ⟨ra', rn', e3, hrn, hrd, hrd9, hrat⟩ := hLR.open
        cases e3
        obtain ⟨rb, ro, a1, n1, d1, a2, n2, d2, rfl, hAL, hn1, hn2, hNL, hPL⟩ := hrat m (by omega)
        have Hbig := Lib.hid (And.intro hA (And.intro hcell hAL))
        have hE : fastB f.ys ⟨(y : Int) + 1, (m : Nat)⟩ = (decide (m + 1 = rm) && decide (0 < n1)) := by
          unfold fastB
          rw [hhas]
          dsimp only
          rw [show ((y : Int) + 1 - 1).toNat = y by omega, show ((m : Nat) : Int).toNat = m by omega, ← hn1, ← hrm, Bool.true_and]
          congr 1
          rw [Bool.eq_iff_iff]; simp only [decide_eq_true_eq]; omega
        obtain ⟨p0, p1⟩ := hA.ext G.out.1
        have HE := Lib.hid hE; have Huy := Lib.hid huy; have Hun := Lib.hid hun
        have hmrm : m < rm := by omega
        clear hA hcell hAL hNL hPL hn1 hn2 hrm hrn hrat htt hLR htn hhas hmm huy hun hE hAd
        dsimp only at p0 p1
        go_upto_region 9 with fail
        obtain ⟨WB, hWB⟩ : ∃ WB, WB = wr.alloc (.cells #[.int .u8 ((y : Int) + 1), .int .i64 (m : Int)] 41) := ⟨_, rfl⟩
        obtain ⟨gi', hgi⟩ : ∃ gi', gi' = wr.heap.size := ⟨_, rfl⟩
        rw [← hWB, ← hgi]
        have XB := Lib.hid (show Ext W2 WB by rw [hWB]; exact G.out.1.trans ((Ext.refl _).alloc _))
        have HI := Lib.hid (show BN WB gi' ⟨(y : Int) + 1, (m : Nat)⟩ by rw [hWB, hgi]; exact BN.new wr ⟨(y : Int) + 1, (m : Nat)⟩)
        have HO := Lib.hid (show WB.ownsRow W2.heap.size 41 2 (.slice ar L cr) L ((U k).map Nm.cs).flatten by rw [hWB]; have h1 := G.out.2; rw [← HL.out] at h1; exact own_extk h1 ((Ext.refl _).alloc _))
        clear p0 p1 q0 q1 q2 q3 hWB hgi
        obtain ⟨q0, q1, q2, q3⟩ := B4.cells (HB2.out.ext XB.out)
        obtain ⟨i0, i1⟩ := HI.out.at
        simp only [Nat.zero_add] at i1
        have p2 := XB.out.cell Hbig.out.2.1
        rw [Nat.zero_add] at p2
        obtain ⟨p3, p4, p5, p6⟩ := Hbig.out.2.2.ext XB.out
        have f1 : IntKind.u8.wrap ((y : Int) + 1 - 1) = y := by rw [show (y : Int) + 1 - 1 = y by omega]; exact IntWalk.u8_in _ ⟨by omega, by omega⟩
        have f2 : (y : Int) < 6 := by omega
        have f3 : (0 : Int) ≤ y := by omega
        have f4 : (m : Int) < rm := by omega
        have f5 : (0 : Int) ≤ m := by omega
        have f6 : IntKind.i64.wrap ((rm : Int) - 1) = (rm : Int) - 1 := IntWalk.i64_in _ ⟨by omega, by omega⟩
        go_upto_region 10 with fail
        clear q0 q1 q2 q3 p2 p3 p4 p6 f1 f2 f3
        obtain ⟨FB', hFB'⟩ : ∃ FB', FB' = !fastB f.ys ⟨(y : Int) + 1, (m : Nat)⟩ := ⟨_, rfl⟩
        have HFb := Lib.hid hFB'
        clear hFB'
        go_cut [55] from 21 to 59 (fun c wx => c = .bool FB' ∧ WB = wx)
        case first =>
          by_cases hlast : m + 1 = rm
          · have g1 : ¬ (m : Int) < (rm : Int) - 1 := by omega
            have g2 : decide ((m : Int) < (rm : Int) - 1) = false := decide_eq_false g1
            have hF2 : FB' = ((n1 : Int) == 0) := by
              rw [HFb.out, HE.out, decide_eq_true hlast, Bool.true_and, Bool.eq_iff_iff]; simp
            go_wp2_with fail
            go_meet
            case rel => exact ⟨by rw [hF2], rfl⟩
          · have g1 : (m : Int) < (rm : Int) - 1 := by omega
            have g2 : decide ((m : Int) < (rm : Int) - 1) = true := decide_eq_true g1
            have hF2 : FB' = true := by
              rw [HFb.out, HE.out, decide_eq_false hlast]; rfl
            subst hF2
            go_wp2_with fail
            go_meet
            case rel => exact ⟨rfl, rfl⟩
        case rest =>
          obtain ⟨rfl, rfl⟩ := hcut
          cases FB' with
          | true =>
            have hu := Huy.out (by have := HFb.out; simpa using this.symm)
            have Hu := Lib.hid hu
            have Hsz := Lib.hid (XB.out.size)
            clear hu
            go_wp2_with (at_builtin; refine app_at ekN rfl _ _ rfl W2.heap.size _ L ((U k).map Nm.cs) rfl (own_extk HO.out ((Ext.refl _).alloc _)) _ 1 [Nm.cs ⟨(y : Int) + 1, (m : Nat)⟩] rfl (CK.of_blk (Deep.blk_alloc_new _ _) (Ks.nm [⟨(y : Int) + 1, (m : Nat)⟩]) rfl (Nat.le_refl _) (by omega) rfl) (Ks.nm [⟨(y : Int) + 1, (m : Nat)⟩]) ?g1 ?g2 ?g3 ?_)
            case g1 => first | omega | (simp; omega)
            case g2 => first | omega | (simp; omega)
            case g3 => have h1 := Hsz.out; simp; omega
            intro v8 w8 hown hgr hat
            have hl : L + 1 = (U (k + 1)).length := by rw [Hu.out, List.length_append, HL.out]; rfl
            have HN := Lib.hid (show Ext W2 w8 ∧ w8.ownsRow W2.heap.size 41 2 v8 (U (k + 1)).length ((U (k + 1)).map Nm.cs).flatten from ⟨Ext.grown (XB.out.trans ((Ext.refl _).alloc _)) hgr fun g hg => (HO.out.lt g hg).1, by rw [← hl, Hu.out]; simpa using hown⟩)
            clear hown hgr hat hl
            go_wp2_with fail
            go_roundg (fn - (k + 1))
            case measure => have := Hgk.out; omega
            case rel => exact ⟨k + 1, by have := Hgk.out; omega, by go_num, HN⟩
          | false =>
            have hu := Hun.out (by have := HFb.out; simpa using this.symm)
            have HN := Lib.hid (show Ext W2 WB ∧ WB.ownsRow W2.heap.size 41 2 (.slice ar L cr) (U (k + 1)).length ((U (k + 1)).map Nm.cs).flatten from ⟨XB.out, by rw [hu, ← HL.out]; exact HO.out⟩)
            clear hu
            go_wp2_with fail
            go_roundg (fn - (k + 1))
            case measure => have := Hgk.out; omega
            case rel => exact ⟨k + 1, by have := Hgk.out; omega, by go_num, HN⟩
      · have e1 : ¬ (k : Int) < fn := by omega
        have hk : k = fn := by omega
        have hO := G.out.2
        rw [hk, ← HUE.out] at hO
        rw [hk, ← HUE.out] at HL
        have HO := Lib.hid hO
        have HUd := Lib.hid (Undone_calls (.slice (some ⟨g0, 0, none⟩) 6 6) (.slice ka kn kc) (.slice la ln lc) (.slice fa fn fc) f wr (HFB.out.ext G.out.1) HFI.out)
        clear hk hO hgk hlt
        go_wp2_with fail
        clear q0 q1 q2 q3
        refine HUd.out.mono ?_
        rintro e w6 ⟨gu, nu, hnu, rfl, hgu, hbu, hx⟩
        rw [List.length_map, ← HL.out] at hnu
        subst hnu
        have X6 := Lib.hid hx
        have hO6 := own_extk HO.out hx
        rw [← HL.out] at hO6
        have HOw := Lib.hid hO6
        have hUK : CK 2 w6 (.slice (some ⟨gu, 0, none⟩) nu nu) nu ((und f.ys f.fallen).map Nm.cs) := blk_ck (by rw [List.length_map]; exact HL.out) (Ks.nm _) hbu (by omega)
        obtain ⟨ua, un, e, hun, -, -, hUat⟩ := NL.open hUK
        cases e
        have HUat := Lib.hid hUat
        have HWX := Lib.hid (show Ext w w6 from X2.out.trans (G.out.1.trans hx))
        clear hbu hx hO6 hUK hun hUat hgu
        have t1 : ((nu : Int) != nu) = false := by simp
        go_wp2_with fail
        go_loopg [10] nu (fun g iv wr => ∃ i : Nat, g + i = nu ∧ iv = .int .i64 i ∧ Hid (Ext w6 wr))
        case atStart => exact ⟨0, by omega, rfl, Lib.hid (Ext.refl _)⟩
        case round =>
          obtain ⟨i, hgi, rfl, G2⟩ := hrel
          have Hgi := Lib.hid hgi
          by_cases hlt : i < nu
          · have e3 : (i : Int) < nu := by omega
            have e4 : (0 : Int) ≤ i := by omega
            clear hgi
            obtain ⟨b1, o1, e, hA⟩ := HUat.out i hlt
            cases e
            obtain ⟨b2, o2, rfl, hB⟩ := own_at2 HOw.out HL.out hlt
            obtain ⟨A, hAd⟩ : ∃ A, A = ni (und f.ys f.fallen) i := ⟨_, rfl⟩
            rw [← hAd] at hA hB
            obtain ⟨p0, p1⟩ := hA.ext G2.out
            obtain ⟨p2, p3⟩ := hB.ext G2.out
            rw [Nat.zero_add] at p0 p1
            clear hA hB hAd
            go_wp2_with fail
            go_quiet (fail)
            go_wp2_with fail
            go_roundg (nu - (i + 1))
            case measure => have := Hgi.out; omega
            case rel => exact ⟨i + 1, by have := Hgi.out; omega, by go_num, Lib.hid (G2.out.trans (by (focus (repeat (first | (with_reducible exact Ext.refl _) | (with_reducible apply Ext.drew) | (with_reducible apply Ext.drewN) | (with_reducible apply Ext.alloc))))))⟩
          · have e3 : ¬ (i : Int) < nu := by omega
            have XA := Lib.hid (HWX.out.trans G2.out)
            clear hgi
            go_wp2_with fail
            refine (Lives_calls wr (HT.out.ext XA.out)).mono ?_
            rintro e w7 ⟨rfl, x7⟩
            have X7 := Lib.hid (XA.out.trans x7)
            clear x7
            go_wp2
            go_ret
            exact ⟨rfl, X7.out⟩
end Go.Proofs.YtlhkehfplcclgaaDoor
