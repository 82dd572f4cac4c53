/- Texts of this claim in one file: libraries and walks. -/
import Derived.Laws.EntriesVeiled
import Derived.Test.YtlhkehfplcclgaaDoorL14
import Derived.Test.YtlhkehfplcclgaaDoorL18
/- The law FabricsUndone: the walk. -/
namespace Go.Proofs.YtlhkehfplcclgaaDoor
set_option linter.unusedVariables false
set_option linter.unusedSimpArgs false
set_option maxRecDepth 8000
open Go Go.RowKit

/-- What Of returns: a fabric and its loops. -/
theorem RetFD.open {w w' : World} {x : FD} {en : Ending} (h : RetFD w x en w') : ∃ g0 ca cn cc ha hn hc fa fn fc ma mn mc, en = .returned (.tuple #[.agg #[.slice (some ⟨g0, 0, none⟩) 6 6, .slice ca cn cc, .slice ha hn hc, .slice fa fn fc], .slice ma mn mc]) ∧
    (cn = (ofF x).cr.length ∧ hn = (ofF x).held.length ∧ fn = (ofF x).fallen.length ∧ mn = (ofT x.t).made.length) ∧ FB w' (.slice (some ⟨g0, 0, none⟩) 6 6) (.slice ca cn cc) (.slice ha hn hc) (.slice fa fn fc) (ofF x) ∧ NL w' (.slice ma mn mc) mc (ofT x.t).made ∧ Ext w w' := by
  obtain ⟨g0, F, us, vs, lv, mv, w1, cv, hv, fv, rfl, _, hO, hA, _, hx, hF⟩ := h
  have hfb := OF.fb hO hA hF
  obtain ⟨mc, hm⟩ := (hO.agr hA).nl
  obtain ⟨ma, mn, rfl, h4, _⟩ := hm.open
  obtain ⟨ca, cc, rfl, _⟩ := own_slice hF.c
  obtain ⟨ha, hc, rfl, _⟩ := own_slice hF.h
  obtain ⟨fa, fc, rfl, _⟩ := own_slice hF.f
  exact ⟨g0, ca, _, cc, ha, _, hc, fa, _, fc, ma, mn, mc, rfl, ⟨rfl, rfl, rfl, h4⟩, hfb, hm, hx⟩
theorem FDm.ext {w w' : World} {tv : Value} {fal : Int} {hv cv : Value} {x : FD} (h : FDm w tv fal hv cv x) (e : Ext w w') : FDm w' tv fal hv cv x := by
  obtain ⟨⟨c1, h1⟩, h2, ⟨c3, h3⟩, ⟨c4, h4⟩, h5, h6, h7, h8⟩ := h
  exact ⟨⟨c1, h1.ext e⟩, h2, ⟨c3, h3.ext e⟩, ⟨c4, h4.ext e⟩, h5, h6, h7, h8⟩
/-- Twice as many pairs. -/
theorem srt_bd2 {l : List Xg} {m : List Nm} (h : List.Pairwise ltX l) (hm : ∀ c ∈ l, c.a ∈ m ∧ c.b ∈ m) (ho : ∀ c ∈ l, cmpN c.a c.b < 0) : 2 * l.length ≤ m.length * m.length := by
  have h1 : (l.map fun c => (c.a, c.b)).Nodup := by
    unfold List.Nodup
    rw [List.pairwise_map]
    refine h.imp fun {a b} hab e => ?_
    have e := Prod.mk.inj e
    unfold ltX at hab
    rw [e.1, e.2] at hab
    rcases hab with k | ⟨_, k⟩ <;> exact ltN_irr k
  have h2 : (l.map fun c => (c.b, c.a)).Nodup := by
    unfold List.Nodup
    rw [List.pairwise_map]
    refine h.imp fun {a b} hab e => ?_
    have e := Prod.mk.inj e
    unfold ltX at hab
    rw [e.1, e.2] at hab
    rcases hab with k | ⟨_, k⟩ <;> exact ltN_irr k
  have h3 : ((l.map fun c => (c.a, c.b)) ++ l.map fun c => (c.b, c.a)).Nodup := List.nodup_append.2 ⟨h1, h2, fun p hp q hq e => by
    obtain ⟨c, hc, rfl⟩ := List.mem_map.1 hp
    obtain ⟨d, hd, rfl⟩ := List.mem_map.1 hq
    have e := Prod.mk.inj e
    have k1 := cmpN_lt.1 (ho c hc)
    have k2 := cmpN_lt.1 (ho d hd)
    rw [e.1, e.2] at k1
    exact ltN_irr (ltN_trans k1 k2)⟩
  have h4 := nodup_len (m := (m.map fun a => m.map fun b => (a, b)).flatten) h3 fun p hp => by
    rcases List.mem_append.1 hp with hp | hp
    · obtain ⟨c, hc, rfl⟩ := List.mem_map.1 hp
      have := hm c hc
      exact List.mem_flatten.2 ⟨_, List.mem_map.2 ⟨c.a, this.1, rfl⟩, List.mem_map.2 ⟨c.b, this.2, rfl⟩⟩
    · obtain ⟨c, hc, rfl⟩ := List.mem_map.1 hp
      have := hm c hc
      exact List.mem_flatten.2 ⟨_, List.mem_map.2 ⟨c.b, this.2, rfl⟩, List.mem_map.2 ⟨c.a, this.1, rfl⟩⟩
  rw [List.length_append, List.length_map, List.length_map] at h4
  have : ∀ k : List Nm, ((k.map fun a => m.map fun b => (a, b)).flatten).length = k.length * m.length := fun k => by
    induction k with
    | nil => simp
    | cons a k ih => simp only [List.map_cons, List.flatten_cons, List.length_append, List.length_map, ih, List.length_cons]; rw [Nat.succ_mul]; omega
  have := this m
  omega
theorem FOk.fin40 {x : FD} (h : FOk x) (h40 : (ofT x.t).made.length ≤ 40) (hx : x.cross.length ≤ 9223372036854775807) : FIn (ofF x) := by
  have hin : ∀ a, a ∈ (ofT x.t).made → a.In := fun a ha => nm_in h.inv.l6 (by rw [h.inv.cnt]; have := h.m60; omega) ((h.inv.cov a).2 ha)
  have hb : ∀ a, hasB (ofT x.t).t a = true → a.In := fun a ha => hin a ((h.inv.cov a).1 ha)
  have hl := h.len
  have hbd := srt_bd2 (m := (ofT x.t).made) h.cr.s (fun c hc => ⟨(h.inv.cov _).1 (h.cr.m c hc).1, (h.inv.cov _).1 (h.cr.m c hc).2.1⟩) fun c hc => (h.cr.m c hc).2.2
  have hq : (ofT x.t).made.length * (ofT x.t).made.length ≤ 40 * 40 := Nat.mul_le_mul h40 h40
  refine ⟨fun a ha => hin a (h.hm a (List.mem_append_left _ ha)), fun a ha => hin a (h.hm a (List.mem_append_right _ ha)), fun c hc => ?_, fun r hr l hl => ?_, by omega, by omega, by omega, ?_, fun r hr => ?_, fun r hr l hl => ?_⟩
  · have h1 := h.cr.m c hc
    have h2 := h.cr.n c hc
    exact ⟨hb _ h1.1, hb _ h1.2.1, by omega, by omega⟩
  · have h1 := (h.inv.ri r hr l hl).1
    exact ⟨by rcases h1.bed with e | e <;> rw [e] <;> decide, fun a ha => (h1.i1 a ha).1, fun p hp => (h1.i2 p hp).1⟩
  · rw [show (ofF x).ys.length = 6 from h.inv.l6]; decide
  · exact h.ok.r.n5 r hr
  · have h1 := h.inv.ri r hr l hl
    have h2 := h1.1.n1
    omega
set_option maxHeartbeats 16000000 in
theorem FabricsUndone_walk (tv hv cv : Value) (fal : Int) (x : FD) (w : World) (ht : PTab w) (h : FDm w tv fal hv cv x) :
    Calls Tryd.prog 5 #[.agg #[tv, .int .u64 fal, hv, cv]] w fun e w' => e = .returned (.bool true) ∧ Ext w w' := by
  have HM := Lib.hid h
  obtain ⟨⟨tc, hT⟩, hfal, ⟨hc, hH⟩, ⟨cc, hC⟩, _⟩ := h
  obtain ⟨ta, tn, rfl, htn, -⟩ := hT.open
  obtain ⟨ha, hn, rfl, -⟩ := hH.atD
  obtain ⟨ca, cn, rfl, hcn, hcc, hc9, -⟩ := hC.open
  obtain ⟨W0, hW0⟩ : ∃ W0, W0 = w.alloc (.cells #[.slice ta tn tc, .int .u64 fal, .slice ha hn hc, .slice ca cn cc] 28) := ⟨_, rfl⟩
  have xW : Ext w W0 := by rw [hW0]; exact (Ext.refl _).alloc _
  have HW0 := Lib.hid hW0; have XW := Lib.hid xW
  have HB := Lib.hid (show B4 W0 w.heap.size (.slice ta tn tc) (.int .u64 fal) (.slice ha hn hc) (.slice ca cn cc) 28 by rw [hW0]; exact B4.new _ _ _ _ _ _)
  have HT := Lib.hid ht; have Htn := Lib.hid htn; have Hcn := Lib.hid (show x.cross.length ≤ 9223372036854775807 by omega)
  obtain ⟨q0, q1, q2, q3⟩ := B4.cells HB.out
  rw [hW0] at q0 q1 q2 q3
  clear hT hfal hH hC htn hcn hcc hc9 hW0 xW ht
  go_enter Tryd.func5, Tryd.ntmps5
  by_cases h40 : 40 < tn
  · have f1 : (40 : Int) < tn := by omega
    go_wp2_with fail
    rw [← HW0.out]
    clear q0 q1 q2 q3
    refine (Lives_calls W0 (HT.out.ext XW.out)).mono ?_
    rintro e w2 ⟨rfl, x2⟩
    have X2 := Lib.hid (XW.out.trans x2)
    clear x2
    go_wp2
    go_ret
    exact ⟨rfl, X2.out⟩
  · have f1 : ¬ (40 : Int) < tn := by omega
    go_wp2_with fail
    rw [← HW0.out]
    clear q0 q1 q2 q3
    refine (OfF_calls _ _ _ fal x W0 (HM.out.ext XW.out)).mono ?_
    rintro e w2 hR
    obtain ⟨g0, ka, kn, kc, la, ln, lc, fa, fn, fc, ma, mn, mc, rfl, ⟨hkn, hln, hfn, hmn⟩, hFB, hNL, hx⟩ := hR.open
    have hok := fok x
    have hm40 : (ofT x.t).made.length ≤ 40 := by rw [(ofT_inv x.t).2, List.length_take]; have := Htn.out; omega
    have hfin := hok.fin40 hm40 Hcn.out
    obtain ⟨f, hf⟩ : ∃ f, f = ofF x := ⟨_, rfl⟩
    rw [← hf] at hkn hln hfn hFB hfin
    obtain ⟨W2, hW2⟩ : ∃ W2, W2 = w2.alloc (.cells #[.slice (some ⟨g0, 0, none⟩) 6 6, .slice ka kn kc, .slice la ln lc, .slice fa fn fc] 35) := ⟨_, rfl⟩
    have X2 := Lib.hid (show Ext w W2 by rw [hW2]; exact (XW.out.trans hx).alloc _)
    have hFB2 : FB W2 (.slice (some ⟨g0, 0, none⟩) 6 6) (.slice ka kn kc) (.slice la ln lc) (.slice fa fn fc) f := by rw [hW2]; exact hFB.ext ((Ext.refl _).alloc _)
    obtain ⟨gb, hgb⟩ : ∃ gb, gb = w2.heap.size := ⟨_, rfl⟩
    have HB2 := Lib.hid (show B4 W2 gb (.slice (some ⟨g0, 0, none⟩) 6 6) (.slice ka kn kc) (.slice la ln lc) (.slice fa fn fc) 35 by rw [hW2, hgb]; exact B4.new _ _ _ _ _ _)
    have HFB := Lib.hid hFB2; have HW2 := Lib.hid hW2; have HFI := Lib.hid hfin; have Hgb := Lib.hid hgb
    have n40 : fn ≤ 1000 := by have := hfin.n2; omega
    obtain ⟨c1, hT2⟩ := hFB2.t
    obtain ⟨c2, hF2⟩ := hFB2.f
    have HT2 := Lib.hid hT2
    obtain ⟨fa', fn', e, hfn', -, -, hFat⟩ := hF2.open
    cases e
    have HFat := Lib.hid hFat; have Hfn := Lib.hid hfn
    have HHas := Lib.hid (show ∀ i, i < fn → hasB f.ys (ni f.fallen i) = true from fun i hi => by rw [hf]; exact (hok.inv.cov _).2 (hok.hm _ (List.mem_append_right _ (by rw [← hf]; exact ni_mem (by omega)))))
    have H6 := Lib.hid (show f.ys.length = 6 by rw [hf]; exact hok.inv.l6)
    obtain ⟨U, hU⟩ : ∃ U : Nat → List Nm, U = fun k => und f.ys (f.fallen.take k) := ⟨_, rfl⟩
    have HU0 := Lib.hid (show U 0 = [] by rw [hU]; rfl)
    have HUy := Lib.hid (show ∀ k, k < fn → fastB f.ys (ni f.fallen k) = false → U (k + 1) = U k ++ [ni f.fallen k] from fun k hk hh => by rw [hU]; exact und_yes (by omega) hh)
    have HUn := Lib.hid (show ∀ k, k < fn → fastB f.ys (ni f.fallen k) = true → U (k + 1) = U k from fun k hk hh => by rw [hU]; exact und_no (by omega) hh)
    have HUE := Lib.hid (show und f.ys f.fallen = U fn by rw [hU, hfn]; dsimp only; rw [List.take_length])
    have HUl := Lib.hid (show ∀ k, (U k).length ≤ 1000 from fun k => by
      rw [hU]
      have h1 := und_len f.ys (f.fallen.take k)
      have h2 : (f.fallen.take k).length ≤ f.fallen.length := by simp; omega
      dsimp only
      omega)
    clear hR hkn hln hfn hmn hFB hNL hx hok hm40 hfin hf hW2 hFB2 hgb hT2 hF2 hfn' hFat hU h40 f1
    go_upto_region 5 with fail
    rw [← HW2.out, ← Hgb.out]
    obtain ⟨q0, q1, q2, q3⟩ := B4.cells HB2.out
    go_wp2_with fail
    clear q0 q1 q2 q3
    go_loopg [5, 6, 7, 8] fn (fun g wv iv _ _ wr => ∃ k : Nat, g + k = fn ∧ iv = .int .i64 k ∧ Hid (Ext W2 wr ∧ wr.ownsRow W2.heap.size 41 2 wv (U k).length ((U k).map Nm.cs).flatten))
    case atStart => exact ⟨0, by omega, rfl, Lib.hid ⟨Ext.refl _, by rw [HU0.out]; exact own_none _ _ _ _⟩⟩
    case round =>
      obtain ⟨k, hgk, rfl, G⟩ := hrel
      have Hgk := Lib.hid hgk
      obtain ⟨ar, cr, hr, -⟩ := own_slice G.out.2
      obtain ⟨L, hL⟩ : ∃ L, L = (U k).length := ⟨_, rfl⟩
      have hL9 := HUl.out k
      rw [← hL] at hr hL9
      subst hr
      have HL := Lib.hid hL
      clear hL
      obtain ⟨q0, q1, q2, q3⟩ := B4.cells (HB2.out.ext G.out.1)
      by_cases hlt : k < fn
      · have e1 : (k : Int) < fn := by omega
        have e2 : (0 : Int) ≤ k := by omega
        clear hgk
        obtain ⟨b', o', rfl, hA⟩ := HFat.out k hlt
        obtain ⟨A, hAd⟩ : ∃ A, A = ni f.fallen k := ⟨_, rfl⟩
        have hhas := HHas.out k hlt
        have huy := HUy.out k hlt; have hun := HUn.out k hlt
        rw [← hAd] at hA hhas huy hun
        obtain ⟨y, m, rfl, hy6, hmm⟩ := hasB_iff hhas
        rw [H6.out] at hy6
        obtain ⟨ta0, tn0, e, htn, -, -, htt⟩ := HT2.out.open
        cases e
        obtain ⟨b2, o2, ra, rm, rd, e2', hcell, hrm, hLR⟩ := htt y hy6
        cases e2'
        obtain ⟨ra', rn', e3, hrn, hrd, hrd9, hrat⟩ := hLR.open
        cases e3
        obtain ⟨rb, ro, a1, n1, d1, a2, n2, d2, rfl, hAL, hn1, hn2, hNL, hPL⟩ := hrat m (by omega)
        have Hbig := Lib.hid (And.intro hA (And.intro hcell hAL))
        have hE : fastB f.ys ⟨(y : Int) + 1, (m : Nat)⟩ = (decide (m + 1 = rm) && decide (0 < n1)) := by
          unfold fastB
          rw [hhas]
          dsimp only
          rw [show ((y : Int) + 1 - 1).toNat = y by omega, show ((m : Nat) : Int).toNat = m by omega, ← hn1, ← hrm, Bool.true_and]
          congr 1
          rw [Bool.eq_iff_iff]; simp only [decide_eq_true_eq]; omega
        obtain ⟨p0, p1⟩ := hA.ext G.out.1
        have HE := Lib.hid hE; have Huy := Lib.hid huy; have Hun := Lib.hid hun
        have hmrm : m < rm := by omega
        clear hA hcell hAL hNL hPL hn1 hn2 hrm hrn hrat htt hLR htn hhas hmm huy hun hE hAd
        dsimp only at p0 p1
        go_upto_region 9 with fail
        obtain ⟨WB, hWB⟩ : ∃ WB, WB = wr.alloc (.cells #[.int .u8 ((y : Int) + 1), .int .i64 (m : Int)] 41) := ⟨_, rfl⟩
        obtain ⟨gi', hgi⟩ : ∃ gi', gi' = wr.heap.size := ⟨_, rfl⟩
        rw [← hWB, ← hgi]
        have XB := Lib.hid (show Ext W2 WB by rw [hWB]; exact G.out.1.trans ((Ext.refl _).alloc _))
        have HI := Lib.hid (show BN WB gi' ⟨(y : Int) + 1, (m : Nat)⟩ by rw [hWB, hgi]; exact BN.new wr ⟨(y : Int) + 1, (m : Nat)⟩)
        have HO := Lib.hid (show WB.ownsRow W2.heap.size 41 2 (.slice ar L cr) L ((U k).map Nm.cs).flatten by rw [hWB]; have h1 := G.out.2; rw [← HL.out] at h1; exact own_extk h1 ((Ext.refl _).alloc _))
        clear p0 p1 q0 q1 q2 q3 hWB hgi
        obtain ⟨q0, q1, q2, q3⟩ := B4.cells (HB2.out.ext XB.out)
        obtain ⟨i0, i1⟩ := HI.out.at
        simp only [Nat.zero_add] at i1
        have p2 := XB.out.cell Hbig.out.2.1
        rw [Nat.zero_add] at p2
        obtain ⟨p3, p4, p5, p6⟩ := Hbig.out.2.2.ext XB.out
        have f1 : IntKind.u8.wrap ((y : Int) + 1 - 1) = y := by rw [show (y : Int) + 1 - 1 = y by omega]; exact IntWalk.u8_in _ ⟨by omega, by omega⟩
        have f2 : (y : Int) < 6 := by omega
        have f3 : (0 : Int) ≤ y := by omega
        have f4 : (m : Int) < rm := by omega
        have f5 : (0 : Int) ≤ m := by omega
        have f6 : IntKind.i64.wrap ((rm : Int) - 1) = (rm : Int) - 1 := IntWalk.i64_in _ ⟨by omega, by omega⟩
        go_upto_region 10 with fail
        clear q0 q1 q2 q3 p2 p3 p4 p6 f1 f2 f3
        obtain ⟨FB', hFB'⟩ : ∃ FB', FB' = !fastB f.ys ⟨(y : Int) + 1, (m : Nat)⟩ := ⟨_, rfl⟩
        have HFb := Lib.hid hFB'
        clear hFB'
        go_cut [55] from 21 to 59 (fun c wx => c = .bool FB' ∧ WB = wx)
        case first =>
          by_cases hlast : m + 1 = rm
          · have g1 : ¬ (m : Int) < (rm : Int) - 1 := by omega
            have g2 : decide ((m : Int) < (rm : Int) - 1) = false := decide_eq_false g1
            have hF2 : FB' = ((n1 : Int) == 0) := by
              rw [HFb.out, HE.out, decide_eq_true hlast, Bool.true_and, Bool.eq_iff_iff]; simp
            go_wp2_with fail
            go_meet
            case rel => exact ⟨by rw [hF2], rfl⟩
          · have g1 : (m : Int) < (rm : Int) - 1 := by omega
            have g2 : decide ((m : Int) < (rm : Int) - 1) = true := decide_eq_true g1
            have hF2 : FB' = true := by
              rw [HFb.out, HE.out, decide_eq_false hlast]; rfl
            subst hF2
            go_wp2_with fail
            go_meet
            case rel => exact ⟨rfl, rfl⟩
        case rest =>
          obtain ⟨rfl, rfl⟩ := hcut
          cases FB' with
          | true =>
            have hu := Huy.out (by have := HFb.out; simpa using this.symm)
            have Hu := Lib.hid hu
            have Hsz := Lib.hid (XB.out.size)
            clear hu
            go_wp2_with (at_builtin; refine app_at ekN rfl _ _ rfl W2.heap.size _ L ((U k).map Nm.cs) rfl (own_extk HO.out ((Ext.refl _).alloc _)) _ 1 [Nm.cs ⟨(y : Int) + 1, (m : Nat)⟩] rfl (CK.of_blk (Deep.blk_alloc_new _ _) (Ks.nm [⟨(y : Int) + 1, (m : Nat)⟩]) rfl (Nat.le_refl _) (by omega) rfl) (Ks.nm [⟨(y : Int) + 1, (m : Nat)⟩]) ?g1 ?g2 ?g3 ?_)
            case g1 => first | omega | (simp; omega)
            case g2 => first | omega | (simp; omega)
            case g3 => have h1 := Hsz.out; simp; omega
            intro v8 w8 hown hgr hat
            have hl : L + 1 = (U (k + 1)).length := by rw [Hu.out, List.length_append, HL.out]; rfl
            have HN := Lib.hid (show Ext W2 w8 ∧ w8.ownsRow W2.heap.size 41 2 v8 (U (k + 1)).length ((U (k + 1)).map Nm.cs).flatten from ⟨Ext.grown (XB.out.trans ((Ext.refl _).alloc _)) hgr fun g hg => (HO.out.lt g hg).1, by rw [← hl, Hu.out]; simpa using hown⟩)
            clear hown hgr hat hl
            go_wp2_with fail
            go_roundg (fn - (k + 1))
            case measure => have := Hgk.out; omega
            case rel => exact ⟨k + 1, by have := Hgk.out; omega, by go_num, HN⟩
          | false =>
            have hu := Hun.out (by have := HFb.out; simpa using this.symm)
            have HN := Lib.hid (show Ext W2 WB ∧ WB.ownsRow W2.heap.size 41 2 (.slice ar L cr) (U (k + 1)).length ((U (k + 1)).map Nm.cs).flatten from ⟨XB.out, by rw [hu, ← HL.out]; exact HO.out⟩)
            clear hu
            go_wp2_with fail
            go_roundg (fn - (k + 1))
            case measure => have := Hgk.out; omega
            case rel => exact ⟨k + 1, by have := Hgk.out; omega, by go_num, HN⟩
      · have e1 : ¬ (k : Int) < fn := by omega
        have hk : k = fn := by omega
        have hO := G.out.2
        rw [hk, ← HUE.out] at hO
        rw [hk, ← HUE.out] at HL
        have HO := Lib.hid hO
        have HUd := Lib.hid (Undone_calls (.slice (some ⟨g0, 0, none⟩) 6 6) (.slice ka kn kc) (.slice la ln lc) (.slice fa fn fc) f wr (HFB.out.ext G.out.1) HFI.out)
        clear hk hO hgk hlt
        go_wp2_with fail
        clear q0 q1 q2 q3
        refine HUd.out.mono ?_
        rintro e w6 ⟨gu, nu, hnu, rfl, hgu, hbu, hx⟩
        rw [List.length_map, ← HL.out] at hnu
        subst hnu
        have X6 := Lib.hid hx
        have hO6 := own_extk HO.out hx
        rw [← HL.out] at hO6
        have HOw := Lib.hid hO6
        have hUK : CK 2 w6 (.slice (some ⟨gu, 0, none⟩) nu nu) nu ((und f.ys f.fallen).map Nm.cs) := blk_ck (by rw [List.length_map]; exact HL.out) (Ks.nm _) hbu (by omega)
        obtain ⟨ua, un, e, hun, -, -, hUat⟩ := NL.open hUK
        cases e
        have HUat := Lib.hid hUat
        have HWX := Lib.hid (show Ext w w6 from X2.out.trans (G.out.1.trans hx))
        clear hbu hx hO6 hUK hun hUat hgu
        have t1 : ((nu : Int) != nu) = false := by simp
        go_wp2_with fail
        go_loopg [10] nu (fun g iv wr => ∃ i : Nat, g + i = nu ∧ iv = .int .i64 i ∧ Hid (Ext w6 wr))
        case atStart => exact ⟨0, by omega, rfl, Lib.hid (Ext.refl _)⟩
        case round =>
          obtain ⟨i, hgi, rfl, G2⟩ := hrel
          have Hgi := Lib.hid hgi
          by_cases hlt : i < nu
          · have e3 : (i : Int) < nu := by omega
            have e4 : (0 : Int) ≤ i := by omega
            clear hgi
            obtain ⟨b1, o1, e, hA⟩ := HUat.out i hlt
            cases e
            obtain ⟨b2, o2, rfl, hB⟩ := own_at2 HOw.out HL.out hlt
            obtain ⟨A, hAd⟩ : ∃ A, A = ni (und f.ys f.fallen) i := ⟨_, rfl⟩
            rw [← hAd] at hA hB
            obtain ⟨p0, p1⟩ := hA.ext G2.out
            obtain ⟨p2, p3⟩ := hB.ext G2.out
            rw [Nat.zero_add] at p0 p1
            clear hA hB hAd
            go_wp2_with fail
            go_quiet (fail)
            go_wp2_with fail
            go_roundg (nu - (i + 1))
            case measure => have := Hgi.out; omega
            case rel => exact ⟨i + 1, by have := Hgi.out; omega, by go_num, Lib.hid (G2.out.trans (by (focus (repeat (first | (with_reducible exact Ext.refl _) | (with_reducible apply Ext.drew) | (with_reducible apply Ext.drewN) | (with_reducible apply Ext.alloc))))))⟩
          · have e3 : ¬ (i : Int) < nu := by omega
            have XA := Lib.hid (HWX.out.trans G2.out)
            clear hgi
            go_wp2_with fail
            refine (Lives_calls wr (HT.out.ext XA.out)).mono ?_
            rintro e w7 ⟨rfl, x7⟩
            have X7 := Lib.hid (XA.out.trans x7)
            clear x7
            go_wp2
            go_ret
            exact ⟨rfl, X7.out⟩
end Go.Proofs.YtlhkehfplcclgaaDoor
/- slices.Equal; Same. (Printed by gen_qa.py.) -/
namespace Go.Proofs.YtlhkehfplcclgaaDoor
set_option linter.unusedVariables false
set_option linter.unusedSimpArgs false
set_option maxRecDepth 8000
open Go Go.RowKit

theorem getD_ext {α : Type} (z : α) {l m : List α} (h : l.length = m.length) (k : ∀ j, j < l.length → l.getD j z = m.getD j z) : l = m :=
  List.ext_getElem h fun i h1 h2 => by
    have := k i h1
    simpa [List.getD, h1, h2] using this
set_option maxHeartbeats 8000000 in
theorem EqN_calls (u v : Value) (c d : Nat) (l m : List Nm) (w : World) (h : NL w u c l) (k : NL w v d m) :
    Calls Tryd.prog 29 #[u, v] w fun e w' => e = .returned (.bool (decide (l = m))) ∧ Ext w w' := by
  obtain ⟨la, n, rfl, hn, hnc, hc9, hat⟩ := h.open
  obtain ⟨ma, n', rfl, hn', hnc', hc9', hat'⟩ := k.open
  obtain ⟨R, hR⟩ : ∃ R, R = decide (l = m) := ⟨_, rfl⟩
  rw [← hR]
  have HR := Lib.hid hR; have Hn := Lib.hid (And.intro hn hn'); have HA := Lib.hid hat; have HA' := Lib.hid hat'
  clear hR hn hn' hat hat' h k
  by_cases hl : n = n'
  · subst hl
    have q0 : ((n : Int) != n) = false := by simp
    have X0 := Lib.hid (Ext.refl w)
    go_enter Tryd.func29, Tryd.ntmps29
    go_wp2
    go_loopg [5, 13] n (fun g _ iv wr => ∃ i : Nat, g + i = n ∧ iv = .int .i64 i ∧ Hid (Ext w wr ∧ ∀ j, j < i → ni l j = ni m j))
    case atStart => exact ⟨0, by omega, rfl, Lib.hid ⟨X0.out, fun j hj => absurd hj (Nat.not_lt_zero _)⟩⟩
    case round =>
      obtain ⟨i, hgi, rfl, G⟩ := hrel
      have Hgi := Lib.hid hgi
      by_cases hlt : i < n
      · have f1 : (i : Int) < n := by omega
        have f2 : (0 : Int) ≤ i := by omega
        clear hgi
        obtain ⟨b1, o1, rfl, hP⟩ := HA.out i hlt
        obtain ⟨b2, o2, rfl, hQ⟩ := HA'.out i hlt
        obtain ⟨x, hx⟩ : ∃ x, x = ni l i := ⟨_, rfl⟩
        obtain ⟨y, hy⟩ : ∃ y, y = ni m i := ⟨_, rfl⟩
        rw [← hx] at hP
        rw [← hy] at hQ
        have HP := Lib.hid (hP.ext G.out.1); have HQ := Lib.hid (hQ.ext G.out.1)
        have Hxy := Lib.hid (And.intro hx hy)
        have HNe := Lib.hid (show x ≠ y → R = false from fun e => by
          rw [HR.out]; exact decide_eq_false (fun k => e (by rw [Hxy.out.1, Hxy.out.2, k])))
        clear hP hQ hx hy
        by_cases h0 : x.y = y.y
        · skip
          by_cases h1 : x.n = y.n
          · skip
            have hxy : x = y := by
              cases x; cases y
              simp only [Nm.mk.injEq]
              exact ⟨h0, h1⟩
            clear h0 h1
            subst hxy
            obtain ⟨p0, p1⟩ := HP.out
            obtain ⟨q1, q2⟩ := HQ.out
            go_wp2
            go_quiet (fail)
            go_wp2
            go_roundg (n - (i + 1))
            case measure => have := Hgi.out; omega
            case rel => exact ⟨i + 1, by have := Hgi.out; omega, by go_num, Lib.hid ⟨G.out.1.trans (by (focus (repeat (first | (with_reducible exact Ext.refl _) | (with_reducible apply Ext.drew) | (with_reducible apply Ext.drewN) | (with_reducible apply Ext.alloc))))), fun j hj => by
              by_cases e : j = i
              · rw [e, ← Hxy.out.1, ← Hxy.out.2]
              · exact G.out.2 j (by omega)⟩⟩
          · have hr := HNe.out (fun e => h1 (by rw [e]))
            subst hr
            have e0 : (x.y == y.y) = true := by rw [h0]; exact beq_self_eq_true _
            have e1 : (x.n == y.n) = false := beq_eq_false_iff_ne.2 h1
            obtain ⟨p0, p1⟩ := HP.out
            obtain ⟨q1, q2⟩ := HQ.out
            clear h0 h1
            go_wp2
            go_quiet (fail)
            go_wp2
            go_ret
            exact ⟨rfl, G.out.1.trans (by (focus (repeat (first | (with_reducible exact Ext.refl _) | (with_reducible apply Ext.drew) | (with_reducible apply Ext.drewN) | (with_reducible apply Ext.alloc)))))⟩
        · have hr := HNe.out (fun e => h0 (by rw [e]))
          subst hr
          have e0 : (x.y == y.y) = false := beq_eq_false_iff_ne.2 h0
          obtain ⟨p0, p1⟩ := HP.out
          obtain ⟨q1, q2⟩ := HQ.out
          clear h0
          go_wp2
          go_quiet (fail)
          go_wp2
          go_ret
          exact ⟨rfl, G.out.1.trans (by (focus (repeat (first | (with_reducible exact Ext.refl _) | (with_reducible apply Ext.drew) | (with_reducible apply Ext.drewN) | (with_reducible apply Ext.alloc)))))⟩
      · have f1 : ¬ (i : Int) < n := by omega
        have hr : R = true := by
          rw [HR.out]
          refine decide_eq_true (getD_ext Nm.zero (by have := Hn.out; omega) fun j hj => G.out.2 j (by have := Hn.out; omega))
        subst hr
        clear hgi
        go_wp2
        go_ret
        exact ⟨rfl, G.out.1⟩
  · have q0 : ((n : Int) != n') = true := by simp; omega
    have hr : R = false := by
      rw [HR.out]; exact decide_eq_false (fun e => hl (by have := Hn.out; rw [this.1, this.2, e]))
    subst hr
    have X0 := Lib.hid (Ext.refl w)
    clear hl
    go_enter Tryd.func29, Tryd.ntmps29
    go_wp2
    go_ret
    exact ⟨rfl, X0.out⟩
set_option maxHeartbeats 8000000 in
theorem EqP_calls (u v : Value) (c d : Nat) (l m : List Ps) (w : World) (h : PL w u c l) (k : PL w v d m) :
    Calls Tryd.prog 30 #[u, v] w fun e w' => e = .returned (.bool (decide (l = m))) ∧ Ext w w' := by
  obtain ⟨la, n, rfl, hn, hnc, hc9, hat⟩ := h.open
  obtain ⟨ma, n', rfl, hn', hnc', hc9', hat'⟩ := k.open
  obtain ⟨R, hR⟩ : ∃ R, R = decide (l = m) := ⟨_, rfl⟩
  rw [← hR]
  have HR := Lib.hid hR; have Hn := Lib.hid (And.intro hn hn'); have HA := Lib.hid hat; have HA' := Lib.hid hat'
  clear hR hn hn' hat hat' h k
  by_cases hl : n = n'
  · subst hl
    have q0 : ((n : Int) != n) = false := by simp
    have X0 := Lib.hid (Ext.refl w)
    go_enter Tryd.func30, Tryd.ntmps30
    go_wp2
    go_loopg [5, 13] n (fun g _ iv wr => ∃ i : Nat, g + i = n ∧ iv = .int .i64 i ∧ Hid (Ext w wr ∧ ∀ j, j < i → qi l j = qi m j))
    case atStart => exact ⟨0, by omega, rfl, Lib.hid ⟨X0.out, fun j hj => absurd hj (Nat.not_lt_zero _)⟩⟩
    case round =>
      obtain ⟨i, hgi, rfl, G⟩ := hrel
      have Hgi := Lib.hid hgi
      by_cases hlt : i < n
      · have f1 : (i : Int) < n := by omega
        have f2 : (0 : Int) ≤ i := by omega
        clear hgi
        obtain ⟨b1, o1, rfl, hP⟩ := HA.out i hlt
        obtain ⟨b2, o2, rfl, hQ⟩ := HA'.out i hlt
        obtain ⟨x, hx⟩ : ∃ x, x = qi l i := ⟨_, rfl⟩
        obtain ⟨y, hy⟩ : ∃ y, y = qi m i := ⟨_, rfl⟩
        rw [← hx] at hP
        rw [← hy] at hQ
        have HP := Lib.hid (hP.ext G.out.1); have HQ := Lib.hid (hQ.ext G.out.1)
        have Hxy := Lib.hid (And.intro hx hy)
        have HNe := Lib.hid (show x ≠ y → R = false from fun e => by
          rw [HR.out]; exact decide_eq_false (fun k => e (by rw [Hxy.out.1, Hxy.out.2, k])))
        clear hP hQ hx hy
        by_cases h0 : x.id.y = y.id.y
        · skip
          by_cases h1 : x.id.n = y.id.n
          · skip
            by_cases h2 : x.f = y.f
            · skip
              by_cases h3 : x.d = y.d
              · skip
                have hxy : x = y := by
                  cases x; cases y
                  simp only [Ps.mk.injEq]
                  exact ⟨Nm.ext' h0 h1, h2, h3⟩
                clear h0 h1 h2 h3
                subst hxy
                obtain ⟨p0, p1, p2, p3⟩ := HP.out
                obtain ⟨q1, q2, q3, q4⟩ := HQ.out
                go_wp2
                go_quiet (fail)
                go_wp2
                go_roundg (n - (i + 1))
                case measure => have := Hgi.out; omega
                case rel => exact ⟨i + 1, by have := Hgi.out; omega, by go_num, Lib.hid ⟨G.out.1.trans (by (focus (repeat (first | (with_reducible exact Ext.refl _) | (with_reducible apply Ext.drew) | (with_reducible apply Ext.drewN) | (with_reducible apply Ext.alloc))))), fun j hj => by
                  by_cases e : j = i
                  · rw [e, ← Hxy.out.1, ← Hxy.out.2]
                  · exact G.out.2 j (by omega)⟩⟩
              · have hr := HNe.out (fun e => h3 (by rw [e]))
                subst hr
                have e0 : (x.id.y == y.id.y) = true := by rw [h0]; exact beq_self_eq_true _
                have e1 : (x.id.n == y.id.n) = true := by rw [h1]; exact beq_self_eq_true _
                have e2 : (x.f == y.f) = true := by rw [h2]; exact beq_self_eq_true _
                have e3 : (x.d == y.d) = false := beq_eq_false_iff_ne.2 h3
                obtain ⟨p0, p1, p2, p3⟩ := HP.out
                obtain ⟨q1, q2, q3, q4⟩ := HQ.out
                clear h0 h1 h2 h3
                go_wp2
                go_quiet (fail)
                go_wp2
                go_ret
                exact ⟨rfl, G.out.1.trans (by (focus (repeat (first | (with_reducible exact Ext.refl _) | (with_reducible apply Ext.drew) | (with_reducible apply Ext.drewN) | (with_reducible apply Ext.alloc)))))⟩
            · have hr := HNe.out (fun e => h2 (by rw [e]))
              subst hr
              have e0 : (x.id.y == y.id.y) = true := by rw [h0]; exact beq_self_eq_true _
              have e1 : (x.id.n == y.id.n) = true := by rw [h1]; exact beq_self_eq_true _
              have e2 : (x.f == y.f) = false := beq_eq_false_iff_ne.2 h2
              obtain ⟨p0, p1, p2, p3⟩ := HP.out
              obtain ⟨q1, q2, q3, q4⟩ := HQ.out
              clear h0 h1 h2
              go_wp2
              go_quiet (fail)
              go_wp2
              go_ret
              exact ⟨rfl, G.out.1.trans (by (focus (repeat (first | (with_reducible exact Ext.refl _) | (with_reducible apply Ext.drew) | (with_reducible apply Ext.drewN) | (with_reducible apply Ext.alloc)))))⟩
          · have hr := HNe.out (fun e => h1 (by rw [e]))
            subst hr
            have e0 : (x.id.y == y.id.y) = true := by rw [h0]; exact beq_self_eq_true _
            have e1 : (x.id.n == y.id.n) = false := beq_eq_false_iff_ne.2 h1
            obtain ⟨p0, p1, p2, p3⟩ := HP.out
            obtain ⟨q1, q2, q3, q4⟩ := HQ.out
            clear h0 h1
            go_wp2
            go_quiet (fail)
            go_wp2
            go_ret
            exact ⟨rfl, G.out.1.trans (by (focus (repeat (first | (with_reducible exact Ext.refl _) | (with_reducible apply Ext.drew) | (with_reducible apply Ext.drewN) | (with_reducible apply Ext.alloc)))))⟩
        · have hr := HNe.out (fun e => h0 (by rw [e]))
          subst hr
          have e0 : (x.id.y == y.id.y) = false := beq_eq_false_iff_ne.2 h0
          obtain ⟨p0, p1, p2, p3⟩ := HP.out
          obtain ⟨q1, q2, q3, q4⟩ := HQ.out
          clear h0
          go_wp2
          go_quiet (fail)
          go_wp2
          go_ret
          exact ⟨rfl, G.out.1.trans (by (focus (repeat (first | (with_reducible exact Ext.refl _) | (with_reducible apply Ext.drew) | (with_reducible apply Ext.drewN) | (with_reducible apply Ext.alloc)))))⟩
      · have f1 : ¬ (i : Int) < n := by omega
        have hr : R = true := by
          rw [HR.out]
          refine decide_eq_true (getD_ext Ps.zero (by have := Hn.out; omega) fun j hj => G.out.2 j (by have := Hn.out; omega))
        subst hr
        clear hgi
        go_wp2
        go_ret
        exact ⟨rfl, G.out.1⟩
  · have q0 : ((n : Int) != n') = true := by simp; omega
    have hr : R = false := by
      rw [HR.out]; exact decide_eq_false (fun e => hl (by have := Hn.out; rw [this.1, this.2, e]))
    subst hr
    have X0 := Lib.hid (Ext.refl w)
    clear hl
    go_enter Tryd.func30, Tryd.ntmps30
    go_wp2
    go_ret
    exact ⟨rfl, X0.out⟩
set_option maxHeartbeats 8000000 in
theorem EqX_calls (u v : Value) (c d : Nat) (l m : List Xg) (w : World) (h : XL w u c l) (k : XL w v d m) :
    Calls Tryd.prog 34 #[u, v] w fun e w' => e = .returned (.bool (decide (l = m))) ∧ Ext w w' := by
  obtain ⟨la, n, rfl, hn, hnc, hc9, hat⟩ := h.open
  obtain ⟨ma, n', rfl, hn', hnc', hc9', hat'⟩ := k.open
  obtain ⟨R, hR⟩ : ∃ R, R = decide (l = m) := ⟨_, rfl⟩
  rw [← hR]
  have HR := Lib.hid hR; have Hn := Lib.hid (And.intro hn hn'); have HA := Lib.hid hat; have HA' := Lib.hid hat'
  clear hR hn hn' hat hat' h k
  by_cases hl : n = n'
  · subst hl
    have q0 : ((n : Int) != n) = false := by simp
    have X0 := Lib.hid (Ext.refl w)
    go_enter Tryd.func34, Tryd.ntmps34
    go_wp2
    go_loopg [5, 13] n (fun g _ iv wr => ∃ i : Nat, g + i = n ∧ iv = .int .i64 i ∧ Hid (Ext w wr ∧ ∀ j, j < i → xi l j = xi m j))
    case atStart => exact ⟨0, by omega, rfl, Lib.hid ⟨X0.out, fun j hj => absurd hj (Nat.not_lt_zero _)⟩⟩
    case round =>
      obtain ⟨i, hgi, rfl, G⟩ := hrel
      have Hgi := Lib.hid hgi
      by_cases hlt : i < n
      · have f1 : (i : Int) < n := by omega
        have f2 : (0 : Int) ≤ i := by omega
        clear hgi
        obtain ⟨b1, o1, rfl, hP⟩ := HA.out i hlt
        obtain ⟨b2, o2, rfl, hQ⟩ := HA'.out i hlt
        obtain ⟨x, hx⟩ : ∃ x, x = xi l i := ⟨_, rfl⟩
        obtain ⟨y, hy⟩ : ∃ y, y = xi m i := ⟨_, rfl⟩
        rw [← hx] at hP
        rw [← hy] at hQ
        have HP := Lib.hid (hP.ext G.out.1); have HQ := Lib.hid (hQ.ext G.out.1)
        have Hxy := Lib.hid (And.intro hx hy)
        have HNe := Lib.hid (show x ≠ y → R = false from fun e => by
          rw [HR.out]; exact decide_eq_false (fun k => e (by rw [Hxy.out.1, Hxy.out.2, k])))
        clear hP hQ hx hy
        by_cases h0 : x.a.y = y.a.y
        · skip
          by_cases h1 : x.a.n = y.a.n
          · skip
            by_cases h2 : x.b.y = y.b.y
            · skip
              by_cases h3 : x.b.n = y.b.n
              · skip
                by_cases h4 : x.n = y.n
                · skip
                  have hxy : x = y := by
                    cases x; cases y
                    simp only [Xg.mk.injEq]
                    exact ⟨Nm.ext' h0 h1, Nm.ext' h2 h3, h4⟩
                  clear h0 h1 h2 h3 h4
                  subst hxy
                  obtain ⟨p0, p1, p2, p3, p4⟩ := HP.out
                  obtain ⟨q1, q2, q3, q4, q5⟩ := HQ.out
                  go_wp2
                  go_quiet (fail)
                  go_wp2
                  go_roundg (n - (i + 1))
                  case measure => have := Hgi.out; omega
                  case rel => exact ⟨i + 1, by have := Hgi.out; omega, by go_num, Lib.hid ⟨G.out.1.trans (by (focus (repeat (first | (with_reducible exact Ext.refl _) | (with_reducible apply Ext.drew) | (with_reducible apply Ext.drewN) | (with_reducible apply Ext.alloc))))), fun j hj => by
                    by_cases e : j = i
                    · rw [e, ← Hxy.out.1, ← Hxy.out.2]
                    · exact G.out.2 j (by omega)⟩⟩
                · have hr := HNe.out (fun e => h4 (by rw [e]))
                  subst hr
                  have e0 : (x.a.y == y.a.y) = true := by rw [h0]; exact beq_self_eq_true _
                  have e1 : (x.a.n == y.a.n) = true := by rw [h1]; exact beq_self_eq_true _
                  have e2 : (x.b.y == y.b.y) = true := by rw [h2]; exact beq_self_eq_true _
                  have e3 : (x.b.n == y.b.n) = true := by rw [h3]; exact beq_self_eq_true _
                  have e4 : (x.n == y.n) = false := beq_eq_false_iff_ne.2 h4
                  obtain ⟨p0, p1, p2, p3, p4⟩ := HP.out
                  obtain ⟨q1, q2, q3, q4, q5⟩ := HQ.out
                  clear h0 h1 h2 h3 h4
                  go_wp2
                  go_quiet (fail)
                  go_wp2
                  go_ret
                  exact ⟨rfl, G.out.1.trans (by (focus (repeat (first | (with_reducible exact Ext.refl _) | (with_reducible apply Ext.drew) | (with_reducible apply Ext.drewN) | (with_reducible apply Ext.alloc)))))⟩
              · have hr := HNe.out (fun e => h3 (by rw [e]))
                subst hr
                have e0 : (x.a.y == y.a.y) = true := by rw [h0]; exact beq_self_eq_true _
                have e1 : (x.a.n == y.a.n) = true := by rw [h1]; exact beq_self_eq_true _
                have e2 : (x.b.y == y.b.y) = true := by rw [h2]; exact beq_self_eq_true _
                have e3 : (x.b.n == y.b.n) = false := beq_eq_false_iff_ne.2 h3
                obtain ⟨p0, p1, p2, p3, p4⟩ := HP.out
                obtain ⟨q1, q2, q3, q4, q5⟩ := HQ.out
                clear h0 h1 h2 h3
                go_wp2
                go_quiet (fail)
                go_wp2
                go_ret
                exact ⟨rfl, G.out.1.trans (by (focus (repeat (first | (with_reducible exact Ext.refl _) | (with_reducible apply Ext.drew) | (with_reducible apply Ext.drewN) | (with_reducible apply Ext.alloc)))))⟩
            · have hr := HNe.out (fun e => h2 (by rw [e]))
              subst hr
              have e0 : (x.a.y == y.a.y) = true := by rw [h0]; exact beq_self_eq_true _
              have e1 : (x.a.n == y.a.n) = true := by rw [h1]; exact beq_self_eq_true _
              have e2 : (x.b.y == y.b.y) = false := beq_eq_false_iff_ne.2 h2
              obtain ⟨p0, p1, p2, p3, p4⟩ := HP.out
              obtain ⟨q1, q2, q3, q4, q5⟩ := HQ.out
              clear h0 h1 h2
              go_wp2
              go_quiet (fail)
              go_wp2
              go_ret
              exact ⟨rfl, G.out.1.trans (by (focus (repeat (first | (with_reducible exact Ext.refl _) | (with_reducible apply Ext.drew) | (with_reducible apply Ext.drewN) | (with_reducible apply Ext.alloc)))))⟩
          · have hr := HNe.out (fun e => h1 (by rw [e]))
            subst hr
            have e0 : (x.a.y == y.a.y) = true := by rw [h0]; exact beq_self_eq_true _
            have e1 : (x.a.n == y.a.n) = false := beq_eq_false_iff_ne.2 h1
            obtain ⟨p0, p1, p2, p3, p4⟩ := HP.out
            obtain ⟨q1, q2, q3, q4, q5⟩ := HQ.out
            clear h0 h1
            go_wp2
            go_quiet (fail)
            go_wp2
            go_ret
            exact ⟨rfl, G.out.1.trans (by (focus (repeat (first | (with_reducible exact Ext.refl _) | (with_reducible apply Ext.drew) | (with_reducible apply Ext.drewN) | (with_reducible apply Ext.alloc)))))⟩
        · have hr := HNe.out (fun e => h0 (by rw [e]))
          subst hr
          have e0 : (x.a.y == y.a.y) = false := beq_eq_false_iff_ne.2 h0
          obtain ⟨p0, p1, p2, p3, p4⟩ := HP.out
          obtain ⟨q1, q2, q3, q4, q5⟩ := HQ.out
          clear h0
          go_wp2
          go_quiet (fail)
          go_wp2
          go_ret
          exact ⟨rfl, G.out.1.trans (by (focus (repeat (first | (with_reducible exact Ext.refl _) | (with_reducible apply Ext.drew) | (with_reducible apply Ext.drewN) | (with_reducible apply Ext.alloc)))))⟩
      · have f1 : ¬ (i : Int) < n := by omega
        have hr : R = true := by
          rw [HR.out]
          refine decide_eq_true (getD_ext Xg.zero (by have := Hn.out; omega) fun j hj => G.out.2 j (by have := Hn.out; omega))
        subst hr
        clear hgi
        go_wp2
        go_ret
        exact ⟨rfl, G.out.1⟩
  · have q0 : ((n : Int) != n') = true := by simp; omega
    have hr : R = false := by
      rw [HR.out]; exact decide_eq_false (fun e => hl (by have := Hn.out; rw [this.1, this.2, e]))
    subst hr
    have X0 := Lib.hid (Ext.refl w)
    clear hl
    go_enter Tryd.func34, Tryd.ntmps34
    go_wp2
    go_ret
    exact ⟨rfl, X0.out⟩
set_option maxHeartbeats 8000000 in
theorem Same1_calls (l m : Lp) (u1 u2 v1 v2 : Value) (c1 c2 d1 d2 : Nat) (w : World) (h1 : NL w u1 c1 l.thr) (h2 : PL w u2 c2 l.past) (k1 : NL w v1 d1 m.thr) (k2 : PL w v2 d2 m.past) :
    Calls Tryd.prog 28 #[.agg #[.int .u8 l.bed, .bool l.new, u1, u2], .agg #[.int .u8 m.bed, .bool m.new, v1, v2]] w fun e w' => e = .returned (.bool (decide (l = m))) ∧ Ext w w' := by
  have HE1 := Lib.hid (fun w' (x : Ext w w') => EqN_calls u1 v1 c1 d1 l.thr m.thr w' (h1.ext x) (k1.ext x))
  have HE2 := Lib.hid (fun w' (x : Ext w w') => EqP_calls u2 v2 c2 d2 l.past m.past w' (h2.ext x) (k2.ext x))
  obtain ⟨a1, n1, rfl, -⟩ := h1.open
  obtain ⟨a2, n2, rfl, -⟩ := h2.open
  obtain ⟨a3, n3, rfl, -⟩ := k1.open
  obtain ⟨a4, n4, rfl, -⟩ := k2.open
  obtain ⟨W, hW⟩ : ∃ W, W = (w.alloc (.cells #[.int .u8 l.bed, .bool l.new, .slice a1 n1 c1, .slice a2 n2 c2] 46)).alloc (.cells #[.int .u8 m.bed, .bool m.new, .slice a3 n3 d1, .slice a4 n4 d2] 46) := ⟨_, rfl⟩
  have XW := Lib.hid (show Ext w W by rw [hW]; exact ((Ext.refl _).alloc _).alloc _)
  have HB1 := Lib.hid (show B4 W w.heap.size (.int .u8 l.bed) (.bool l.new) (.slice a1 n1 c1) (.slice a2 n2 c2) 46 by rw [hW]; exact (B4.new _ _ _ _ _ _).ext ((Ext.refl _).alloc _))
  have HB2 := Lib.hid (show B4 W (w.heap.size + 1) (.int .u8 m.bed) (.bool m.new) (.slice a3 n3 d1) (.slice a4 n4 d2) 46 by rw [hW]; have := B4.new (w.alloc (.cells #[.int .u8 l.bed, .bool l.new, .slice a1 n1 c1, .slice a2 n2 c2] 46)) (.int .u8 m.bed) (.bool m.new) (.slice a3 n3 d1) (.slice a4 n4 d2) 46; simpa using this)
  obtain ⟨R, hR⟩ : ∃ R, R = decide (l = m) := ⟨_, rfl⟩
  rw [← hR]
  have hRe : R = (decide (l.bed = m.bed) && (decide (l.new = m.new) && (decide (l.thr = m.thr) && decide (l.past = m.past)))) := by
    rw [hR, Bool.eq_iff_iff]
    simp only [Bool.and_eq_true, decide_eq_true_eq]
    constructor
    · rintro rfl; exact ⟨rfl, rfl, rfl, rfl⟩
    · rintro ⟨e1, e2, e3, e4⟩; cases l; cases m; simp_all
  have HR := Lib.hid hRe; have HW := Lib.hid hW
  clear h1 h2 k1 k2 hR hRe hW
  obtain ⟨p0, p1, p2, p3⟩ := B4.cells HB1.out
  obtain ⟨q0, q1, q2, q3⟩ := B4.cells HB2.out
  rw [HW.out] at p0 p1 p2 p3 q0 q1 q2 q3
  go_enter Tryd.func28, Tryd.ntmps28
  by_cases hb : l.bed = m.bed
  · have e1 : (l.bed == m.bed) = true := by rw [hb]; exact beq_self_eq_true _
    by_cases hn : l.new = m.new
    · have e2 : (l.new == m.new) = true := by rw [hn]; exact beq_self_eq_true _
      have hR2 : R = (decide (l.thr = m.thr) && decide (l.past = m.past)) := by rw [HR.out, decide_eq_true hb, decide_eq_true hn]; rfl
      have HR2 := Lib.hid hR2
      clear hb hn hR2
      go_wp2_with fail
      rw [← HW.out]
      clear p0 p1 p2 p3 q0 q1 q2 q3
      refine (HE1.out W XW.out).mono ?_
      rintro e w2 ⟨rfl, x2⟩
      have X2 := Lib.hid (XW.out.trans x2)
      obtain ⟨p0, p1, p2, p3⟩ := B4.cells (HB1.out.ext x2)
      obtain ⟨q0, q1, q2, q3⟩ := B4.cells (HB2.out.ext x2)
      clear x2
      by_cases ht : l.thr = m.thr
      · have hR3 : R = decide (l.past = m.past) := by rw [HR2.out, decide_eq_true ht]; rfl
        have HR3 := Lib.hid hR3
        rw [decide_eq_true ht]
        clear ht hR3
        go_wp2_with fail
        clear p0 p1 p2 p3 q0 q1 q2 q3
        refine (HE2.out w2 X2.out).mono ?_
        rintro e w3 ⟨rfl, x3⟩
        have X3 := Lib.hid (X2.out.trans x3)
        rw [← HR3.out]
        clear x3
        go_wp2
        go_ret
        exact ⟨rfl, X3.out⟩
      · have hR3 : R = false := by rw [HR2.out, decide_eq_false ht]; rfl
        rw [decide_eq_false ht]
        subst hR3
        clear ht
        go_wp2
        go_ret
        exact ⟨rfl, X2.out⟩
    · have e2 : (l.new == m.new) = false := beq_eq_false_iff_ne.2 hn
      have hR3 : R = false := by rw [HR.out, decide_eq_false hn]; simp
      subst hR3
      clear hb hn
      go_wp2
      rw [← HW.out]
      go_ret
      exact ⟨rfl, XW.out⟩
  · have e1 : (l.bed == m.bed) = false := beq_eq_false_iff_ne.2 hb
    have hR3 : R = false := by rw [HR.out, decide_eq_false hb]; simp
    subst hR3
    clear hb
    go_wp2
    rw [← HW.out]
    go_ret
    exact ⟨rfl, XW.out⟩
end Go.Proofs.YtlhkehfplcclgaaDoor
/- Same: rows, tables, fabrics. -/
namespace Go.Proofs.YtlhkehfplcclgaaDoor
set_option linter.unusedVariables false
set_option linter.unusedSimpArgs false
set_option maxRecDepth 8000
open Go Go.RowKit

theorem cell_blk' {w : World} {g o : Nat} {cs : Array Value} {t : TypeId} {v : Value} (h : w.heap[g]? = some (.cells cs t (0, 0))) (hv : cs[o]? = some v) : w.cell? ⟨g, o, none⟩ = some v := by simp [World.cell?, h, hv]
set_option maxHeartbeats 8000000 in
theorem SameR_calls (u v : Value) (c d : Nat) (l m : List Lp) (w : World) (h : LR w u c l) (k : LR w v d m) :
    Calls Tryd.prog 32 #[u, v, .func (Fn.func 28) #[] #[]] w fun e w' => e = .returned (.bool (decide (l = m))) ∧ Ext w w' := by
  obtain ⟨la, n, rfl, hn, hnc, hc9, hat⟩ := h.open
  obtain ⟨ma, n', rfl, hn', hnc', hc9', hat'⟩ := k.open
  obtain ⟨R, hR⟩ : ∃ R, R = decide (l = m) := ⟨_, rfl⟩
  rw [← hR]
  have HR := Lib.hid hR; have Hn := Lib.hid (And.intro hn hn'); have HA := Lib.hid hat; have HA' := Lib.hid hat'
  clear hR hn hn' hat hat' h k
  by_cases hl : n = n'
  · subst hl
    have q0 : ((n : Int) != n) = false := by simp
    have X0 := Lib.hid (Ext.refl w)
    go_enter Tryd.func32, Tryd.ntmps32
    go_wp2
    go_loopg [7, 8, 9, 17] n (fun g _ _ _ iv wr => ∃ i : Nat, g + i = n ∧ iv = .int .i64 i ∧ Hid (Ext w wr ∧ ∀ j, j < i → li l j = li m j))
    case atStart => exact ⟨0, by omega, rfl, Lib.hid ⟨X0.out, fun j hj => absurd hj (Nat.not_lt_zero _)⟩⟩
    case round =>
      obtain ⟨i, hgi, rfl, G⟩ := hrel
      have Hgi := Lib.hid hgi
      by_cases hlt : i < n
      · have f1 : (i : Int) < n := by omega
        have f2 : (0 : Int) ≤ i := by omega
        clear hgi
        obtain ⟨b1, o1, x1, s1, t1, x2, s2, t2, rfl, hP, -, -, hN1, hP1⟩ := HA.out i hlt
        obtain ⟨b2, o2, y1, z1, v1, y2, z2, v2, rfl, hQ, -, -, hN2, hP2⟩ := HA'.out i hlt
        obtain ⟨x, hx⟩ : ∃ x, x = li l i := ⟨_, rfl⟩
        obtain ⟨y, hy⟩ : ∃ y, y = li m i := ⟨_, rfl⟩
        rw [← hx] at hP hN1 hP1
        rw [← hy] at hQ hN2 hP2
        have HSm := Lib.hid (fun w' (e : Ext w w') => Same1_calls x y _ _ _ _ _ _ _ _ w' (hN1.ext e) (hP1.ext e) (hN2.ext e) (hP2.ext e))
        have Hxy := Lib.hid (And.intro hx hy)
        obtain ⟨p0, p1, p2, p3⟩ := hP.ext G.out.1
        have HQ := Lib.hid (fun w' (e : Ext w w') => hQ.ext e)
        obtain ⟨q0, q1, q2, q3⟩ := HQ.out _ G.out.1
        have l2 : b2 < wr.heap.size := World.block_lt_of_cell? wr ⟨b2, _, none⟩ q0
        clear hP hQ hx hy hN1 hP1 hN2 hP2
        go_wp2_with fail
        refine (HSm.out _ (G.out.1.trans (by (focus (repeat (first | (with_reducible exact Ext.refl _) | (with_reducible apply Ext.drew) | (with_reducible apply Ext.drewN) | (with_reducible apply Ext.alloc))))))).mono ?_
        rintro e w3 ⟨rfl, x3⟩
        have X3 : Hid (Ext w w3) := Lib.hid (G.out.1.trans (Ext.trans (by (focus (repeat (first | (with_reducible exact Ext.refl _) | (with_reducible apply Ext.drew) | (with_reducible apply Ext.drewN) | (with_reducible apply Ext.alloc))))) x3))
        clear x3 p0 p1 p2 p3 q0 q1 q2 q3 l2
        by_cases hxy : x = y
        · rw [decide_eq_true hxy]
          have HNx := Lib.hid (show ∀ j, j < i + 1 → li l j = li m j from fun j hj => by
            by_cases e : j = i
            · rw [e, ← Hxy.out.1, ← Hxy.out.2]; exact hxy
            · exact G.out.2 j (by omega))
          clear hxy
          go_wp2
          go_roundg (n - (i + 1))
          case measure => have := Hgi.out; omega
          case rel => exact ⟨i + 1, by have := Hgi.out; omega, by go_num, Lib.hid ⟨X3.out, HNx.out⟩⟩
        · rw [decide_eq_false hxy]
          have hr : R = false := by
            rw [HR.out]; exact decide_eq_false (fun k => hxy (by rw [Hxy.out.1, Hxy.out.2, k]))
          subst hr
          clear hxy
          go_wp2
          go_ret
          exact ⟨rfl, X3.out⟩
      · have f1 : ¬ (i : Int) < n := by omega
        have hr : R = true := by
          rw [HR.out]
          refine decide_eq_true (getD_ext Lp.zero (by have := Hn.out; omega) fun j hj => G.out.2 j (by have := Hn.out; omega))
        subst hr
        clear hgi
        go_wp2
        go_ret
        exact ⟨rfl, G.out.1⟩
  · have q0 : ((n : Int) != n') = true := by simp; omega
    have hr : R = false := by
      rw [HR.out]; exact decide_eq_false (fun e => hl (by have := Hn.out; rw [this.1, this.2, e]))
    subst hr
    have X0 := Lib.hid (Ext.refl w)
    clear hl
    go_enter Tryd.func32, Tryd.ntmps32
    go_wp2
    go_ret
    exact ⟨rfl, X0.out⟩
set_option maxHeartbeats 8000000 in
theorem Same2_calls (u v : Value) (c d g : Nat) (l m : List Lp) (w : World) (h : LR w u c l) (k : LR w v d m) (hg : w.cell? ⟨g, 0, none⟩ = some (.func (Fn.func 28) #[] #[])) :
    Calls Tryd.prog 31 #[u, v, .pointer (some ⟨g, 0, none⟩)] w fun e w' => e = .returned (.bool (decide (l = m))) ∧ Ext w w' := by
  have HS := Lib.hid (SameR_calls u v c d l m w h k)
  clear h k
  go_enter Tryd.func31, Tryd.ntmps31
  go_wp2_with fail
  refine HS.out.mono ?_
  rintro e w2 ⟨rfl, x2⟩
  have X2 := Lib.hid x2
  clear x2
  go_wp2
  go_ret
  exact ⟨rfl, X2.out⟩
set_option maxHeartbeats 8000000 in
theorem SameT_calls (u v : Value) (c d g : Nat) (l m : Tab) (w : World) (h : TB w u c l) (k : TB w v d m) (hg : w.cell? ⟨g, 0, none⟩ = some (.func (Fn.func 28) #[] #[])) :
    Calls Tryd.prog 33 #[u, v, .func (Fn.func 31) #[] #[.pointer (some ⟨g, 0, none⟩)]] w fun e w' => e = .returned (.bool (decide (l = m))) ∧ Ext w w' := by
  obtain ⟨la, n, rfl, hn, hnc, hc9, hat⟩ := h.open
  obtain ⟨ma, n', rfl, hn', hnc', hc9', hat'⟩ := k.open
  obtain ⟨R, hR⟩ : ∃ R, R = decide (l = m) := ⟨_, rfl⟩
  rw [← hR]
  have HR := Lib.hid hR; have Hn := Lib.hid (And.intro hn hn'); have HA := Lib.hid hat; have HA' := Lib.hid hat'; have Hg := Lib.hid hg
  clear hR hn hn' hat hat' h k hg
  by_cases hl : n = n'
  · subst hl
    have q0 : ((n : Int) != n) = false := by simp
    have X0 := Lib.hid (Ext.refl w)
    go_enter Tryd.func33, Tryd.ntmps33
    go_wp2
    go_loopg [7, 8, 9, 17] n (fun g _ _ _ iv wr => ∃ i : Nat, g + i = n ∧ iv = .int .i64 i ∧ Hid (Ext w wr ∧ ∀ j, j < i → yi l j = yi m j))
    case atStart => exact ⟨0, by omega, rfl, Lib.hid ⟨X0.out, fun j hj => absurd hj (Nat.not_lt_zero _)⟩⟩
    case round =>
      obtain ⟨i, hgi, rfl, G⟩ := hrel
      have Hgi := Lib.hid hgi
      by_cases hlt : i < n
      · have f1 : (i : Int) < n := by omega
        have f2 : (0 : Int) ≤ i := by omega
        clear hgi
        obtain ⟨b1, o1, x1, s1, t1, rfl, hP, -, hN1⟩ := HA.out i hlt
        obtain ⟨b2, o2, y1, z1, v1, rfl, hQ, -, hN2⟩ := HA'.out i hlt
        obtain ⟨x, hx⟩ : ∃ x, x = yi l i := ⟨_, rfl⟩
        obtain ⟨y, hy⟩ : ∃ y, y = yi m i := ⟨_, rfl⟩
        rw [← hx] at hN1
        rw [← hy] at hN2
        have HSm := Lib.hid (fun w' (e : Ext w w') => Same2_calls _ _ _ _ g x y w' (hN1.ext e) (hN2.ext e) (e.cell Hg.out))
        have Hxy := Lib.hid (And.intro hx hy)
        have p0 := G.out.1.cell hP
        have q1 := G.out.1.cell hQ
        clear hP hQ hx hy hN1 hN2
        go_wp2_with fail
        refine (HSm.out _ G.out.1).mono ?_
        rintro e w3 ⟨rfl, x3⟩
        have X3 : Hid (Ext w w3) := Lib.hid (G.out.1.trans x3)
        clear x3 p0 q1
        by_cases hxy : x = y
        · rw [decide_eq_true hxy]
          have HNx := Lib.hid (show ∀ j, j < i + 1 → yi l j = yi m j from fun j hj => by
            by_cases e : j = i
            · rw [e, ← Hxy.out.1, ← Hxy.out.2]; exact hxy
            · exact G.out.2 j (by omega))
          clear hxy
          go_wp2
          go_roundg (n - (i + 1))
          case measure => have := Hgi.out; omega
          case rel => exact ⟨i + 1, by have := Hgi.out; omega, by go_num, Lib.hid ⟨X3.out, HNx.out⟩⟩
        · rw [decide_eq_false hxy]
          have hr : R = false := by
            rw [HR.out]; exact decide_eq_false (fun k => hxy (by rw [Hxy.out.1, Hxy.out.2, k]))
          subst hr
          clear hxy
          go_wp2
          go_ret
          exact ⟨rfl, X3.out⟩
      · have f1 : ¬ (i : Int) < n := by omega
        have hr : R = true := by
          rw [HR.out]
          refine decide_eq_true (getD_ext [] (by have := Hn.out; omega) fun j hj => G.out.2 j (by have := Hn.out; omega))
        subst hr
        clear hgi
        go_wp2
        go_ret
        exact ⟨rfl, G.out.1⟩
  · have q0 : ((n : Int) != n') = true := by simp; omega
    have hr : R = false := by
      rw [HR.out]; exact decide_eq_false (fun e => hl (by have := Hn.out; rw [this.1, this.2, e]))
    subst hr
    have X0 := Lib.hid (Ext.refl w)
    clear hl
    go_enter Tryd.func33, Tryd.ntmps33
    go_wp2
    go_ret
    exact ⟨rfl, X0.out⟩
set_option maxHeartbeats 8000000 in
theorem Same_calls (t1 c1 h1 f1 t2 c2 h2 f2 : Value) (f g : Fab) (w : World) (h : FB w t1 c1 h1 f1 f) (k : FB w t2 c2 h2 f2 g) :
    Calls Tryd.prog 11 #[.agg #[t1, c1, h1, f1], .agg #[t2, c2, h2, f2]] w fun e w' => e = .returned (.bool (decide (f = g))) ∧ Ext w w' := by
  obtain ⟨d1, hT1⟩ := h.t; obtain ⟨d2, hC1⟩ := h.c; obtain ⟨d3, hH1⟩ := h.h; obtain ⟨d4, hF1⟩ := h.f
  obtain ⟨e1, hT2⟩ := k.t; obtain ⟨e2, hC2⟩ := k.c; obtain ⟨e3, hH2⟩ := k.h; obtain ⟨e4, hF2⟩ := k.f
  have HT := Lib.hid (fun w' (x : Ext w w') gg hg => SameT_calls t1 t2 d1 e1 gg f.ys g.ys w' (hT1.ext x) (hT2.ext x) hg)
  have HC := Lib.hid (fun w' (x : Ext w w') => EqX_calls c1 c2 d2 e2 f.cr g.cr w' (hC1.ext x) (hC2.ext x))
  have HH := Lib.hid (fun w' (x : Ext w w') => EqN_calls h1 h2 d3 e3 f.held g.held w' (hH1.ext x) (hH2.ext x))
  have HF := Lib.hid (fun w' (x : Ext w w') => EqN_calls f1 f2 d4 e4 f.fallen g.fallen w' (hF1.ext x) (hF2.ext x))
  obtain ⟨a1, n1, rfl, -⟩ := hT1.open; obtain ⟨a2, n2, rfl, -⟩ := hC1.open; obtain ⟨a3, n3, rfl, -⟩ := hH1.open; obtain ⟨a4, n4, rfl, -⟩ := hF1.open
  obtain ⟨b1, m1, rfl, -⟩ := hT2.open; obtain ⟨b2, m2, rfl, -⟩ := hC2.open; obtain ⟨b3, m3, rfl, -⟩ := hH2.open; obtain ⟨b4, m4, rfl, -⟩ := hF2.open
  obtain ⟨W, hW⟩ : ∃ W, W = (w.alloc (.cells #[.slice a1 n1 d1, .slice a2 n2 d2, .slice a3 n3 d3, .slice a4 n4 d4] 35)).alloc (.cells #[.slice b1 m1 e1, .slice b2 m2 e2, .slice b3 m3 e3, .slice b4 m4 e4] 35) := ⟨_, rfl⟩
  have hB1 : B4 W w.heap.size (.slice a1 n1 d1) (.slice a2 n2 d2) (.slice a3 n3 d3) (.slice a4 n4 d4) 35 := by rw [hW]; exact (B4.new _ _ _ _ _ _).ext ((Ext.refl _).alloc _)
  have hB2 : B4 W (w.heap.size + 1) (.slice b1 m1 e1) (.slice b2 m2 e2) (.slice b3 m3 e3) (.slice b4 m4 e4) 35 := by rw [hW]; have := B4.new (w.alloc (.cells #[.slice a1 n1 d1, .slice a2 n2 d2, .slice a3 n3 d3, .slice a4 n4 d4] 35)) (.slice b1 m1 e1) (.slice b2 m2 e2) (.slice b3 m3 e3) (.slice b4 m4 e4) 35; simpa using this
  have HW := Lib.hid hW
  have XW := Lib.hid (show Ext w W by rw [hW]; exact ((Ext.refl _).alloc _).alloc _)
  have HsW := Lib.hid (show W.heap.size = w.heap.size + 1 + 1 by rw [hW]; simp)
  have HB1 := Lib.hid hB1; have HB2 := Lib.hid hB2
  obtain ⟨R, hR⟩ : ∃ R, R = decide (f = g) := ⟨_, rfl⟩
  rw [← hR]
  have hRe : R = (decide (f.ys = g.ys) && (decide (f.cr = g.cr) && (decide (f.held = g.held) && decide (f.fallen = g.fallen)))) := by
    rw [hR, Bool.eq_iff_iff]
    simp only [Bool.and_eq_true, decide_eq_true_eq]
    constructor
    · rintro rfl; exact ⟨rfl, rfl, rfl, rfl⟩
    · rintro ⟨e1, e2, e3, e4⟩; cases f; cases g; simp_all
  have HR := Lib.hid hRe
  clear h k hT1 hC1 hH1 hF1 hT2 hC2 hH2 hF2 hR hRe hW hB1 hB2
  go_enter Tryd.func11, Tryd.ntmps11
  go_upto_region 3 with fail
  rw [← HW.out]
  rw [← HsW.out]
  have hS : ∀ ty, Ext w (W.alloc (.cells #[.func (Fn.func 28) #[] #[]] ty)) ∧ B4 (W.alloc (.cells #[.func (Fn.func 28) #[] #[]] ty)) w.heap.size (.slice a1 n1 d1) (.slice a2 n2 d2) (.slice a3 n3 d3) (.slice a4 n4 d4) 35 ∧ B4 (W.alloc (.cells #[.func (Fn.func 28) #[] #[]] ty)) (w.heap.size + 1) (.slice b1 m1 e1) (.slice b2 m2 e2) (.slice b3 m3 e3) (.slice b4 m4 e4) 35 ∧ (W.alloc (.cells #[.func (Fn.func 28) #[] #[]] ty)).cell? ⟨W.heap.size, 0, none⟩ = some (.func (Fn.func 28) #[] #[]) := fun ty =>
    ⟨XW.out.trans ((Ext.refl _).alloc _), HB1.out.ext ((Ext.refl _).alloc _), HB2.out.ext ((Ext.refl _).alloc _), cell_blk' (Deep.blk_alloc_new W _) rfl⟩
  have HS := Lib.hid hS
  clear hS
  have H4 := HS.out 79
  generalize W.alloc (.cells #[.func (Fn.func 28) #[] #[]] 79) = WS at H4 ⊢
  have HWS := Lib.hid H4
  clear H4
  obtain ⟨p0, p1, p2, p3⟩ := B4.cells HWS.out.2.1
  obtain ⟨q0, q1, q2, q3⟩ := B4.cells HWS.out.2.2.1
  go_wp2_with fail
  clear p0 p1 p2 p3 q0 q1 q2 q3
  refine (HT.out WS HWS.out.1 W.heap.size HWS.out.2.2.2).mono ?_
  rintro e w2 ⟨rfl, x2⟩
  have X2 := Lib.hid (HWS.out.1.trans x2)
  have HP2 := Lib.hid (HWS.out.2.1.ext x2); have HQ2 := Lib.hid (HWS.out.2.2.1.ext x2)
  clear x2
  obtain ⟨p0, p1, p2, p3⟩ := B4.cells HP2.out
  obtain ⟨q0, q1, q2, q3⟩ := B4.cells HQ2.out
  by_cases ht : f.ys = g.ys
  · have hR2 : R = (decide (f.cr = g.cr) && (decide (f.held = g.held) && decide (f.fallen = g.fallen))) := by rw [HR.out, decide_eq_true ht]; rfl
    have HR2 := Lib.hid hR2
    rw [decide_eq_true ht]
    clear ht hR2
    go_wp2_with fail
    clear p0 p1 p2 p3 q0 q1 q2 q3
    refine (HC.out w2 X2.out).mono ?_
    rintro e w3 ⟨rfl, x3⟩
    have X3 := Lib.hid (X2.out.trans x3)
    have HP3 := Lib.hid (HP2.out.ext x3); have HQ3 := Lib.hid (HQ2.out.ext x3)
    clear x3
    obtain ⟨p0, p1, p2, p3⟩ := B4.cells HP3.out
    obtain ⟨q0, q1, q2, q3⟩ := B4.cells HQ3.out
    by_cases hc : f.cr = g.cr
    · have hR3 : R = (decide (f.held = g.held) && decide (f.fallen = g.fallen)) := by rw [HR2.out, decide_eq_true hc]; rfl
      have HR3 := Lib.hid hR3
      rw [decide_eq_true hc]
      clear hc hR3
      go_wp2_with fail
      clear p0 p1 p2 p3 q0 q1 q2 q3
      refine (HH.out w3 X3.out).mono ?_
      rintro e w4 ⟨rfl, x4⟩
      have X4 := Lib.hid (X3.out.trans x4)
      have HP4 := Lib.hid (HP3.out.ext x4); have HQ4 := Lib.hid (HQ3.out.ext x4)
      clear x4
      obtain ⟨p0, p1, p2, p3⟩ := B4.cells HP4.out
      obtain ⟨q0, q1, q2, q3⟩ := B4.cells HQ4.out
      by_cases hh : f.held = g.held
      · have hR4 : R = decide (f.fallen = g.fallen) := by rw [HR3.out, decide_eq_true hh]; rfl
        have HR4 := Lib.hid hR4
        rw [decide_eq_true hh]
        clear hh hR4
        go_wp2_with fail
        clear p0 p1 p2 p3 q0 q1 q2 q3
        refine (HF.out w4 X4.out).mono ?_
        rintro e w5 ⟨rfl, x5⟩
        have X5 := Lib.hid (X4.out.trans x5)
        rw [← HR4.out]
        clear x5
        go_wp2
        go_ret
        exact ⟨rfl, X5.out⟩
      · have hR4 : R = false := by rw [HR3.out, decide_eq_false hh]; rfl
        rw [decide_eq_false hh]
        subst hR4
        clear hh
        go_wp2
        go_ret
        exact ⟨rfl, X4.out⟩
    · have hR4 : R = false := by rw [HR2.out, decide_eq_false hc]; rfl
      rw [decide_eq_false hc]
      subst hR4
      clear hc
      go_wp2
      go_ret
      exact ⟨rfl, X3.out⟩
  · have hR4 : R = false := by rw [HR.out, decide_eq_false ht]; rfl
    rw [decide_eq_false ht]
    subst hR4
    clear ht
    go_wp2
    go_ret
    exact ⟨rfl, X2.out⟩
end Go.Proofs.YtlhkehfplcclgaaDoor
