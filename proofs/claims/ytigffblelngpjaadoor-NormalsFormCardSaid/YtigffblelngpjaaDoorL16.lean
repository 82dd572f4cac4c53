/- Texts of this claim in one file: libraries and walks. -/
import Derived.Test.YtigffblelngpjaaDoorL2
import Derived.Test.YtigffblelngpjaaDoorL15
/- Contract of normals.gather. -/
namespace Go.Proofs.YtigffblelngpjaaDoor
set_option linter.unusedVariables false
set_option linter.unusedSimpArgs false
set_option maxRecDepth 8000
open Go Go.RowKit

/-- A normal form is returned. -/
def RetNm (n : Nat) (wb : World) (p : Int) (lsf : List (List Int)) (e : Ending) (w' : World) : Prop :=
  ∃ (q : Int) (g m : Nat) (ls : List (List Int)), e = .returned (.agg #[.int .i64 (n : Int), .int .i64 q, .slice (some ⟨g, 0, none⟩) m m]) ∧ ((∃ bs', SR n w' g 0 m bs' ls) ∧ wb.heap.size ≤ g) ∧ PML n ls ∧ ls.length = m ∧ Can n (q, pms n ls) ∧ Qv n (p, pms n lsf) (q, pms n ls) ∧ p ≤ q ∧ q ≤ p + lsf.length ∧ m ≤ lsf.length ∧ Ext wb w'
theorem B1.c {w : World} {b : Nat} {x : Value} {t : TypeId} (h : w.heap[b]? = some (.cells #[x] t (0, 0))) : w.cell? ⟨b, 0, none⟩ = some x := by simp [World.cell?, h]
theorem B1.f {w : World} {b : Nat} {x : Value} {t : TypeId} (h : w.heap[b]? = some (.cells #[x] t (0, 0))) : w.frozen? ⟨b, 0, none⟩ = false := by simp [World.frozen?, h]
theorem blk_B {w : World} {b : Nat} {x : Value} {t : TypeId} (h : w.heap[b]? = some (.cells #[x] t (0, 0))) (u : Value) : (w.setCell ⟨b, 0, none⟩ u).heap[b]? = some (.cells #[u] t (0, 0)) := by
  have hlt : b < w.heap.size := (Array.getElem?_eq_some_iff.1 h).1
  have h' : w.heap[b] = .cells #[x] t (0, 0) := by simpa [Array.getElem?_eq_getElem hlt] using h
  simp [World.setCell, hlt, Array.getElem_modify, h']
set_option maxHeartbeats 8000000 in
theorem Gather_calls (n : Nat) (p : Int) (wb w : World) (Bf : Nat) (a : Option Addr) (m c : Nat) (bsf : List Nat) (lsf : List (List Int)) (h : FL n wb Bf w (.slice a m c) bsf lsf) (hm : m = bsf.length) (hm1 : m ≤ 1000) (hn1 : 1 ≤ n) (h8 : n ≤ 8) (hp : -100000 ≤ p ∧ p ≤ 100000) :
    Calls Tryd.prog 36 #[.int .i64 (n : Int), .int .i64 p, .slice a m c] w (RetNm n wb p lsf) := by
  obtain ⟨w0, hw0⟩ : ∃ w0, w0 = (w.alloc (.cells #[.int .i64 0, .int .i64 0, .slice none 0 0] 30)).alloc (.cells #[.slice none 0 0] 28) := ⟨_, rfl⟩
  have x0 : Ext w w0 := by rw [hw0]; exact ((Ext.refl w).alloc _).alloc _
  have hs0 : w0.heap.size = w.heap.size + 1 + 1 := by rw [hw0]; simp
  have hbB : w0.heap[w.heap.size + 1]? = some (.cells #[.slice none 0 0] 28 (0, 0)) := by
    rw [hw0]
    have := Deep.blk_alloc_new (w.alloc (.cells #[.int .i64 0, .int .i64 0, .slice none 0 0] 30)) (.cells #[.slice none 0 0] 28)
    simpa using this
  have hbR : w0.heap[w.heap.size]? = some (.cells #[.int .i64 0, .int .i64 0, .slice none 0 0] 30 (0, 0)) := by
    rw [hw0, Deep.blk_alloc_lt _ _ _ (by simp)]
    exact Deep.blk_alloc_new _ _
  have h0 := h.ext x0
  have hlt : ∀ q ∈ bsf, q < w.heap.size := fun q hq => by obtain ⟨z, hz⟩ := h.ob.mem q hq; exact hz.lt
  have G0 : GS n wb w0 w.heap.size (w.heap.size + 1) bsf lsf 0 none 0 0 [] [] w0 :=
    ⟨FL.nil h0.x h0.x.size (Nat.le_refl _), rfl, hbB, hbR, (fun b hb => by cases hb), Nat.le_refl _, by rw [List.take_zero]; exact Eq'.refl (SptL.nil n), trivial, Lst.nil, Nat.le_refl _, fun _ _ _ ho => ho, fun _ _ _ _ => rfl⟩
  have HG0 := Lib.hid G0; have HW0 := Lib.hid hw0; have H0 := Lib.hid h0; have HLt := Lib.hid hlt; have Hm := Lib.hid hm; have HS0 := Lib.hid hs0
  have HXb := Lib.hid (show wb.heap.size ≤ w.heap.size from h.x.size)
  have HPl := Lib.hid h.pl
  have HLen := Lib.hid h.ob.len
  clear hw0 x0 hs0 hbB hbR h0 hlt G0 h hm
  go_enter Tryd.func36, Tryd.ntmps36
  go_wp2
  rw [← HW0.out]
  go_loopw [9, 13] (fun _ i wr => ∃ (k : Nat) (al : Option Addr) (ml cl : Nat) (bsl : List Nat) (lsl : List (List Int)), k ≤ m ∧ i = .int .i64 k ∧ Hid (GS n wb w0 w.heap.size (w.heap.size + 1) bsf lsf k al ml cl bsl lsl wr)) (fun _ i _ => m - (intOf i).toNat)
  case atStart => exact ⟨0, none, 0, 0, [], [], Nat.zero_le _, rfl, HG0⟩
  case round =>
    obtain ⟨k, al, ml, cl, bsl, lsl, hk, rfl, G⟩ := hrel
    have hcB := B1.c G.out.bb; have hfB := B1.f G.out.bb
    by_cases hlt : k < m
    · have t1 : (k : Int) < m := by omega
      have t1' : (0 : Int) ≤ k := by omega
      obtain ⟨b, hbk⟩ : ∃ b, bsf[k]? = some b := ⟨_, List.getElem?_eq_getElem (by rw [← Hm.out]; exact hlt)⟩
      obtain ⟨fs, hfk⟩ : ∃ fs, lsf[k]? = some fs := ⟨_, List.getElem?_eq_getElem (by rw [← HLen.out, ← Hm.out]; exact hlt)⟩
      obtain ⟨gf, rfl, hgf, hat⟩ := H0.out.at (fun e => by have := Hm.out; rw [e] at this; simp at this; omega)
      have hcell := hat k b hbk
      have hri : ri lsf k = fs := by unfold ri; rw [List.getD_eq_getElem?_getD, hfk]; rfl
      have hob0 : OB w0 b fs := by have := H0.out.ob.at hbk; rwa [hri] at this
      have hnot : b ∉ bsf.take k := fun e => by
        obtain ⟨i, hi, e2⟩ := List.mem_take_iff_getElem.1 e
        have h1 : bsf[i]? = some b := by rw [List.getElem?_eq_getElem (by omega), e2]
        have hnd := H0.out.nd
        have := (List.getElem?_inj (by omega) hnd).1 (h1.trans hbk.symm)
        omega
      have hbob := G.out.k1 b fs hnot hob0
      have hgB : gf < w0.heap.size := World.block_lt_of_cell? w0 _ hcell
      have hty : ∃ cur, w0.heap[gf]? = some (.cells cur 22 (0, 0)) := by
        obtain ⟨_, ⟨hv, _⟩ | ⟨g', cap, cur, hv, hB', hc', _⟩⟩ := H0.out.own
        · cases hv
        · simp only [Value.slice.injEq, Option.some.injEq, Addr.mk.injEq, and_true] at hv
          rw [hv.1]; exact ⟨cur, hc'⟩
      obtain ⟨cur, hcur⟩ := hty
      have hgm : gf ≠ w.heap.size + 1 := fun e => by
        have := HG0.out.bb
        rw [← e, hcur] at this
        simp only [Option.some.injEq, Obj.cells.injEq] at this
        exact absurd this.2.1 (by decide)
      have hgt : gf ∉ bsf.take k := fun e => by
        obtain ⟨z, hz⟩ := H0.out.ob.mem gf (List.mem_of_mem_take e)
        obtain ⟨cz, hz1, _⟩ := hz
        rw [hcur] at hz1
        simp only [Option.some.injEq, Obj.cells.injEq] at hz1
        exact absurd hz1.2.1 (by decide)
      clear hcur
      have hcell2 : wr.cell? ⟨gf, k, none⟩ = some (slc n b) := by
        have := G.out.k2 gf hgm hgB hgt
        simp only [World.cell?] at hcell ⊢
        rw [this]; exact hcell
      have hfs : PM n fs := HPl.out fs (by obtain ⟨hi, e⟩ := List.getElem?_eq_some_iff.1 hfk; rw [← e]; exact List.getElem_mem _)
      have hput := Put_calls n wb w0.heap.size wr (.slice al ml cl) bsl b lsl fs G.out.fl hbob hfs (fun e => hnot (G.out.sub b e)) (H0.out.lo b (List.mem_of_getElem? hbk)) hn1 h8 (by have := G.out.le; omega)
      have HP := Lib.hid hput
      unfold slc at hcell2
      clear hcell hob0 hbob hput hat
      go_wp2_with fail
      refine HP.out.mono ?_
      intro e w2 hr
      obtain ⟨v', bs', ls', k', rfl, hfl, he, hkp, hnf, hls, r, hstar⟩ := hr
      obtain ⟨a', c', rfl⟩ := hfl.form
      obtain ⟨hB2, hN⟩ := G.out.next hbk hfk hfs (by rw [HS0.out]; omega) (by rw [HS0.out]; omega) (by omega) (by have := HXb.out; omega) (fun q hq => by have := HLt.out q hq; omega) (fun q hq => by have := HLt.out q hq; omega) hfl rfl he hkp hnf hls hstar (fun z hz => HPl.out z (List.mem_of_mem_take hz))
      have HN := Lib.hid hN
      have g1 := B1.c hB2; have g2 := B1.f hB2
      clear hfl he hkp hnf hls hstar hB2 hN HP
      go_wp2
      go_roundw
      case rel => exact ⟨k + 1, a', _, c', bs', ls', by omega, by go_num, HN⟩
      case measure => simp [intOf]; omega
    · obtain rfl : k = m := by omega
      have t1 : ¬ (k : Int) < k := by omega
      obtain ⟨wo, hwo⟩ : ∃ wo, wo = wr := ⟨_, rfl⟩
      subst hwo
      have hst := fun (W : World) (b : Nat) (zs : List Int) (hz : PM n zs) (ho : OB W b zs) => show Calls Tryd.prog 54 #[.slice (some ⟨b, 0, none⟩) n n] W fun e w' => e = .returned (.int .u8 (setN (fallB zs) (n - 1) : Nat)) ∧ Ext W w' from by
        have his := ho.is (by rw [hz.len]; omega)
        rw [hz.len] at his
        have := Starts8_calls _ _ zs W his (by rw [hz.len]; exact hn1) (by rw [hz.len]; exact h8)
        rwa [hz.len] at this
      have HSt := Lib.hid hst; have HLet := Lib.hid (fun W => Letters_calls n W hn1 h8)
      have HLl := Lib.hid (show lsl.length = ml by rw [← G.out.fl.ob.len]; exact G.out.ml.symm)
      have hml : ml ≤ 1000 := by have := G.out.le; have := G.out.ml; omega
      clear hst
      go_wp2
      clear hcB hfB
      go_loopw [10] (fun fi wr => ∃ q : Nat, q ≤ ml ∧ fi = .int .i64 q ∧ Hid (Ext wo wr ∧ ∀ i, i < q → pm n (ri lsl i) = Pm.dl n)) (fun fi _ => ml - (intOf fi).toNat)
      case atStart => exact ⟨0, Nat.zero_le _, rfl, Lib.hid ⟨Ext.refl _, fun i hi => by omega⟩⟩
      case round =>
        obtain ⟨q, hq, rfl, HQ⟩ := hrel
        have hcB := HQ.out.1.cell (B1.c G.out.bb)
        by_cases hql : q < ml
        · have t2 : (q : Int) < ml := by omega
          have t2' : (0 : Int) ≤ q := by omega
          obtain ⟨gl, rfl, hgl, hat⟩ := G.out.fl.at (fun e => by have := G.out.ml; rw [e] at this; simp at this; omega)
          obtain ⟨b, hbq⟩ : ∃ b, bsl[q]? = some b := ⟨_, List.getElem?_eq_getElem (by rw [← G.out.ml]; exact hql)⟩
          have hcell := HQ.out.1.cell (hat q b hbq)
          have hpx : PM n (ri lsl q) := G.out.fl.pl _ (by
            unfold ri
            rw [List.getD_eq_getElem?_getD, List.getElem?_eq_getElem (by rw [HLl.out]; exact hql)]
            exact List.getElem_mem _)
          have hs := HSt.out wr b _ hpx ((G.out.fl.ob.at hbq).ext HQ.out.1)
          have hda := dl_all hpx hn1
          obtain ⟨S, hS⟩ : ∃ S, S = setN (fallB (ri lsl q)) (n - 1) := ⟨_, rfl⟩
          obtain ⟨T, hT⟩ : ∃ T, T = setN (fun _ => true) (n - 1) := ⟨_, rfl⟩
          rw [← hS] at hs; rw [← hS, ← hT] at hda
          have HS := Lib.hid hs; have HD := Lib.hid hda
          have HLt := Lib.hid (show ∀ W, Calls Tryd.prog 55 #[.int .i64 n] W fun e w' => e = .returned (.int .u8 (T : Nat)) ∧ w' = W from fun W => by rw [hT]; exact HLet.out W)
          unfold slc at hcell
          clear hat hbq hpx hs hda hS hT
          go_wp2_with fail
          refine HS.out.mono ?_
          rintro e w2 ⟨rfl, x2⟩
          have X2 := Lib.hid x2
          clear x2 HS
          go_wp2_with fail
          refine (HLt.out _).mono ?_
          rintro e w3 ⟨rfl, rfl⟩
          by_cases hST : S = T
          · have t3 : ((S : Int) == (T : Int)) = true := by rw [hST]; exact beq_self_eq_true _
            have HN := Lib.hid (show Ext wo w3 ∧ ∀ i, i < q + 1 → pm n (ri lsl i) = Pm.dl n from ⟨HQ.out.1.trans X2.out, fun i hi => by
              by_cases e : i = q
              · rw [e]; exact HD.out.1 hST
              · exact HQ.out.2 i (by omega)⟩)
            clear hST hcB hcell
            go_wp2
            go_roundw
            case rel => exact ⟨q + 1, by omega, by go_num, HN⟩
            case measure => simp [intOf]; omega
          · have t3 : ((S : Int) == (T : Int)) = false := beq_eq_false_iff_ne.2 (by omega)
            have hnd : pm n (ri lsl q) ≠ Pm.dl n := fun e => hST (HD.out.2 e)
            have HNd := Lib.hid hnd
            clear hST hcell hnd
            have hbW := (HQ.out.1.trans X2.out).block G.out.bb
            have hcB2 := B1.c hbW; have hfB2 := B1.f hbW
            have hmc : ml ≤ cl := by
              obtain ⟨_, ⟨hv, _⟩ | ⟨g', cap, cur, hv, hB', hc', h1, h2, h3, h4⟩⟩ := G.out.fl.own
              · cases hv
              · simp only [Value.slice.injEq] at hv
                have := G.out.ml; omega
            have s1 : q ≤ ml := by omega
            have s2 : (q : Int) ≤ ml := by omega
            have s3 : (ml : Int) ≤ cl := by omega
            have s4 : q ≤ cl := by omega
            have s5 : (q : Int) ≤ cl := by omega
            have s6 : ¬ cl = q := by omega
            have hbW2 := hbW
            clear hcB hbW
            obtain ⟨W5, hW5⟩ : ∃ W5, W5 = w3.setCell ⟨w.heap.size + 1, 0, none⟩ (.slice (some ⟨gl, q, none⟩) (ml - q) (cl - q)) := ⟨_, rfl⟩
            have hsr := G.out.sr (fun e => by have := G.out.ml; rw [e] at this; simp at this; omega) (HQ.out.1.trans X2.out) hq (.slice (some ⟨gl, q, none⟩) (ml - q) (cl - q))
            have hcW5 : W5.cell? ⟨w.heap.size + 1, 0, none⟩ = some (.slice (some ⟨gl, q, none⟩) (ml - q) (cl - q)) := by
              have := blk_B hbW2 (.slice (some ⟨gl, q, none⟩) (ml - q) (cl - q))
              rw [← hW5] at this; exact B1.c this
            rw [← hW5] at hsr
            have hlg := list_gather n (w.heap.size + 1) gl q (ml - q) (cl - q) _ _ W5 _ (by omega) h8 hsr hcW5 (fun _ => rfl)
            have HLg := Lib.hid hlg; have HW5 := Lib.hid hW5
            clear hsr hcW5 hlg hW5 hbW2
            go_wp2_with fail
            rw [← HW5.out]
            refine HLg.out.mono ?_
            rintro e w6 ⟨g6, rfl, hisx, hg6, x6⟩
            have hR3 : B3 w3 w.heap.size (.int .i64 0) (.int .i64 0) (.slice none 0 0) 30 := (HQ.out.1.trans X2.out).block G.out.rb
            have hR5 : B3 W5 w.heap.size (.int .i64 0) (.int .i64 0) (.slice none 0 0) 30 := by
              unfold B3 at hR3 ⊢
              rw [HW5.out, Deep.blk_setCell_other _ _ _ _ (show w.heap.size ≠ w.heap.size + 1 by omega)]; exact hR3
            have hR6 : B3 w6 w.heap.size (.int .i64 0) (.int .i64 0) (.slice none 0 0) 30 := x6.block hR5
            have d0 := hR6.c0; have d1 := hR6.c1; have d2 := hR6.c2; have e0 := hR6.fz (o := 0); have e1 := hR6.fz (o := 1); have e2 := hR6.fz (o := 2)
            have HR6 := Lib.hid hR6; have HIx := Lib.hid hisx; have X6 := Lib.hid x6
            have hRlt : w.heap.size < w0.heap.size := by rw [HS0.out]; omega
            have hg6R : w.heap.size ≠ g6 := by
              have h1 := G.out.sz; have h2 := (HQ.out.1.trans X2.out).size
              have h3 : W5.heap.size = w3.heap.size := by rw [HW5.out]; simp [World.setCell]
              omega
            have HgR := Lib.hid hg6R
            obtain ⟨hcan, hqv⟩ := fin_plain (p := p) G.out.fl.pl (by have := G.out.eq; rwa [List.take_of_length_le (by rw [← HLen.out, ← Hm.out]; exact Nat.le_refl _)] at this) G.out.nf G.out.lst (by rw [HLl.out]; exact hq) HQ.out.2 (.inr HNd.out)
            have HCan := Lib.hid hcan; have HQv := Lib.hid hqv
            have XW5 := Lib.hid (show Ext wb W5 from by rw [HW5.out]; exact (G.out.fl.x.trans (HQ.out.1.trans X2.out)).setCell (by have := HXb.out; show wb.heap.size ≤ w.heap.size + 1; omega) _)
            have HG6 := Lib.hid (show wb.heap.size ≤ g6 from Nat.le_trans XW5.out.size hg6)
            clear hR3 hR5 hR6 hisx x6 hcB2 hfB2 hg6 hRlt hg6R hcan hqv
            go_wp2
            have hR7 := HR6.out.set3 (.int .i64 (n : Int)) (.int .i64 (p + q)) (.slice (some ⟨g6, 0, none⟩) (ml - q) (ml - q))
            have z0 := hR7.c0; have z1 := hR7.c1; have z2 := hR7.c2
            refine bodyPost_ret (v := .agg #[.int .i64 (n : Int), .int .i64 (p + q), .slice (some ⟨g6, 0, none⟩) (ml - q) (ml - q)]) (by simp [results, Tryd.results36, go_sem, z0, z1, z2]) rfl ⟨p + q, g6, ml - q, lsl.drop q, rfl, ?_, fun z hz => G.out.fl.pl z (List.mem_of_mem_drop hz), by rw [List.length_drop, HLl.out], HCan.out, HQv.out, by omega, ?_, ?_, ?_⟩
            · exact ⟨⟨_, HIx.out.setR3 HR6.out (by decide) HgR.out _ _ _⟩, HG6.out⟩
            · have h1 := G.out.le; have h2 := G.out.ml; have h3 := Hm.out; have h4 := HLen.out; omega
            · have h1 := G.out.le; have h2 := G.out.ml; have h3 := Hm.out; have h4 := HLen.out; omega
            · exact (((XW5.out.trans X6.out).setCell HXb.out _).setCell HXb.out _).setCell HXb.out _
        · obtain rfl : q = ml := by omega
          have t2 : ¬ (q : Int) < q := by omega
          have hbW := HQ.out.1.block G.out.bb
          have hcB2 := B1.c hbW; have hfB2 := B1.f hbW
          have hcW := Lib.hid (fun (u : Value) => B1.c (blk_B hbW u))
          have hsr0 := Lib.hid (fun (u : Value) => show SR n (wr.setCell ⟨w.heap.size + 1, 0, none⟩ u) 0 0 0 [] [] from ⟨rfl, fun i b hi => by simp at hi, trivial, fun z hz => by cases hz⟩)
          have hshape : (al = none ∧ q = 0 ∧ cl = 0) ∨ ∃ gl, al = some ⟨gl, 0, none⟩ ∧ q ≤ cl := by
            obtain ⟨_, ⟨hv, _⟩ | ⟨g', cap, cur, hv, hB', hc', h1, h2, h3, h4⟩⟩ := G.out.fl.own
            · simp only [Value.slice.injEq] at hv; exact .inl hv
            · simp only [Value.slice.injEq] at hv
              refine .inr ⟨g', hv.1, ?_⟩
              have := G.out.ml; omega
          clear hcB hbW
          rcases hshape with ⟨rfl, rfl, rfl⟩ | ⟨gl, rfl, hqc⟩
          · skip
            obtain ⟨W5, hW5⟩ : ∃ W5, W5 = wr.setCell ⟨w.heap.size + 1, 0, none⟩ (.slice none 0 0) := ⟨_, rfl⟩
            have hlg := list_gather n (w.heap.size + 1) 0 0 0 _ [] [] W5 _ (by omega) h8 (by rw [hW5]; exact hsr0.out _) (by rw [hW5]; exact hcW.out _) (fun h => absurd h (Nat.lt_irrefl 0))
            have HLg := Lib.hid hlg; have HW5 := Lib.hid hW5
            clear hlg hW5
            go_wp2_with fail
            rw [← HW5.out]
            refine HLg.out.mono ?_
            rintro e w6 ⟨g6, rfl, hisx, hg6, x6⟩
            have hR3 : B3 wr w.heap.size (.int .i64 0) (.int .i64 0) (.slice none 0 0) 30 := HQ.out.1.block G.out.rb
            have hR5 : B3 W5 w.heap.size (.int .i64 0) (.int .i64 0) (.slice none 0 0) 30 := by
              unfold B3 at hR3 ⊢
              rw [HW5.out, Deep.blk_setCell_other _ _ _ _ (show w.heap.size ≠ w.heap.size + 1 by omega)]; exact hR3
            have hR6 : B3 w6 w.heap.size (.int .i64 0) (.int .i64 0) (.slice none 0 0) 30 := x6.block hR5
            have d0 := hR6.c0; have d1 := hR6.c1; have d2 := hR6.c2; have e0 := hR6.fz (o := 0); have e1 := hR6.fz (o := 1); have e2 := hR6.fz (o := 2)
            have HR6 := Lib.hid hR6; have HIx := Lib.hid hisx; have X6 := Lib.hid x6
            have hg6R : w.heap.size ≠ g6 := by
              have h1 := G.out.sz; have h2 := HQ.out.1.size; have h4 := HS0.out
              have h3 : W5.heap.size = wr.heap.size := by rw [HW5.out]; simp [World.setCell]
              omega
            have HgR := Lib.hid hg6R
            obtain ⟨hcan, hqv⟩ := fin_plain (p := p) G.out.fl.pl (by have := G.out.eq; rwa [List.take_of_length_le (by rw [← HLen.out, ← Hm.out]; exact Nat.le_refl _)] at this) G.out.nf G.out.lst (by rw [HLl.out]; exact Nat.le_refl _) HQ.out.2 (.inl HLl.out.symm)
            rw [List.drop_eq_nil_of_le (by rw [HLl.out]; exact Nat.le_refl _)] at hcan hqv
            have HCan := Lib.hid hcan; have HQv := Lib.hid hqv
            have XW5 := Lib.hid (show Ext wb W5 from by rw [HW5.out]; exact (G.out.fl.x.trans HQ.out.1).setCell (by have := HXb.out; show wb.heap.size ≤ w.heap.size + 1; omega) _)
            have HG6 := Lib.hid (show wb.heap.size ≤ g6 from Nat.le_trans XW5.out.size hg6)
            clear hR3 hR5 hR6 hisx x6 hcB2 hfB2 hg6 hg6R hcan hqv
            go_wp2
            have hR7 := HR6.out.set3 (.int .i64 (n : Int)) (.int .i64 (p)) (.slice (some ⟨g6, 0, none⟩) 0 0)
            have z0 := hR7.c0; have z1 := hR7.c1; have z2 := hR7.c2
            refine bodyPost_ret (v := .agg #[.int .i64 (n : Int), .int .i64 (p), .slice (some ⟨g6, 0, none⟩) 0 0]) (by simp [results, Tryd.results36, go_sem, z0, z1, z2]) rfl ⟨p, g6, 0, [], rfl, ?_, fun z hz => (by cases hz), rfl, by have := HCan.out; simpa [pms] using this, by have := HQv.out; simpa [pms] using this, by omega, ?_, Nat.zero_le _, ?_⟩
            · exact ⟨⟨_, HIx.out.setR3 HR6.out (by decide) HgR.out _ _ _⟩, HG6.out⟩
            · have h1 := G.out.le; have h2 := G.out.ml; have h3 := Hm.out; have h4 := HLen.out; omega
            · exact (((XW5.out.trans X6.out).setCell HXb.out _).setCell HXb.out _).setCell HXb.out _
          · have s2 : (q : Int) ≤ cl := by omega
            by_cases hcq : cl = q
            · subst hcq
              obtain ⟨W5, hW5⟩ : ∃ W5, W5 = wr.setCell ⟨w.heap.size + 1, 0, none⟩ (.slice (some ⟨gl, 0, none⟩) 0 0) := ⟨_, rfl⟩
              have hlg := list_gather n (w.heap.size + 1) 0 0 0 _ [] [] W5 _ (by omega) h8 (by rw [hW5]; exact hsr0.out _) (by rw [hW5]; exact hcW.out _) (fun h => absurd h (Nat.lt_irrefl 0))
              have HLg := Lib.hid hlg; have HW5 := Lib.hid hW5
              clear hlg hW5
              go_wp2_with fail
              rw [← HW5.out]
              refine HLg.out.mono ?_
              rintro e w6 ⟨g6, rfl, hisx, hg6, x6⟩
              have hR3 : B3 wr w.heap.size (.int .i64 0) (.int .i64 0) (.slice none 0 0) 30 := HQ.out.1.block G.out.rb
              have hR5 : B3 W5 w.heap.size (.int .i64 0) (.int .i64 0) (.slice none 0 0) 30 := by
                unfold B3 at hR3 ⊢
                rw [HW5.out, Deep.blk_setCell_other _ _ _ _ (show w.heap.size ≠ w.heap.size + 1 by omega)]; exact hR3
              have hR6 : B3 w6 w.heap.size (.int .i64 0) (.int .i64 0) (.slice none 0 0) 30 := x6.block hR5
              have d0 := hR6.c0; have d1 := hR6.c1; have d2 := hR6.c2; have e0 := hR6.fz (o := 0); have e1 := hR6.fz (o := 1); have e2 := hR6.fz (o := 2)
              have HR6 := Lib.hid hR6; have HIx := Lib.hid hisx; have X6 := Lib.hid x6
              have hg6R : w.heap.size ≠ g6 := by
                have h1 := G.out.sz; have h2 := HQ.out.1.size; have h4 := HS0.out
                have h3 : W5.heap.size = wr.heap.size := by rw [HW5.out]; simp [World.setCell]
                omega
              have HgR := Lib.hid hg6R
              obtain ⟨hcan, hqv⟩ := fin_plain (p := p) G.out.fl.pl (by have := G.out.eq; rwa [List.take_of_length_le (by rw [← HLen.out, ← Hm.out]; exact Nat.le_refl _)] at this) G.out.nf G.out.lst (by rw [HLl.out]; exact Nat.le_refl _) HQ.out.2 (.inl HLl.out.symm)
              rw [List.drop_eq_nil_of_le (by rw [HLl.out]; exact Nat.le_refl _)] at hcan hqv
              have HCan := Lib.hid hcan; have HQv := Lib.hid hqv
              have XW5 := Lib.hid (show Ext wb W5 from by rw [HW5.out]; exact (G.out.fl.x.trans HQ.out.1).setCell (by have := HXb.out; show wb.heap.size ≤ w.heap.size + 1; omega) _)
              have HG6 := Lib.hid (show wb.heap.size ≤ g6 from Nat.le_trans XW5.out.size hg6)
              clear hR3 hR5 hR6 hisx x6 hcB2 hfB2 hg6 hg6R hcan hqv
              go_wp2
              have hR7 := HR6.out.set3 (.int .i64 (n : Int)) (.int .i64 (p + cl)) (.slice (some ⟨g6, 0, none⟩) 0 0)
              have z0 := hR7.c0; have z1 := hR7.c1; have z2 := hR7.c2
              refine bodyPost_ret (v := .agg #[.int .i64 (n : Int), .int .i64 (p + cl), .slice (some ⟨g6, 0, none⟩) 0 0]) (by simp [results, Tryd.results36, go_sem, z0, z1, z2]) rfl ⟨p + cl, g6, 0, [], rfl, ?_, fun z hz => (by cases hz), rfl, HCan.out, HQv.out, by omega, ?_, Nat.zero_le _, ?_⟩
              · exact ⟨⟨_, HIx.out.setR3 HR6.out (by decide) HgR.out _ _ _⟩, HG6.out⟩
              · have h1 := G.out.le; have h2 := G.out.ml; have h3 := Hm.out; have h4 := HLen.out; omega
              · exact (((XW5.out.trans X6.out).setCell HXb.out _).setCell HXb.out _).setCell HXb.out _
            · skip
              obtain ⟨W5, hW5⟩ : ∃ W5, W5 = wr.setCell ⟨w.heap.size + 1, 0, none⟩ (.slice (some ⟨gl, q, none⟩) 0 (cl - q)) := ⟨_, rfl⟩
              have hlg := list_gather n (w.heap.size + 1) 0 0 0 _ [] [] W5 _ (by omega) h8 (by rw [hW5]; exact hsr0.out _) (by rw [hW5]; exact hcW.out _) (fun h => absurd h (Nat.lt_irrefl 0))
              have HLg := Lib.hid hlg; have HW5 := Lib.hid hW5
              clear hlg hW5
              go_wp2_with fail
              rw [← HW5.out]
              refine HLg.out.mono ?_
              rintro e w6 ⟨g6, rfl, hisx, hg6, x6⟩
              have hR3 : B3 wr w.heap.size (.int .i64 0) (.int .i64 0) (.slice none 0 0) 30 := HQ.out.1.block G.out.rb
              have hR5 : B3 W5 w.heap.size (.int .i64 0) (.int .i64 0) (.slice none 0 0) 30 := by
                unfold B3 at hR3 ⊢
                rw [HW5.out, Deep.blk_setCell_other _ _ _ _ (show w.heap.size ≠ w.heap.size + 1 by omega)]; exact hR3
              have hR6 : B3 w6 w.heap.size (.int .i64 0) (.int .i64 0) (.slice none 0 0) 30 := x6.block hR5
              have d0 := hR6.c0; have d1 := hR6.c1; have d2 := hR6.c2; have e0 := hR6.fz (o := 0); have e1 := hR6.fz (o := 1); have e2 := hR6.fz (o := 2)
              have HR6 := Lib.hid hR6; have HIx := Lib.hid hisx; have X6 := Lib.hid x6
              have hg6R : w.heap.size ≠ g6 := by
                have h1 := G.out.sz; have h2 := HQ.out.1.size; have h4 := HS0.out
                have h3 : W5.heap.size = wr.heap.size := by rw [HW5.out]; simp [World.setCell]
                omega
              have HgR := Lib.hid hg6R
              obtain ⟨hcan, hqv⟩ := fin_plain (p := p) G.out.fl.pl (by have := G.out.eq; rwa [List.take_of_length_le (by rw [← HLen.out, ← Hm.out]; exact Nat.le_refl _)] at this) G.out.nf G.out.lst (by rw [HLl.out]; exact Nat.le_refl _) HQ.out.2 (.inl HLl.out.symm)
              rw [List.drop_eq_nil_of_le (by rw [HLl.out]; exact Nat.le_refl _)] at hcan hqv
              have HCan := Lib.hid hcan; have HQv := Lib.hid hqv
              have XW5 := Lib.hid (show Ext wb W5 from by rw [HW5.out]; exact (G.out.fl.x.trans HQ.out.1).setCell (by have := HXb.out; show wb.heap.size ≤ w.heap.size + 1; omega) _)
              have HG6 := Lib.hid (show wb.heap.size ≤ g6 from Nat.le_trans XW5.out.size hg6)
              clear hR3 hR5 hR6 hisx x6 hcB2 hfB2 hg6 hg6R hcan hqv
              go_wp2
              have hR7 := HR6.out.set3 (.int .i64 (n : Int)) (.int .i64 (p + q)) (.slice (some ⟨g6, 0, none⟩) 0 0)
              have z0 := hR7.c0; have z1 := hR7.c1; have z2 := hR7.c2
              refine bodyPost_ret (v := .agg #[.int .i64 (n : Int), .int .i64 (p + q), .slice (some ⟨g6, 0, none⟩) 0 0]) (by simp [results, Tryd.results36, go_sem, z0, z1, z2]) rfl ⟨p + q, g6, 0, [], rfl, ?_, fun z hz => (by cases hz), rfl, HCan.out, HQv.out, by omega, ?_, Nat.zero_le _, ?_⟩
              · exact ⟨⟨_, HIx.out.setR3 HR6.out (by decide) HgR.out _ _ _⟩, HG6.out⟩
              · have h1 := G.out.le; have h2 := G.out.ml; have h3 := Hm.out; have h4 := HLen.out; omega
              · exact (((XW5.out.trans X6.out).setCell HXb.out _).setCell HXb.out _).setCell HXb.out _
end Go.Proofs.YtigffblelngpjaaDoor
/- The factors of a word, as normals.Of makes them. No program in sight. -/
namespace Go.Proofs.YtigffblelngpjaaDoor
set_option linter.unusedVariables false
set_option linter.unusedSimpArgs false

/-- How many letters lie below 0. -/
def ngs : List Int → Int
  | [] => 0
  | k :: t => (if 0 < k then 0 else 1) + ngs t
/-- A letter as a permutation: below 0, what remains of the half twist. -/
def ltr (n : Nat) (k : Int) : List Int := if 0 < k then vsw (idL n) k.natAbs else vsw (halfL n) k.natAbs
def ofL (n : Nat) : List Int → List (List Int)
  | [] => []
  | k :: t => flT (ngs t) (ltr n k) :: ofL n t
theorem ngs_bd : ∀ w : List Int, 0 ≤ ngs w ∧ ngs w ≤ w.length
  | [] => by simp [ngs]
  | k :: t => by
    have := ngs_bd t
    rw [ngs, List.length_cons]
    split <;> omega
theorem ofL_len (n : Nat) : ∀ w : List Int, (ofL n w).length = w.length
  | [] => rfl
  | k :: t => by rw [ofL, List.length_cons, ofL_len n t, List.length_cons]
theorem PM.flT {n : Nat} {xs : List Int} (h : PM n xs) (p : Int) : PM n (flT p xs) ∧ [pm n (flT p xs)] = flN n p [pm n xs] := by
  unfold Go.Proofs.YtigffblelngpjaaDoor.flT flN
  split
  · exact ⟨h, rfl⟩
  · exact ⟨h.flipL.1, by rw [h.flipL.2]; rfl⟩
theorem ltr_pos {n : Nat} {k : Int} (h0 : 0 < k) (h2 : k.natAbs < n) : PM n (ltr n k) ∧ pm n (ltr n k) = Pm.s k.natAbs := by
  have h := (PM.idL n).1.vsw (k := k.natAbs) (by omega) h2
  unfold ltr
  rw [if_pos h0]
  exact ⟨h.1, by rw [h.2, (PM.idL n).2]; exact Pm.one_mul _⟩
theorem ltr_neg {n : Nat} {k : Int} (h0 : ¬ 0 < k) (h1 : 1 ≤ k.natAbs) (h2 : k.natAbs < n) : PM n (ltr n k) ∧ pm n (ltr n k) = (Pm.dl n).sr k.natAbs := by
  have h := (PM.halfL n).1.vsw (k := k.natAbs) h1 h2
  unfold ltr
  rw [if_neg h0]
  exact ⟨h.1, by rw [h.2, (PM.halfL n).2]⟩
theorem ltr_pm {n : Nat} {k : Int} (h1 : 1 ≤ k.natAbs) (h2 : k.natAbs < n) : PM n (ltr n k) := by
  by_cases h0 : 0 < k
  · exact (ltr_pos h0 h2).1
  · exact (ltr_neg h0 h1 h2).1
theorem ofL_pm {n : Nat} : ∀ {w : List Int}, Val n w → PML n (ofL n w)
  | [], _, z, hz => by cases hz
  | k :: t, hv, z, hz => by
    rcases List.mem_cons.1 hz with e | hz
    · rw [e]; exact ((ltr_pm (wb_bd hv.head).1 (wb_bd hv.head).2).flT _).1
    · exact ofL_pm hv.tail z hz
theorem fold_ofL {n : Nat} : ∀ (w : List Int) (p : Int) (l : List Pm), Val n w → w.foldl (act n) (p, l) = (p - ngs w, flN n (ngs w) l ++ pms n (ofL n w))
  | [], p, l, _ => by simp [ngs, ofL, pms, flN_zero]
  | k :: t, p, l, hv => by
    have hb := wb_bd hv.head
    rw [List.foldl_cons]
    by_cases h0 : 0 < k
    · have e : act n (p, l) k = (p, l ++ [Pm.s k.natAbs]) := by unfold act; rw [if_pos h0]
      have h := ltr_pos h0 hb.2
      rw [e, fold_ofL t p _ hv.tail, flN_app, ngs, if_pos h0, Int.zero_add, ofL]
      refine Prod.ext rfl ?_
      show flN n (ngs t) l ++ flN n (ngs t) [Pm.s k.natAbs] ++ pms n (ofL n t) = flN n (ngs t) l ++ ([pm n (flT (ngs t) (ltr n k))] ++ pms n (ofL n t))
      rw [(h.1.flT (ngs t)).2, h.2, List.append_assoc]
    · have e : act n (p, l) k = (p - 1, l.map (Pm.fl n) ++ [(Pm.dl n).sr k.natAbs]) := by unfold act; rw [if_neg h0]
      have h := ltr_neg h0 hb.1 hb.2
      rw [e, fold_ofL t (p - 1) _ hv.tail, flN_app, ngs, if_neg h0, ofL]
      refine Prod.ext (by show p - 1 - ngs t = p - (1 + ngs t); omega) ?_
      show flN n (ngs t) (l.map (Pm.fl n)) ++ flN n (ngs t) [(Pm.dl n).sr k.natAbs] ++ pms n (ofL n t) = flN n (1 + ngs t) l ++ ([pm n (flT (ngs t) (ltr n k))] ++ pms n (ofL n t))
      have e2 : flN n (ngs t) (l.map (Pm.fl n)) = flN n (1 + ngs t) l := by
        have : l.map (Pm.fl n) = flN n 1 l := rfl
        rw [this, flN_flN, Int.add_comm]
      rw [(h.1.flT (ngs t)).2, h.2, List.append_assoc, e2]
theorem raw_ofL {n : Nat} {w : List Int} (hv : Val n w) : raw n w = (-(ngs w), pms n (ofL n w)) := by
  unfold raw
  rw [fold_ofL w 0 [] hv, flN_nil]; simp
end Go.Proofs.YtigffblelngpjaaDoor
/- Contract of normals.Of (under way). -/
namespace Go.Proofs.YtigffblelngpjaaDoor
set_option linter.unusedVariables false
set_option linter.unusedSimpArgs false
set_option maxRecDepth 8000
open Go Go.RowKit

/-- The factors from place k on are made: the row lies in block g. -/
structure PF (n : Nat) (w wr : World) (g m k : Nat) (bs : List Nat) (ls : List (List Int)) : Prop where
  x : Ext w wr
  lo : w.heap.size ≤ g
  len : bs.length = m - k
  row : ∃ f, wr.rowIs g 22 m f ∧ (∀ i, k ≤ i → i < m → f i = slc n (bs.getD (i - k) 0)) ∧ ∀ i, i < m → ∃ a b c, f i = .slice a b c
  ob : OBs wr bs ls
  nd : bs.Nodup
  lb : ∀ b ∈ bs, w.heap.size ≤ b
  pl : PML n ls
theorem PF.later {n : Nat} {w wr w' : World} {g m k : Nat} {bs : List Nat} {ls : List (List Int)} (h : PF n w wr g m k bs ls) (x : Ext wr w') : PF n w w' g m k bs ls := by
  obtain ⟨f, hr, h1, h2⟩ := h.row
  exact ⟨h.x.trans x, h.lo, h.len, ⟨f, x.row hr, h1, h2⟩, h.ob.map fun b _ y hy => hy.ext x, h.nd, h.lb, h.pl⟩
/-- One more factor is stored. -/
theorem PF.next {n : Nat} {w wr : World} {g m k b : Nat} {bs : List Nat} {ls : List (List Int)} {x : List Int} (h : PF n w wr g m (k + 1) bs ls) (hk : k < m) (hb : OB wr b x) (hx : PM n x) (hlo : w.heap.size ≤ b) (hnb : b ∉ bs) :
    PF n w (wr.setCell ⟨g, k, none⟩ (slc n b)) g m k (b :: bs) (x :: ls) := by
  obtain ⟨f, hr, h1, h2⟩ := h.row
  obtain ⟨cur, hcur, _⟩ := id hr
  have hty : 22 ≠ 5 := by decide
  refine ⟨h.x.setCell h.lo _, h.lo, by rw [List.length_cons, h.len]; omega, ⟨_, hr.set k (slc n b), fun i i1 i2 => ?_, fun i hi => ?_⟩, ⟨hb.set hcur hty _, h.ob.map fun c _ y hy => hy.set hcur hty _⟩, List.nodup_cons.2 ⟨hnb, h.nd⟩, fun c hc => ?_, fun z hz => ?_⟩
  · by_cases e : i = k
    · subst e; simp [List.getD]
    · simp only [if_neg e]
      rw [h1 i (by omega) i2]
      obtain ⟨d, hd⟩ : ∃ d, i - k = d + 1 := ⟨i - k - 1, by omega⟩
      rw [hd, show i - (k + 1) = d by omega]; simp [List.getD]
  · by_cases e : i = k
    · simp only [if_pos e]; unfold slc; exact ⟨_, _, _, rfl⟩
    · simp only [if_neg e]; exact h2 i hi
  · rcases List.mem_cons.1 hc with e | e
    · rw [e]; exact hlo
    · exact h.lb c e
  · rcases List.mem_cons.1 hz with e | e
    · rw [e]; exact hx
    · exact h.pl z e
/-- All are made: a list of factors. -/
theorem PF.fl {n : Nat} {w wr : World} {g m : Nat} {bs : List Nat} {ls : List (List Int)} (h : PF n w wr g m 0 bs ls) (hm : m ≤ 1000) : FL n w w.heap.size wr (.slice (some ⟨g, 0, none⟩) m m) bs ls := by
  obtain ⟨f, ⟨cur, hc, hs, hf⟩, h1, h2⟩ := h.row
  have hlen : bs.length = m := by have := h.len; omega
  refine ⟨h.x, Nat.le_refl _, h.x.size, ⟨by simp, .inr ⟨g, m, cur, by rw [hlen], h.lo, hc, by omega, by unfold maxLen; omega, by omega, ?_⟩⟩, h.ob, h.nd, h.lb, h.pl⟩
  refine List.ext_getElem (by simp; omega) fun i i1 i2 => ?_
  have hi : i < m := by simp at i2; omega
  have := hf i hi
  rw [Array.getElem?_eq_getElem (by omega), h1 i (by omega) hi] at this
  simp only [List.getElem_take, Array.getElem_toList, Option.some.inj this, List.getElem_map]
  congr 1
  simp [List.getD, hlen, hi]
end Go.Proofs.YtigffblelngpjaaDoor
/- Contract of normals.Of: the walk. -/
namespace Go.Proofs.YtigffblelngpjaaDoor
set_option linter.unusedVariables false
set_option linter.unusedSimpArgs false
set_option maxRecDepth 8000
open Go Go.RowKit

theorem drop_cons' {l : List Int} {k : Nat} (h : k < l.length) : l.drop k = gi l k :: l.drop (k + 1) := by
  rw [List.drop_eq_getElem_cons h, gi_of_lt h]
theorem RetB.len {w0 : World} {xs : List Int} {n : Nat} {e : Ending} {w' : World} (h : RetB w0 xs e w') (hl : xs.length = n) : ∃ b, e = .returned (.slice (some ⟨b, 0, none⟩) n n) ∧ OB w' b xs ∧ w0.heap.size ≤ b ∧ Ext w0 w' := by
  subst hl; exact h
set_option maxHeartbeats 8000000 in
theorem NOf_calls (n : Nat) (v : Value) (c : Nat) (ws : List Int) (w : World) (h : IS .i64 w v c ws) (hv : Val n ws) (hn1 : 1 ≤ n) (h8 : n ≤ 8) (hl : ws.length ≤ 64) (hck : wcheck n ws = 0) :
    Calls Tryd.prog 9 #[.int .i64 (n : Int), v] w fun e w' => ∃ (q : Int) (g m : Nat) (ls : List (List Int)), e = .returned (.tuple #[.agg #[.int .i64 (n : Int), .int .i64 q, .slice (some ⟨g, 0, none⟩) m m], .int .i64 0]) ∧ ISX .u8 w' (.slice (some ⟨g, 0, none⟩) m m) m ls ∧ PML n ls ∧ ls.length = m ∧ Can n (q, pms n ls) ∧ Qv n (raw n ws) (q, pms n ls) ∧ -(ngs ws) ≤ q ∧ q ≤ (ws.length : Int) ∧ m ≤ ws.length ∧ Ext w w' := by
  have hchk := fun W (x : Ext w W) => Check_calls n v c ws W (h.ext x)
  rw [hck] at hchk
  obtain ⟨_, _, ao, rfl, hao⟩ := h.open
  have hat : ∀ i, i < ws.length → ∃ b o, ao = some ⟨b, o, none⟩ ∧ ∀ j, j < ws.length → w.cell? ⟨b, o + j, none⟩ = some (.int .i64 (gi ws j)) := fun i hi => by
    rcases hao with ⟨_, h0, _⟩ | ⟨b, o, e, hc⟩
    · omega
    · exact ⟨b, o, e, hc⟩
  obtain ⟨m, hm⟩ : ∃ m, m = ws.length := ⟨_, rfl⟩
  obtain ⟨W0, hW0⟩ : ∃ W0, W0 = w.alloc (.cells #[.int .i64 0, .int .i64 0, .slice none 0 0] 30) := ⟨_, rfl⟩
  have x0 : Ext w W0 := by rw [hW0]; exact (Ext.refl w).alloc _
  have hbR : B3 W0 w.heap.size (.int .i64 0) (.int .i64 0) (.slice none 0 0) 30 := by rw [hW0]; exact Deep.blk_alloc_new _ _
  have hc0 := hchk W0 x0
  rw [← hm] at hat hl hc0 ⊢
  have HCk := Lib.hid hc0; have HAt := Lib.hid hat; have HW0 := Lib.hid hW0; have X0 := Lib.hid x0; have HR := Lib.hid hbR; have HV := Lib.hid hv; have Hm := Lib.hid hm
  have hmk : ∀ w' : World, (Instr.makeSlice 28 (.int .i64 (m : Int)) (.int .i64 (m : Int))).run Tryd.prog w' = .ok (.slice (some ⟨w'.heap.size, 0, none⟩) m m) (w'.alloc (.cells (madeCells #[.slice none 0 0] m) 22)) := fun w' => run_make_lc (P := Tryd.prog) eiFs .i64 .i64 m m (by omega) (by omega) (by omega) w'
  clear hchk h hao hat hm hW0 x0 hbR hc0 hv hck
  go_enter Tryd.func9, Tryd.ntmps9
  go_wp2_with fail
  rw [← HW0.out]
  refine HCk.out.mono ?_
  rintro e w1 ⟨rfl, rfl⟩
  obtain ⟨W1, hW1⟩ : ∃ W1, W1 = W0.alloc (.cells (madeCells #[.slice none 0 0] m) 22) := ⟨_, rfl⟩
  have hpf : PF n W0 W1 W0.heap.size m m [] (ofL n (ws.drop m)) := by
    rw [List.drop_eq_nil_of_le (by rw [Hm.out]; exact Nat.le_refl _), hW1]
    exact ⟨(Ext.refl W0).alloc _, Nat.le_refl _, by simp, ⟨fun _ => .slice none 0 0, World.rowIs_made _ _ _ _, fun i i1 i2 => by omega, fun i _ => ⟨_, _, _, rfl⟩⟩, trivial, List.nodup_nil, fun b hb => by (cases hb), fun z hz => by (cases hz)⟩
  have hng : ngs (ws.drop m) = 0 := by rw [List.drop_eq_nil_of_le (by rw [Hm.out]; exact Nat.le_refl _)]; rfl
  have HPf := Lib.hid hpf; have HW1 := Lib.hid hW1; have HNg := Lib.hid hng
  have wm : IntKind.i64.wrap ((m : Int) - 1) = (m : Int) - 1 := IntWalk.i64_in _ ⟨by omega, by omega⟩
  clear hpf hW1 hng
  go_wp2
  rw [← HW1.out]
  clear wm
  go_loopw [7, 9, 10] (fun bk iv _ wr => ∃ (k : Nat) (bs : List Nat), k ≤ m ∧ iv = .int .i64 ((k : Int) - 1) ∧ bk = .int .i64 (ngs (ws.drop k)) ∧ Hid (PF n W0 wr W0.heap.size m k bs (ofL n (ws.drop k)))) (fun _ iv _ _ => (intOf iv + 1).toNat)
  case atStart => exact ⟨m, [], Nat.le_refl _, rfl, by rw [HNg.out], HPf⟩
  case round =>
    obtain ⟨k, bs, hk, rfl, rfl, H⟩ := hrel
    cases k with
    | zero =>
      rw [show ((0 : Nat) : Int) - 1 = -1 from rfl, show ws.drop 0 = ws from rfl]
      have hnb := ngs_bd ws
      have hm64 : m ≤ 64 := hl
      have hmw := Hm.out
      have hfl := H.out.fl (by omega)
      rw [show ws.drop 0 = ws from rfl] at hfl
      have hlen0 := H.out.len
      have hga := Gather_calls n (-(ngs ws)) W0 wr W0.heap.size _ m m bs (ofL n ws) hfl (by omega) (by omega) hn1 h8 (by omega)
      have HGa := Lib.hid hga
      obtain ⟨bk, hbk⟩ : ∃ bk, bk = ngs ws := ⟨_, rfl⟩
      rw [← hbk] at HGa hnb ⊢
      have Hbk := Lib.hid hbk; have Hnb := Lib.hid hnb
      have wb1 : IntKind.i64.wrap (-bk) = -bk := IntWalk.i64_in _ ⟨by omega, by omega⟩
      clear hga hfl hlen0 hbk hmw
      go_wp2_with fail
      refine HGa.out.mono ?_
      intro e w5 hr
      obtain ⟨q, g, mm, ls, rfl, ⟨⟨bs', hsr⟩, hg⟩, hpl, hll, hcan, hqv, l1, l2, l3, x5⟩ := hr
      have hR5 : B3 w5 w.heap.size (.int .i64 0) (.int .i64 0) (.slice none 0 0) 30 := x5.block HR.out
      have d0 := hR5.c0; have d1 := hR5.c1; have d2 := hR5.c2; have e0 := hR5.fz (o := 0); have e1 := hR5.fz (o := 1); have e2 := hR5.fz (o := 2)
      have hRlt : w.heap.size < W0.heap.size := HR.out |> fun hh => World.block_lt_of_cell? W0 _ hh.c0
      have hof := ofL_len n ws
      have hraw := raw_ofL HV.out
      have HFin := Lib.hid (show ∀ (u v r : Value), ISX .u8 (((w5.setCell ⟨w.heap.size, 0, none⟩ u).setCell ⟨w.heap.size, 1, none⟩ v).setCell ⟨w.heap.size, 2, none⟩ r) (.slice (some ⟨g, 0, none⟩) mm mm) mm ls ∧ PML n ls ∧ ls.length = mm ∧ Can n (q, pms n ls) ∧ Qv n (raw n ws) (q, pms n ls) ∧ -(ngs ws) ≤ q ∧ q ≤ (m : Int) ∧ mm ≤ m ∧ Ext w (((w5.setCell ⟨w.heap.size, 0, none⟩ u).setCell ⟨w.heap.size, 1, none⟩ v).setCell ⟨w.heap.size, 2, none⟩ r) from fun u v r => by
        have h1 := Hnb.out; have h2 := Hm.out; have h3 := Hbk.out
        refine ⟨(hsr.setR3 hR5 (by decide) (by omega) u v r).isx (by omega) h8, hpl, hll, hcan, by rw [hraw, ← Hbk.out]; exact hqv, by omega, by omega, by omega, ?_⟩
        exact ((((X0.out.trans x5).setCell (Nat.le_refl _) _).setCell (Nat.le_refl _) _).setCell (Nat.le_refl _) _))
      have HR5 := Lib.hid hR5
      clear hsr hg hpl hll hcan hqv l1 l2 l3 x5 hR5 hRlt hof hraw HGa hnb
      go_wp2
      have hR7 := HR5.out.set3 (.int .i64 (n : Int)) (.int .i64 q) (.slice (some ⟨g, 0, none⟩) mm mm)
      have z0 := hR7.c0; have z1 := hR7.c1; have z2 := hR7.c2
      exact bodyPost_ret (v := .tuple #[.agg #[.int .i64 (n : Int), .int .i64 q, .slice (some ⟨g, 0, none⟩) mm mm], .int .i64 0]) (by simp [results, Tryd.results9, go_sem, z0, z1, z2]) rfl ⟨q, g, mm, ls, rfl, HFin.out _ _ _⟩
    | succ j =>
      have t0 : ((j + 1 : Nat) : Int) - 1 = (j : Int) := by omega
      rw [t0]
      have t1 : (0 : Int) ≤ j := by omega
      have t2 : (j : Int) < m := by omega
      obtain ⟨b, o, rfl, hc⟩ := HAt.out j (by omega)
      have hcell := (X0.out.trans H.out.x).cell (hc j (by omega))
      obtain ⟨x, hx⟩ : ∃ x, x = gi ws j := ⟨_, rfl⟩
      rw [← hx] at hcell
      have hxb : 1 ≤ x.natAbs ∧ x.natAbs < n := by rw [hx]; exact wb_bd (HV.out.at j (by rw [← Hm.out]; omega))
      have Hx := Lib.hid hx
      clear hc hx
      by_cases h0 : 0 < x
      · have hnat : (x.natAbs : Int) = x := by omega

        go_wp2_with fail
        refine (Identity_calls n _ h8).mono ?_
        intro e w2 hr
        obtain ⟨b1, rfl, o1, lo1, x1⟩ := hr.len (idL_len n)
        have X1 := Lib.hid x1; have O1 := Lib.hid o1; have L1 := Lib.hid lo1
        clear hr o1 lo1 x1
        have hex := Exchange_calls b1 x.natAbs (idL n) w2 O1.out (by rw [idL_len]; exact h8) (by rw [idL_len]; exact hxb) (fun i hi => by
          rw [idL_len] at hi
          have := (PM.idL n).1.bd (i := i + 1) (by omega) (by omega)
          rw [Nat.add_sub_cancel] at this; omega)
        rw [idL_len, hnat] at hex
        have HEx := Lib.hid hex
        clear hex
        go_wp2_with fail
        refine HEx.out.mono ?_
        rintro e w3 ⟨rfl, o2, bt2⟩
        have hl3 : ltr n x = vsw (idL n) x.natAbs := by unfold ltr; rw [if_pos h0]
        rw [← hl3] at o2
        have hP3 : PM n (ltr n x) := ltr_pm hxb.1 hxb.2
        have his := o2.is (by rw [hP3.len]; omega)
        rw [hP3.len] at his
        have hfl := FlipT_calls n (ngs (ws.drop (j + 1))) _ _ (ltr n x) w3 his hP3 hn1 h8
        have HFl := Lib.hid hfl; have BT := Lib.hid bt2; have HP3 := Lib.hid hP3
        clear o2 bt2 his hfl hl3 hP3
        go_wp2_with fail
        refine HFl.out.mono ?_
        intro e w4 hr
        have hP4 := (HP3.out.flT (ngs (ws.drop (j + 1)))).1
        obtain ⟨b4, rfl, o4, lo4, x4⟩ := hr.len hP4.len
        have hxE : Ext wr w4 := (BT.out.ext X1.out L1.out).trans x4
        have hpn := (H.out.later hxE).next (by omega) o4 hP4 (Nat.le_trans H.out.x.size (Nat.le_trans X1.out.size (Nat.le_trans BT.out.2.2.2.1 lo4))) (fun e => by
          obtain ⟨z, hz⟩ := H.out.ob.mem b4 e
          have h1 := hz.lt; have h2 := X1.out.size; have h3 := BT.out.2.2.2.1; omega)
        have hdr : ws.drop j = x :: ws.drop (j + 1) := by rw [drop_cons' (by rw [← Hm.out]; omega), Hx.out]
        have hof : ofL n (ws.drop j) = flT (ngs (ws.drop (j + 1))) (ltr n x) :: ofL n (ws.drop (j + 1)) := by rw [hdr]; rfl
        have hng : ngs (ws.drop j) = ngs (ws.drop (j + 1)) := by rw [hdr, ngs, if_pos h0]; omega
        rw [← hof] at hpn
        have HPn := Lib.hid hpn; have HNg := Lib.hid hng
        obtain ⟨f, hrow, _, hsl⟩ := (H.out.later hxE).row
        obtain ⟨za, zb, zc, hz⟩ := hsl j (by omega)
        have hst := hrow.cell (i := j) (by omega)
        have hfz := hrow.frozen j
        rw [hz] at hst
        have hnb := ngs_bd (ws.drop (j + 1))
        have hdl : (ws.drop (j + 1)).length ≤ 64 := by rw [List.length_drop, ← Hm.out]; omega
        obtain ⟨bk, hbk⟩ : ∃ bk, bk = ngs (ws.drop (j + 1)) := ⟨_, rfl⟩
        rw [← hbk] at HNg hnb ⊢
        have wb1 : IntKind.i64.wrap (bk + 1) = bk + 1 := IntWalk.i64_in _ ⟨by omega, by omega⟩
        have wj : IntKind.i64.wrap ((j : Int) - 1) = (j : Int) - 1 := IntWalk.i64_in _ ⟨by omega, by omega⟩
        unfold slc at HPn
        clear hr hP4 o4 lo4 x4 hxE hpn hdr hof hng hrow hsl hz hbk hcell HFl
        go_wp2
        go_roundw
        case rel => exact ⟨j, b4 :: bs, by omega, rfl, by rw [HNg.out], HPn⟩
        case measure => simp [intOf]
      · have hnat : (x.natAbs : Int) = -x := by omega
        have wx : IntKind.i64.wrap (-x) = -x := IntWalk.i64_in _ ⟨by omega, by omega⟩

        go_wp2_with fail
        refine (Half_calls n _ h8).mono ?_
        intro e w2 hr
        obtain ⟨b1, rfl, o1, lo1, x1⟩ := hr.len (halfL_len n)
        have X1 := Lib.hid x1; have O1 := Lib.hid o1; have L1 := Lib.hid lo1
        clear hr o1 lo1 x1
        have hex := Exchange_calls b1 x.natAbs (halfL n) w2 O1.out (by rw [halfL_len]; exact h8) (by rw [halfL_len]; exact hxb) (fun i hi => by
          rw [halfL_len] at hi
          have := (PM.halfL n).1.bd (i := i + 1) (by omega) (by omega)
          rw [Nat.add_sub_cancel] at this; omega)
        rw [halfL_len, hnat] at hex
        have HEx := Lib.hid hex
        clear hex
        go_wp2_with fail
        refine HEx.out.mono ?_
        rintro e w3 ⟨rfl, o2, bt2⟩
        have hl3 : ltr n x = vsw (halfL n) x.natAbs := by unfold ltr; rw [if_neg (by omega)]
        rw [← hl3] at o2
        have hP3 : PM n (ltr n x) := ltr_pm hxb.1 hxb.2
        have his := o2.is (by rw [hP3.len]; omega)
        rw [hP3.len] at his
        have hfl := FlipT_calls n (ngs (ws.drop (j + 1))) _ _ (ltr n x) w3 his hP3 hn1 h8
        have HFl := Lib.hid hfl; have BT := Lib.hid bt2; have HP3 := Lib.hid hP3
        clear o2 bt2 his hfl hl3 hP3
        go_wp2_with fail
        refine HFl.out.mono ?_
        intro e w4 hr
        have hP4 := (HP3.out.flT (ngs (ws.drop (j + 1)))).1
        obtain ⟨b4, rfl, o4, lo4, x4⟩ := hr.len hP4.len
        have hxE : Ext wr w4 := (BT.out.ext X1.out L1.out).trans x4
        have hpn := (H.out.later hxE).next (by omega) o4 hP4 (Nat.le_trans H.out.x.size (Nat.le_trans X1.out.size (Nat.le_trans BT.out.2.2.2.1 lo4))) (fun e => by
          obtain ⟨z, hz⟩ := H.out.ob.mem b4 e
          have h1 := hz.lt; have h2 := X1.out.size; have h3 := BT.out.2.2.2.1; omega)
        have hdr : ws.drop j = x :: ws.drop (j + 1) := by rw [drop_cons' (by rw [← Hm.out]; omega), Hx.out]
        have hof : ofL n (ws.drop j) = flT (ngs (ws.drop (j + 1))) (ltr n x) :: ofL n (ws.drop (j + 1)) := by rw [hdr]; rfl
        have hng : ngs (ws.drop j) = ngs (ws.drop (j + 1)) + 1 := by rw [hdr, ngs, if_neg (by omega)]; omega
        rw [← hof] at hpn
        have HPn := Lib.hid hpn; have HNg := Lib.hid hng
        obtain ⟨f, hrow, _, hsl⟩ := (H.out.later hxE).row
        obtain ⟨za, zb, zc, hz⟩ := hsl j (by omega)
        have hst := hrow.cell (i := j) (by omega)
        have hfz := hrow.frozen j
        rw [hz] at hst
        have hnb := ngs_bd (ws.drop (j + 1))
        have hdl : (ws.drop (j + 1)).length ≤ 64 := by rw [List.length_drop, ← Hm.out]; omega
        obtain ⟨bk, hbk⟩ : ∃ bk, bk = ngs (ws.drop (j + 1)) := ⟨_, rfl⟩
        rw [← hbk] at HNg hnb ⊢
        have wb1 : IntKind.i64.wrap (bk + 1) = bk + 1 := IntWalk.i64_in _ ⟨by omega, by omega⟩
        have wj : IntKind.i64.wrap ((j : Int) - 1) = (j : Int) - 1 := IntWalk.i64_in _ ⟨by omega, by omega⟩
        unfold slc at HPn
        clear hr hP4 o4 lo4 x4 hxE hpn hdr hof hng hrow hsl hz hbk hcell HFl
        go_wp2
        go_roundw
        case rel => exact ⟨j, b4 :: bs, by omega, rfl, by rw [HNg.out], HPn⟩
        case measure => simp [intOf]
end Go.Proofs.YtigffblelngpjaaDoor
