/- Texts of this claim in one file: libraries and walks. -/
import Derived.Deep.CutBlock
import Derived.Test.YtlhkehfplcclgaaDoorL7
import Derived.Test.YtlhkehfplcclgaaDoorL13
/- T.Of: the walk. -/
namespace Go.Proofs.YtlhkehfplcclgaaDoor
set_option linter.unusedVariables false
set_option linter.unusedSimpArgs false
set_option maxRecDepth 8000
open Go Go.RowKit

/-- The table of plain data is returned: it lies in blocks that the call has made. -/
def RetT (w : World) (xs : List LD) (en : Ending) (w' : World) : Prop := ∃ g0 F us vs fv mv, en = .returned (.tuple #[.slice (some ⟨g0, 0, none⟩) 6 6, mv]) ∧ w.heap.size ≤ g0 ∧ OT g0 w' F us vs (ofT xs) fv mv ∧ Ext w w'
set_option maxHeartbeats 16000000 in
theorem OfT_calls (xv : Value) (cx : Nat) (xs : List LD) (w : World) (hx : LI w xv cx xs) (hin : ∀ x ∈ xs, x.In) :
    Calls Tryd.prog 27 #[xv] w (RetT w xs) := by
  have hmk : ∀ w, (Instr.makeSlice 31 (.int .i64 6) (.int .i64 6)).run Tryd.prog w = .ok (.slice (some ⟨w.heap.size, 0, none⟩) 6 6) (w.alloc (.cells (madeCells #[.slice none 0 0] 6) 47)) := fun w => by
    have h1 := make_k ekT (by decide) 6 (by omega) .i64 .i64 w
    exact h1
  obtain ⟨xa, n, rfl, hn, hnc, hc9, hat⟩ := hx.open
  obtain ⟨W, hW⟩ : ∃ W, W = w.alloc (.cells (madeCells #[.slice none 0 0] 6) 47) := ⟨_, rfl⟩
  obtain ⟨g0, hg0⟩ : ∃ g0, g0 = w.heap.size := ⟨_, rfl⟩
  obtain ⟨M, hM⟩ : ∃ M, M = min n 60 := ⟨_, rfl⟩
  have H0 := Lib.hid (show Ext w W ∧ OT g0 W (fun _ => .slice none 0 0) (fun _ _ => .slice none 0 0) (fun _ _ => .slice none 0 0) initT (.slice none 0 0) (.slice none 0 0) from ⟨by rw [hW]; exact (Ext.refl _).alloc _, OT.init (by rw [hW, hg0]; exact World.rowIs_made w _ 6 _)⟩)
  have Hat := Lib.hid hat
  have Hin := Lib.hid (show ∀ i, i < n → (ldi xs i).In from fun i hi => hin _ (ldi_mem (by omega)))
  have Hn := Lib.hid hn
  have HW := Lib.hid hW; have Hg0 := Lib.hid hg0; have HM := Lib.hid hM
  clear hx hin hn hat hW hg0 hM
  go_enter Tryd.func27, Tryd.ntmps27
  go_wp2
  rw [← HW.out, ← Hg0.out]
  go_loopg [5, 6, 7, 8, 9, 10, 11, 12, 13, 14] M (fun gk fr md i _ _ _ _ _ _ _ wr => ∃ (k : Nat) (s : TS) (F : Nat → Value) (us vs : Nat → Nat → Value), k + gk = M ∧ i = .int .i64 k ∧ Hid (Ext w wr ∧ OT g0 wr F us vs s fr md ∧ s = (xs.take k).foldl stepT initT))
  case atStart => exact ⟨0, _, _, _, _, by omega, rfl, Lib.hid ⟨H0.out.1, H0.out.2, rfl⟩⟩
  case round =>
    obtain ⟨k, s, F, us, vs, hkg, rfl, G⟩ := hrel
    by_cases hkM : k < M
    · have hkn : k < n := by have := HM.out; omega
      have hk60 : k < 60 := by have := HM.out; omega
      obtain ⟨b, o, a1, n1, d1, a2, n2, d2, rfl, hA, hB1, hB2⟩ := Hat.out k hkn
      have hI := Hin.out k hkn
      obtain ⟨x, hxd⟩ : ∃ x, x = ldi xs k := ⟨_, rfl⟩
      rw [← hxd] at hA hB1 hB2 hI
      have f1 : (k : Int) < n := by omega
      have f2 : (k : Int) < 60 := by omega
      have f3 : (0 : Int) ≤ k := by omega
      obtain ⟨p0, p1, p2, p3, p4⟩ := hA.ext G.out.1
      obtain ⟨Y, hY⟩ : ∃ Y, Y = yOf x := ⟨_, rfl⟩
      have hY6 : Y < 6 := by rw [hY]; exact Nat.mod_lt _ (by decide)
      have hA0 := Lib.hid hA; have HB1 := Lib.hid hB1; have HB2 := Lib.hid hB2; have HI := Lib.hid hI; have HY := Lib.hid hY; have HX := Lib.hid hxd
      have y1 : x.y.tmod 6 = (Y : Int) := by
        rw [hY]; unfold yOf
        have := hI.1
        rw [Int.tmod_eq_emod_of_nonneg this.1]; omega
      clear hA hB1 hB2 hI hY hxd
      go_upto_region 7 with fail
      obtain ⟨fa, fc, rfl, hfc⟩ := own_slice G.out.2.1.free
      obtain ⟨ma, mc, rfl, hmc⟩ := own_slice G.out.2.1.made
      obtain ⟨nf, hnf⟩ : ∃ nf, nf = s.free.length := ⟨_, rfl⟩
      obtain ⟨nm, hnm⟩ : ∃ nm, nm = s.made.length := ⟨_, rfl⟩
      obtain ⟨ra, rc, hrY, hrc⟩ := own_slice (G.out.2.1.rows Y hY6).row
      obtain ⟨L, hL⟩ : ∃ L, L = (yi s.t Y).length := ⟨_, rfl⟩
      obtain ⟨gl, hgl⟩ : ∃ gl, gl = wr.heap.size := ⟨_, rfl⟩
      obtain ⟨NW, hNW⟩ : ∃ NW, NW = (x.new || decide (L = 0)) := ⟨_, rfl⟩
      have c1 := G.out.2.1.tab.cell hY6
      rw [hrY, ← hL] at c1
      rw [← hnf, ← hnm] at G
      rw [← hnf] at hfc
      rw [← hnm] at hmc
      have HrY := Lib.hid (And.intro hrY hrc)
      have HL := Lib.hid hL; have Hgl := Lib.hid hgl; have HNW := Lib.hid hNW; have Hnf := Lib.hid hnf; have Hnm := Lib.hid hnm
      have HS : Hid (∀ B : Bool, B = NW → OA g0 gl (wr.alloc (.cells #[.int .u8 0, .bool B, .slice none 0 0, .slice none 0 0] 46)) F us vs s (.slice fa nf fc) (.slice ma nm mc) 0 NW (.slice none 0 0) (.slice none 0 0) [] [] ∧ Ext w (wr.alloc (.cells #[.int .u8 0, .bool B, .slice none 0 0, .slice none 0 0] 46))) := Lib.hid fun B hB => by
        have hx := (Ext.refl wr).alloc (.cells #[.int .u8 0, .bool B, .slice none 0 0, .slice none 0 0] 46)
        exact ⟨⟨G.out.2.1.ext hx, OC.start G.out.2.1 hgl (by rw [hgl, ← hB]; exact B4.new _ _ _ _ _ _)⟩, G.out.1.trans hx⟩
      rw [← hnf, ← hnm]
      have HT := Lib.hid (show TBd s k by rw [G.out.2.2]; exact TBd.of xs (by have := Hn.out; omega) (by omega))
      clear hrY hL hgl hNW hnf hnm hrc
      have e0 : (0 : Int) ≤ Y := by omega
      have e6 : (Y : Int) < 6 := by omega
      go_cut [9] from 16 to 181 (fun l wx => l = .pointer (some ⟨gl, 0, none⟩) ∧ Hid (Ext w wx ∧ OA g0 gl wx F us vs s (.slice fa nf fc) (.slice ma nm mc) 0 NW (.slice none 0 0) (.slice none 0 0) [] []))
      case first =>
        cases hnew : x.new with
        | true =>
          have HN := Lib.hid (HS.out true (by rw [HNW.out, hnew, Bool.true_or]))
          rw [hnew] at p2
          clear hnew
          go_wp2_with fail
          go_meet
          case rel => exact ⟨by rw [Hgl.out], Lib.hid ⟨HN.out.2, HN.out.1⟩⟩
        | false =>
          have HN := Lib.hid (HS.out (decide (L = 0)) (by rw [HNW.out, hnew, Bool.false_or]))
          rw [hnew] at p2
          clear hnew
          rw [show decide (L = 0) = ((L : Int) == 0) by rw [Bool.eq_iff_iff]; simp] at HN
          go_wp2_with fail
          go_meet
          case rel => exact ⟨by rw [Hgl.out], Lib.hid ⟨HN.out.2, HN.out.1⟩⟩
      case rest =>
        obtain ⟨rfl, G2⟩ := hcut
        obtain ⟨wd, hwd⟩ : ∃ wd, wd = wc := ⟨_, rfl⟩
        subst hwd
        clear p0 p1 p2 p3 p4 c1 e0 e6
        obtain ⟨p0, p1, p2, p3, p4⟩ := hA0.out.ext G2.out.1
        obtain ⟨BD, hBD⟩ : ∃ BD : Int, BD = if x.back then 1 else 0 := ⟨_, rfl⟩
        have HBD := Lib.hid hBD
        clear hBD
        go_upto_if 51 with fail
        go_cut [9] from 16 to 181 (fun l wx => l = .pointer (some ⟨gl, 0, none⟩) ∧ Hid (Ext w wx ∧ OA g0 gl wx F us vs s (.slice fa nf fc) (.slice ma nm mc) BD NW (.slice none 0 0) (.slice none 0 0) [] []))
        case first =>
          cases hbk : x.back with
          | true =>
            have hsz := G2.out.2.c.b
            have h0 : w.heap.size ≤ g0 := by rw [← Hg0.out]; exact Nat.le_refl _
            have HN := Lib.hid (show Ext w (wd.setCell ⟨gl, 0, none⟩ (.int .u8 1)) ∧ OA g0 gl (wd.setCell ⟨gl, 0, none⟩ (.int .u8 1)) F us vs s (.slice fa nf fc) (.slice ma nm mc) BD NW (.slice none 0 0) (.slice none 0 0) [] [] from ⟨Ext.setCell G2.out.1 (by dsimp only; omega) _, by rw [HBD.out, hbk, if_pos rfl]; exact G2.out.2.bed 1⟩)
            have q0 := G2.out.2.c.box.c0
            have q1 := G2.out.2.c.box.fr 0
            rw [hbk] at p1
            clear hbk hsz h0
            go_wp2_with fail
            go_meet
            case rel => exact ⟨rfl, HN⟩
          | false =>
            have HN := Lib.hid (show Ext w wd ∧ OA g0 gl wd F us vs s (.slice fa nf fc) (.slice ma nm mc) BD NW (.slice none 0 0) (.slice none 0 0) [] [] from ⟨G2.out.1, by rw [HBD.out, hbk, if_neg (by decide)]; exact G2.out.2⟩)
            rw [hbk] at p1
            clear hbk
            go_wp2_with fail
            go_meet
            case rel => exact ⟨rfl, HN⟩
        case rest =>
          obtain ⟨rfl, G3⟩ := hcut
          obtain ⟨we, hwe⟩ : ∃ we, we = wc := ⟨_, rfl⟩
          subst hwe
          obtain ⟨ks, hks⟩ : ∃ ks, ks = x.thr.take 4 := ⟨_, rfl⟩
          have hkl : ks.length = min 4 n1 := by rw [hks, List.length_take, HB1.out.1]
          have Hks := Lib.hid (And.intro hks hkl)
          have hf60 : nf ≤ 60 := by have h1 := HT.out.f; have h2 := Hnf.out; omega
          clear p0 p1 p2 p3 p4 hks hkl
          go_upto_block 2 with fail
          go_cut [5] from 16 to 181 (fun fr wx => ∃ fa fc lf tv, fr = .slice fa lf fc ∧ Hid (lf = (thrL ks s.free).2.length ∧ Ext w wx ∧ OA g0 gl wx F us vs ⟨s.t, (thrL ks s.free).2, s.made⟩ (.slice fa lf fc) (.slice ma nm mc) BD NW tv (.slice none 0 0) (thrL ks s.free).1 []))
          case first => as_aux_lemma =>
            go_wp2_with fail
            go_loopg [5, 10, 11] 5 (fun gk fr i _ wq => ∃ (j : Nat) (th f : List Nm) (fa : Option Addr) (lf fc : Nat) (tv : Value), j + gk = 5 ∧ i = .int .i64 j ∧ fr = .slice fa lf fc ∧ lf = f.length ∧ j + lf ≤ nf ∧ Hid (Ext w wq ∧ OA g0 gl wq F us vs ⟨s.t, f, s.made⟩ (.slice fa lf fc) (.slice ma nm mc) BD NW tv (.slice none 0 0) th [] ∧ ThrR ks s.free j th f ∧ th.length = j))
            case atStart => exact ⟨0, _, _, _, _, _, _, by omega, rfl, rfl, Hnf.out, by omega, Lib.hid ⟨G3.out.1, by rw [Hnf.out]; rw [Hnf.out] at G3; exact G3.out.2, ThrR.start _ _, rfl⟩⟩
            case round =>
              obtain ⟨j, th, f, fa, lf, fc, tv, hjg, rfl, rfl, hlf, hjn, G4⟩ := hrel
              obtain ⟨q0, q1, q2, q3, q4⟩ := hA0.out.ext G4.out.1
              clear q1 q2 q4
              have HLf := Lib.hid hlf
              clear hlf
              by_cases hj1 : j < n1 ∧ j < 4 ∧ 0 < lf
              · obtain ⟨j1, j2, j3⟩ := hj1
                have j1' : (j : Int) < n1 := by omega
                have j2' : (j : Int) < 4 := by omega
                have j3' : (0 : Int) < lf := by omega
                have j4 : (0 : Int) ≤ j := by omega
                obtain ⟨hb, ho, rfl, hg⟩ := HB1.out.2 j j1
                have hgi := HI.out.2.1 j (by rw [← HB1.out.1]; exact j1)
                have cg := G4.out.1.cell hg
                obtain ⟨z, hz⟩ : ∃ z, z = gi x.thr j := ⟨_, rfl⟩
                rw [← hz] at cg hgi
                obtain ⟨d, hd⟩ : ∃ d, d = z.toNat % lf := ⟨_, rfl⟩
                have hdl : d < lf := by rw [hd]; exact Nat.mod_lt _ (by omega)
                have y2 : z.tmod (lf : Int) = (d : Int) := by
                  rw [Int.tmod_eq_emod_of_nonneg hgi.1, hd, Int.natCast_emod, Int.toNat_of_nonneg hgi.1]
                have y4 : wrap64 z = z := IntWalk.wrap64_in _ ⟨by omega, by omega⟩
                have y3 : ¬ ((lf : Int) = 0) := by omega
                have Hz := Lib.hid (And.intro hz (And.intro hgi hd))
                clear hz hgi hd hg
                have hfree : wr.ownsRow (g0 + 1) 41 2 (.slice fa lf fc) lf (f.map Nm.cs).flatten := by
                  have h1 : wr.ownsRow (g0 + 1) 41 2 (.slice fa lf fc) f.length (f.map Nm.cs).flatten := G4.out.2.1.t.free
                  rw [← HLf.out] at h1; exact h1
                obtain ⟨fb, fo, rfl, hAf⟩ := own_at2 hfree HLf.out hdl
                obtain ⟨ta, tc, htv, htc⟩ := own_slice G4.out.2.1.c.th
                have hth := G4.out.2.2.2
                rw [hth] at htv htc
                subst htv
                obtain ⟨A, hAd⟩ : ∃ A, A = ni f d := ⟨_, rfl⟩
                rw [← hAd] at hAf
                have p5 := G4.out.2.1.c.box.c2
                have p6 := cell_alloc G4.out.2.1.c.box.c2 (.cells #[.int .u8 A.y, .int .i64 A.n] 41)
                obtain ⟨q0_1, q0_2⟩ := hAf
                have HAt := Lib.hid (show ∀ w' : World, w'.ownsRow (g0 + 1) 41 2 (.slice (some ⟨fb, fo, none⟩) lf fc) f.length (f.map Nm.cs).flatten → At2 w' fb (fo + d * 2) A from fun w' h => by
                  rw [← HLf.out] at h
                  obtain ⟨b', o', e, h2⟩ := own_at2 h HLf.out hdl
                  cases e
                  rw [hAd]; exact h2)
                have HgF : Hid (fb ≠ gl) := Lib.hid (fun e => own_b4 hfree G4.out.2.1.c.box (by decide) (by rw [← e]; exact own_blk hfree (by omega)))
                have HAd := Lib.hid hAd
                have HTh := Lib.hid (show wr.ownsRow (g0 + 1) 41 2 (.slice ta j tc) j (th.map Nm.cs).flatten by have := G4.out.2.1.c.th; rw [hth] at this; exact this)
                have HFr := Lib.hid hfree
                have HthL := Lib.hid hth
                have HSz := Lib.hid (show g0 + 1 ≤ wr.heap.size from G4.out.2.1.t.tab.lt)
                have j5 : (0 : Int) ≤ d := by omega
                have j6 : (d : Int) < lf := by omega
                have h0g : w.heap.size ≤ g0 := by rw [← Hg0.out]; exact Nat.le_refl _
                have HgB := Lib.hid (And.intro h0g G4.out.2.1.c.b)
                clear hfree hth hAd h0g
                go_upto_region 14 with fail
                clear q0 cg
                go_cut [11] from 53 to 102 (fun i wx => i = .int .i64 d ∧ ∃ a5 c5, Hid (OA g0 gl wx F us vs ⟨s.t, f, s.made⟩ (.slice (some ⟨fb, fo, none⟩) lf fc) (.slice ma nm mc) BD NW (.slice a5 (j + 1) c5) (.slice none 0 0) (th ++ [A]) [] ∧ Ext w wx))
                case first =>
                  refine wp_region_held_drew (S := fun w' => w'.cell? ⟨fb, fo + d * 2, Option.none⟩ = some (.int .u8 A.y) ∧ w'.cell? ⟨fb, fo + d * 2 + 1, Option.none⟩ = some (.int .i64 A.n)) (by kernel_rfl) ?_ (fun hHeld => ?_)
                  · exact ⟨q0_1, q0_2⟩
                  refine wpAnyH_take (i := 0) (v := ?va202_0) rfl (by kernel_rfl) (by kernel_rfl) (by kernel_rfl) (fun _ _ _ h => h) (Or.inl ⟨by rfl, fun w hSw => ?ti202_0⟩) (by assumption) ?rest202_0
                  case ti202_0 => ((try dsimp only at hSw); go_simp; (first | done | with_reducible rfl))
                  try simp only [Act.put, List.getElem_toArray, List.getElem_cons_zero, List.getElem_cons_succ, List.setIfInBounds_toArray, List.set_cons_zero, List.set_cons_succ]
                  refine wpAnyH_take (i := 2) (v := ?va205_2) rfl (by kernel_rfl) (by kernel_rfl) (by kernel_rfl) (fun _ _ _ h => h) (Or.inl ⟨by rfl, fun w hSw => ?ti205_2⟩) (by assumption) ?rest205_2
                  case ti205_2 => ((try dsimp only at hSw); go_simp; (first | done | with_reducible rfl))
                  try simp only [Act.put, List.getElem_toArray, List.getElem_cons_zero, List.getElem_cons_succ, List.setIfInBounds_toArray, List.set_cons_zero, List.set_cons_succ]
                  refine wpAnyH_take (i := 3) (v := ?va208_3) rfl (by kernel_rfl) (by kernel_rfl) (by kernel_rfl) (fun _ _ _ h => h) (Or.inl ⟨by rfl, fun w hSw => ?ti208_3⟩) (by assumption) ?rest208_3
                  case ti208_3 => ((try dsimp only at hSw); go_simp; (first | done | with_reducible rfl))
                  try simp only [Act.put, List.getElem_toArray, List.getElem_cons_zero, List.getElem_cons_succ, List.setIfInBounds_toArray, List.set_cons_zero, List.set_cons_succ]
                  refine wpAnyH_take (i := 4) (v := ?va211_4) rfl (by kernel_rfl) (by kernel_rfl) (by kernel_rfl) (fun _ _ _ h => h) (Or.inl ⟨by rfl, fun w hSw => ?ti211_4⟩) (by assumption) ?rest211_4
                  case ti211_4 => ((try dsimp only at hSw); go_simp; (first | done | with_reducible rfl))
                  try simp only [Act.put, List.getElem_toArray, List.getElem_cons_zero, List.getElem_cons_succ, List.setIfInBounds_toArray, List.set_cons_zero, List.set_cons_succ]
                  refine wpAnyH_take (i := 5) (v := ?va214_5) rfl (by kernel_rfl) (by kernel_rfl) (by kernel_rfl) (fun _ _ _ h => h) (Or.inl ⟨by rfl, fun w hSw => ?ti214_5⟩) (by assumption) ?rest214_5
                  case ti214_5 => ((try dsimp only at hSw); go_simp; (first | done | with_reducible rfl))
                  try simp only [Act.put, List.getElem_toArray, List.getElem_cons_zero, List.getElem_cons_succ, List.setIfInBounds_toArray, List.set_cons_zero, List.set_cons_succ]
                  refine wpAnyH_ready (rs := [1, 6]) (by kernel_rfl) (by simp) ?_
                  refine AllReadyH.cons rfl (fun K hK => ?_) (AllReadyH.cons rfl (fun K hK => ?_) AllReadyH.nil)
                  · as_aux_lemma =>
                    go_simp
                    refine hK.out _ _ hHeld (fun hHeld => ?_)
                    clear hK K; try simp only [Act.put, List.getElem_toArray, List.getElem_cons_zero, List.getElem_cons_succ, List.setIfInBounds_toArray, List.set_cons_zero, List.set_cons_succ]
                    refine wpAnyH_ready (rs := [6]) (by kernel_rfl) (by simp) ?_
                    refine AllReadyH.cons rfl (fun K hK => ?_) AllReadyH.nil
                    go_simp
                    refine hK.out _ _ ⟨cell_alloc q0_1 _, cell_alloc q0_2 _⟩ (fun hHeld => ?_)
                    clear hK K; try simp only [Act.put, List.getElem_toArray, List.getElem_cons_zero, List.getElem_cons_succ, List.setIfInBounds_toArray, List.set_cons_zero, List.set_cons_succ]
                    refine wpAnyH_ready (rs := [7]) (by kernel_rfl) (by simp) ?_
                    refine AllReadyH.cons rfl (fun K hK => ?_) AllReadyH.nil
                    refine step_app ekN (by rfl) _ _ (by rfl) (g0 + 1) (.slice ta j tc) j (th.map Nm.cs) (by rfl) (own_extk HTh.out (by (focus (repeat (first | (with_reducible exact Ext.refl _) | (with_reducible apply Ext.drew) | (with_reducible apply Ext.drewN) | (with_reducible apply Ext.alloc)))))) _ 1 [Nm.cs A] (by rfl) (CK.of_blk (Deep.blk_alloc_new _ _) (Ks.nm [A]) rfl (Nat.le_refl _) (by omega) rfl) (Ks.nm [A]) (by simp; omega) (by simp; omega) (Nat.le_trans HSz.out (Ext.size (by (focus (repeat (first | (with_reducible exact Ext.refl _) | (with_reducible apply Ext.drew) | (with_reducible apply Ext.drewN) | (with_reducible apply Ext.alloc))))))) ?_
                    intro v5 w5 hown hgr hat
                    obtain ⟨a5, c5, rfl, _⟩ := own_slice hown
                    have HK := Lib.hid (OA.thrK (OA.ext G4.out.2.1 (by (focus (repeat (first | (with_reducible exact Ext.refl _) | (with_reducible apply Ext.drew) | (with_reducible apply Ext.drewN) | (with_reducible apply Ext.alloc)))))) hgr)
                    have HN5 := Lib.hid (OA.thr (OA.ext G4.out.2.1 (by (focus (repeat (first | (with_reducible exact Ext.refl _) | (with_reducible apply Ext.drew) | (with_reducible apply Ext.drewN) | (with_reducible apply Ext.alloc)))))) hgr hat (show w5.ownsRow (g0 + 1) _ 2 (.slice a5 (j + 1) c5) (th.length + 1) ((th ++ [A]).map Nm.cs).flatten by rw [List.map_append, HthL.out]; exact hown))
                    have X5 : Hid (Ext w (w5.setCell ⟨gl, 2, none⟩ (.slice a5 (j + 1) c5))) := Lib.hid (Ext.setCell (Ext.grown (G4.out.1.trans (by (focus (repeat (first | (with_reducible exact Ext.refl _) | (with_reducible apply Ext.drew) | (with_reducible apply Ext.drewN) | (with_reducible apply Ext.alloc)))))) hgr fun g hg => Nat.le_trans HgB.out.1 (Nat.le_of_succ_le (HTh.out.lt g hg).1)) (Nat.le_trans HgB.out.1 (Nat.le_of_lt HgB.out.2)) _)
                    have p0 := HK.out.1.c2; have p1 := HK.out.1.fr 2
                    obtain ⟨r1, r2⟩ := HAt.out _ HK.out.2.1
                    clear hown hgr hat
                    refine hK.out _ _ ⟨r1, r2⟩ (fun hHeld => ?_)
                    clear hK K; try simp only [Act.put, List.getElem_toArray, List.getElem_cons_zero, List.getElem_cons_succ, List.setIfInBounds_toArray, List.set_cons_zero, List.set_cons_succ]
                    refine wpAnyH_ready (rs := [8]) (by kernel_rfl) (by simp) ?_
                    refine AllReadyH.cons rfl (fun K hK => ?_) AllReadyH.nil
                    go_simp
                    refine hK.out _ _ ⟨r1, r2⟩ (fun hHeld => ?_)
                    clear hK K; try simp only [Act.put, List.getElem_toArray, List.getElem_cons_zero, List.getElem_cons_succ, List.setIfInBounds_toArray, List.set_cons_zero, List.set_cons_succ]
                    refine wpAnyH_ready (rs := [9]) (by kernel_rfl) (by simp) ?_
                    refine AllReadyH.cons rfl (fun K hK => ?_) AllReadyH.nil
                    go_simp
                    refine hK.out _ _ ⟨cell_set r1 HgF.out _, cell_set r2 HgF.out _⟩ (fun hHeld => ?_)
                    clear hK K; try simp only [Act.put, List.getElem_toArray, List.getElem_cons_zero, List.getElem_cons_succ, List.setIfInBounds_toArray, List.set_cons_zero, List.set_cons_succ]
                    refine wpAnyH_done (by kernel_rfl) ?_ _
                    go_wp2_with fail
                    go_meet
                    exact ⟨rfl, _, _, Lib.hid ⟨HN5.out, X5.out⟩⟩
                  · as_aux_lemma =>
                    go_simp
                    refine hK.out _ _ ⟨cell_alloc q0_1 _, cell_alloc q0_2 _⟩ (fun hHeld => ?_)
                    clear hK K; try simp only [Act.put, List.getElem_toArray, List.getElem_cons_zero, List.getElem_cons_succ, List.setIfInBounds_toArray, List.set_cons_zero, List.set_cons_succ]
                    refine wpAnyH_ready (rs := [1]) (by kernel_rfl) (by simp) ?_
                    refine AllReadyH.cons rfl (fun K hK => ?_) AllReadyH.nil
                    go_simp
                    refine hK.out _ _ ⟨cell_alloc q0_1 _, cell_alloc q0_2 _⟩ (fun hHeld => ?_)
                    clear hK K; try simp only [Act.put, List.getElem_toArray, List.getElem_cons_zero, List.getElem_cons_succ, List.setIfInBounds_toArray, List.set_cons_zero, List.set_cons_succ]
                    refine wpAnyH_ready (rs := [7]) (by kernel_rfl) (by simp) ?_
                    refine AllReadyH.cons rfl (fun K hK => ?_) AllReadyH.nil
                    refine step_app ekN (by rfl) _ _ (by rfl) (g0 + 1) (.slice ta j tc) j (th.map Nm.cs) (by rfl) (own_extk HTh.out (by (focus (repeat (first | (with_reducible exact Ext.refl _) | (with_reducible apply Ext.drew) | (with_reducible apply Ext.drewN) | (with_reducible apply Ext.alloc)))))) _ 1 [Nm.cs A] (by rfl) (CK.of_blk (Deep.blk_alloc_new _ _) (Ks.nm [A]) rfl (Nat.le_refl _) (by omega) rfl) (Ks.nm [A]) (by simp; omega) (by simp; omega) (Nat.le_trans HSz.out (Ext.size (by (focus (repeat (first | (with_reducible exact Ext.refl _) | (with_reducible apply Ext.drew) | (with_reducible apply Ext.drewN) | (with_reducible apply Ext.alloc))))))) ?_
                    intro v5 w5 hown hgr hat
                    obtain ⟨a5, c5, rfl, _⟩ := own_slice hown
                    have HK := Lib.hid (OA.thrK (OA.ext G4.out.2.1 (by (focus (repeat (first | (with_reducible exact Ext.refl _) | (with_reducible apply Ext.drew) | (with_reducible apply Ext.drewN) | (with_reducible apply Ext.alloc)))))) hgr)
                    have HN5 := Lib.hid (OA.thr (OA.ext G4.out.2.1 (by (focus (repeat (first | (with_reducible exact Ext.refl _) | (with_reducible apply Ext.drew) | (with_reducible apply Ext.drewN) | (with_reducible apply Ext.alloc)))))) hgr hat (show w5.ownsRow (g0 + 1) _ 2 (.slice a5 (j + 1) c5) (th.length + 1) ((th ++ [A]).map Nm.cs).flatten by rw [List.map_append, HthL.out]; exact hown))
                    have X5 : Hid (Ext w (w5.setCell ⟨gl, 2, none⟩ (.slice a5 (j + 1) c5))) := Lib.hid (Ext.setCell (Ext.grown (G4.out.1.trans (by (focus (repeat (first | (with_reducible exact Ext.refl _) | (with_reducible apply Ext.drew) | (with_reducible apply Ext.drewN) | (with_reducible apply Ext.alloc)))))) hgr fun g hg => Nat.le_trans HgB.out.1 (Nat.le_of_succ_le (HTh.out.lt g hg).1)) (Nat.le_trans HgB.out.1 (Nat.le_of_lt HgB.out.2)) _)
                    have p0 := HK.out.1.c2; have p1 := HK.out.1.fr 2
                    obtain ⟨r1, r2⟩ := HAt.out _ HK.out.2.1
                    clear hown hgr hat
                    refine hK.out _ _ ⟨r1, r2⟩ (fun hHeld => ?_)
                    clear hK K; try simp only [Act.put, List.getElem_toArray, List.getElem_cons_zero, List.getElem_cons_succ, List.setIfInBounds_toArray, List.set_cons_zero, List.set_cons_succ]
                    refine wpAnyH_ready (rs := [8]) (by kernel_rfl) (by simp) ?_
                    refine AllReadyH.cons rfl (fun K hK => ?_) AllReadyH.nil
                    go_simp
                    refine hK.out _ _ ⟨r1, r2⟩ (fun hHeld => ?_)
                    clear hK K; try simp only [Act.put, List.getElem_toArray, List.getElem_cons_zero, List.getElem_cons_succ, List.setIfInBounds_toArray, List.set_cons_zero, List.set_cons_succ]
                    refine wpAnyH_ready (rs := [9]) (by kernel_rfl) (by simp) ?_
                    refine AllReadyH.cons rfl (fun K hK => ?_) AllReadyH.nil
                    go_simp
                    refine hK.out _ _ ⟨cell_set r1 HgF.out _, cell_set r2 HgF.out _⟩ (fun hHeld => ?_)
                    clear hK K; try simp only [Act.put, List.getElem_toArray, List.getElem_cons_zero, List.getElem_cons_succ, List.setIfInBounds_toArray, List.set_cons_zero, List.set_cons_succ]
                    refine wpAnyH_done (by kernel_rfl) ?_ _
                    go_wp2_with fail
                    go_meet
                    exact ⟨rfl, _, _, Lib.hid ⟨HN5.out, X5.out⟩⟩
                case rest =>
                  obtain ⟨rfl, a5, c5, G5⟩ := hcut
                  obtain ⟨wf, hwf⟩ : ∃ wf, wf = wc := ⟨_, rfl⟩
                  subst hwf
                  have hck : ∀ w', Ext wf w' → CK 2 w' (.slice (some ⟨fb, fo, none⟩) lf fc) fc (f.map Nm.cs) := fun w' x => by
                    have h1 : wf.ownsRow (g0 + 1) 41 2 (.slice (some ⟨fb, fo, none⟩) lf fc) f.length (f.map Nm.cs).flatten := G5.out.1.t.free
                    rw [← HLf.out] at h1
                    exact own_ck (own_extk h1 x) HLf.out
                  have hfl : (f.map Nm.cs).length = lf := by rw [List.length_map]; exact HLf.out.symm
                  have HTk := Lib.hid (show ∀ w', Ext wf w' → CK 2 w' (.slice (some ⟨fb, fo, none⟩) d fc) fc ((f.take d).map Nm.cs) from fun w' x => by rw [List.map_take]; exact CK.take (hck w' x) (by omega))
                  have HDr := Lib.hid (show ∀ w', Ext wf w' → CK 2 w' (.slice (some ⟨fb, fo + (d + 1) * 2, none⟩) (lf - (d + 1)) (fc - (d + 1))) (fc - (d + 1)) ((f.drop (d + 1)).map Nm.cs) from fun w' x => by rw [List.map_drop]; have := CK.drop (hck w' x) (l := d + 1) (by omega); rw [hfl] at this; exact this)
                  have hlc : lf ≤ fc := by have := hck wf (Ext.refl _); obtain ⟨ao, e, h1, h2⟩ := this; omega
                  have hc9' : fc ≤ 9223372036854775807 := by have := hck wf (Ext.refl _); obtain ⟨ao, e, h1, h2, h3⟩ := this; exact h2
                  clear hck hfl
                  have k1 : IntKind.i64.wrap ((d : Int) + 1) = (d : Int) + 1 := IntWalk.i64_in _ ⟨by omega, by omega⟩
                  have k2 : (d : Int) + 1 ≤ lf := by omega
                  have k3 : (d : Int) ≤ fc := by omega
                  have k4 : (lf : Int) ≤ fc := by omega
                  have k5 : (0 : Int) ≤ (d : Int) + 1 := by omega
                  go_upto_region 15 with fail
                  by_cases hcd : fc = d + 1
                  case neg => as_aux_lemma =>
                    have hcd' : ¬ (d + 1 = fc) := fun e => hcd e.symm
                    refine wp_region_held_drew (S := fun w' => True) (by kernel_rfl) ?_ (fun hHeld => ?_)
                    · exact trivial
                    refine wpAnyH_take (i := 1) (v := ?va316_1) rfl (by kernel_rfl) (by kernel_rfl) (by kernel_rfl) (fun _ _ _ h => h) (Or.inl ⟨by rfl, fun w hSw => ?ti316_1⟩) (by assumption) ?rest316_1
                    case ti316_1 => ((try dsimp only at hSw); go_simp; (first | done | with_reducible rfl))
                    try simp only [Act.put, List.getElem_toArray, List.getElem_cons_zero, List.getElem_cons_succ, List.setIfInBounds_toArray, List.set_cons_zero, List.set_cons_succ]
                    refine wpAnyH_take (i := 2) (v := ?va319_2) rfl (by kernel_rfl) (by kernel_rfl) (by kernel_rfl) (fun _ _ _ h => h) (Or.inl ⟨by rfl, fun w hSw => ?ti319_2⟩) (by assumption) ?rest319_2
                    case ti319_2 => ((try dsimp only at hSw); go_simp; (first | done | with_reducible rfl))
                    try simp only [Act.put, List.getElem_toArray, List.getElem_cons_zero, List.getElem_cons_succ, List.setIfInBounds_toArray, List.set_cons_zero, List.set_cons_succ]
                    refine wpAnyH_take (i := 3) (v := ?va322_3) rfl (by kernel_rfl) (by kernel_rfl) (by kernel_rfl) (fun _ _ _ h => h) (Or.inl ⟨by rfl, fun w hSw => ?ti322_3⟩) (by assumption) ?rest322_3
                    case ti322_3 => ((try dsimp only at hSw); go_simp; (first | done | with_reducible rfl))
                    try simp only [Act.put, List.getElem_toArray, List.getElem_cons_zero, List.getElem_cons_succ, List.setIfInBounds_toArray, List.set_cons_zero, List.set_cons_succ]
                    refine wpAnyH_take (i := 5) (v := ?va325_5) rfl (by kernel_rfl) (by kernel_rfl) (by kernel_rfl) (fun _ _ _ h => h) (Or.inl ⟨by rfl, fun w hSw => ?ti325_5⟩) (by assumption) ?rest325_5
                    case ti325_5 => ((try dsimp only at hSw); go_simp; (first | done | with_reducible rfl))
                    try simp only [Act.put, List.getElem_toArray, List.getElem_cons_zero, List.getElem_cons_succ, List.setIfInBounds_toArray, List.set_cons_zero, List.set_cons_succ]
                    refine wpAnyH_take (i := 6) (v := ?va328_6) rfl (by kernel_rfl) (by kernel_rfl) (by kernel_rfl) (fun _ _ _ h => h) (Or.inl ⟨by rfl, fun w hSw => ?ti328_6⟩) (by assumption) ?rest328_6
                    case ti328_6 => ((try dsimp only at hSw); go_simp; (first | done | with_reducible rfl))
                    try simp only [Act.put, List.getElem_toArray, List.getElem_cons_zero, List.getElem_cons_succ, List.setIfInBounds_toArray, List.set_cons_zero, List.set_cons_succ]
                    refine wpAnyH_take (i := 7) (v := ?va331_7) rfl (by kernel_rfl) (by kernel_rfl) (by kernel_rfl) (fun _ _ _ h => h) (Or.inl ⟨by rfl, fun w hSw => ?ti331_7⟩) (by assumption) ?rest331_7
                    case ti331_7 => ((try dsimp only at hSw); go_simp; (first | done | with_reducible rfl))
                    try simp only [Act.put, List.getElem_toArray, List.getElem_cons_zero, List.getElem_cons_succ, List.setIfInBounds_toArray, List.set_cons_zero, List.set_cons_succ]
                    refine wpAnyH_take (i := 8) (v := ?va334_8) rfl (by kernel_rfl) (by kernel_rfl) (by kernel_rfl) (fun _ _ _ h => h) (Or.inl ⟨by rfl, fun w hSw => ?ti334_8⟩) (by assumption) ?rest334_8
                    case ti334_8 => ((try dsimp only at hSw); go_simp; (first | done | with_reducible rfl))
                    try simp only [Act.put, List.getElem_toArray, List.getElem_cons_zero, List.getElem_cons_succ, List.setIfInBounds_toArray, List.set_cons_zero, List.set_cons_succ]
                    refine wpAnyH_ready (rs := [0]) (by kernel_rfl) (by simp) ?_
                    refine AllReadyH.cons rfl (fun K hK => ?_) AllReadyH.nil
                    go_simp
                    refine hK.out _ _ ?_ (fun hHeld => ?_)
                    · exact trivial
                    clear hK K
                    try simp only [Act.put, List.getElem_toArray, List.getElem_cons_zero, List.getElem_cons_succ, List.setIfInBounds_toArray, List.set_cons_zero, List.set_cons_succ]
                    refine wpAnyH_ready (rs := [4]) (by kernel_rfl) (by simp) ?_
                    refine AllReadyH.cons rfl (fun K hK => ?_) AllReadyH.nil
                    refine step_app ekN (by rfl) _ _ (by rfl) wf.heap.size _ 0 [] (by rfl) (own_extk (own_lit wf wf.heap.size (Nat.le_refl _) _ _) (by (focus (repeat (first | (with_reducible exact Ext.refl _) | (with_reducible apply Ext.drew) | (with_reducible apply Ext.drewN) | (with_reducible apply Ext.alloc)))))) _ fc ((f.take d).map Nm.cs) (by rfl) (HTk.out _ (by (focus (repeat (first | (with_reducible exact Ext.refl _) | (with_reducible apply Ext.drew) | (with_reducible apply Ext.drewN) | (with_reducible apply Ext.alloc)))))) (Ks.nm _) (by simp; omega) (by simp; omega) (Ext.size (by (focus (repeat (first | (with_reducible exact Ext.refl _) | (with_reducible apply Ext.drew) | (with_reducible apply Ext.drewN) | (with_reducible apply Ext.alloc)))))) ?_
                    intro v6 w6 hown hgr hat
                    have X6 : Hid (Ext wf w6) := Lib.hid (Ext.grown (w' := (wf.alloc (Obj.cells #[] 41)).drew) (by (focus (repeat (first | (with_reducible exact Ext.refl _) | (with_reducible apply Ext.drew) | (with_reducible apply Ext.drewN) | (with_reducible apply Ext.alloc))))) hgr fun g hg => by cases hg; exact Nat.le_refl _)
                    have hown' : w6.ownsRow wf.heap.size 41 2 v6 d ((f.take d).map Nm.cs).flatten := by rw [List.nil_append, List.length_map, List.length_take, Nat.min_eq_left (by have := HLf.out; omega), Nat.zero_add] at hown; exact hown
                    obtain ⟨a6, c6, rfl, _⟩ := own_slice hown'
                    have HO6 := Lib.hid hown'
                    clear hown hgr hat hown'
                    refine hK.out _ _ trivial (fun hHeld => ?_)
                    clear hK K; try simp only [Act.put, List.getElem_toArray, List.getElem_cons_zero, List.getElem_cons_succ, List.setIfInBounds_toArray, List.set_cons_zero, List.set_cons_succ]
                    refine wpAnyH_ready (rs := [9]) (by kernel_rfl) (by simp) ?_
                    refine AllReadyH.cons rfl (fun K hK => ?_) AllReadyH.nil
                    refine step_app ekN (by rfl) _ _ (by rfl) wf.heap.size _ d ((f.take d).map Nm.cs) (by rfl) HO6.out _ _ ((f.drop (d + 1)).map Nm.cs) (by rfl) (HDr.out _ X6.out) (Ks.nm _) (by have := HLf.out; simp; omega) (by have := HLf.out; simp; omega) (Ext.size X6.out) ?_
                    intro v7 w7 hown hgr hat
                    have hown' : w7.ownsRow wf.heap.size 41 2 v7 (f.take d ++ f.drop (d + 1)).length ((f.take d ++ f.drop (d + 1)).map Nm.cs).flatten := by rw [List.map_append, List.length_append, List.length_take, Nat.min_eq_left (by have := HLf.out; omega)]; rw [List.length_map] at hown; exact hown
                    have X7 : Hid (Ext wf w7) := Lib.hid (Ext.grown X6.out hgr fun g hg => (HO6.out.lt g hg).1)
                    have hl7 := len_cut f d (by have := HLf.out; omega)
                    rw [← HLf.out] at hl7
                    have hown2 := hown'
                    rw [hl7] at hown2
                    obtain ⟨a7, c7, rfl, _⟩ := own_slice hown2
                    have HN := Lib.hid (show Ext w w7 ∧ OA g0 gl w7 F us vs ⟨s.t, f.take d ++ f.drop (d + 1), s.made⟩ (.slice a7 (lf - 1) c7) (.slice ma nm mc) BD NW (.slice a5 (j + 1) c5) (.slice none 0 0) (th ++ [A]) [] ∧ ThrR ks s.free (j + 1) (th ++ [A]) (f.take d ++ f.drop (d + 1)) ∧ (th ++ [A]).length = j + 1 from ⟨G5.out.2.trans X7.out, G5.out.1.setF X7.out hown', by rw [HAd.out, Hz.out.2.2, HLf.out, Hz.out.1, ← gid_take (l := x.thr) (m := 4) (k := j) j2, ← Hks.out.1]; exact G4.out.2.2.1.step (by rw [Hks.out.2]; omega) (by intro e; rw [e] at HLf; have := HLf.out; rw [List.length_nil] at this; omega), by rw [List.length_append, HthL.out]; rfl⟩)
                    have HL7 := Lib.hid hl7
                    clear hown hgr hat hown' hown2 hl7
                    refine hK.out _ _ trivial (fun hHeld => ?_)
                    clear hK K; try simp only [Act.put, List.getElem_toArray, List.getElem_cons_zero, List.getElem_cons_succ, List.setIfInBounds_toArray, List.set_cons_zero, List.set_cons_succ]
                    refine wpAnyH_ready (rs := [10]) (by kernel_rfl) (by simp) ?_
                    refine AllReadyH.cons rfl (fun K hK => ?_) AllReadyH.nil
                    go_simp
                    refine hK.out _ _ trivial (fun hHeld => ?_)
                    clear hK K; try simp only [Act.put, List.getElem_toArray, List.getElem_cons_zero, List.getElem_cons_succ, List.setIfInBounds_toArray, List.set_cons_zero, List.set_cons_succ]
                    refine wpAnyH_done (by kernel_rfl) ?_ _
                    go_wp2_with fail
                    go_roundg (5 - (j + 1))
                    case measure => omega
                    case rel => exact ⟨j + 1, _, _, _, _, _, _, by omega, by go_num, rfl, HL7.out.symm, by omega, HN⟩
                  case pos => as_aux_lemma =>
                    obtain ⟨e1, e2⟩ : fc = d + 1 ∧ lf = d + 1 := ⟨hcd, by omega⟩
                    clear hcd
                    subst e1
                    subst e2
                    have HDn := Lib.hid (show f.drop (d + 1) = [] from List.drop_eq_nil_of_le (by rw [← HLf.out]; exact Nat.le_refl _))
                    have k6 : ((d : Int) + 1 ≤ (d : Int) + 1) := by omega
                    have k7 : (d : Int) ≤ (d : Int) + 1 := by omega
                    refine wp_region_held_drew (S := fun w' => True) (by kernel_rfl) ?_ (fun hHeld => ?_)
                    · exact trivial
                    refine wpAnyH_take (i := 1) (v := ?va391_1) rfl (by kernel_rfl) (by kernel_rfl) (by kernel_rfl) (fun _ _ _ h => h) (Or.inl ⟨by rfl, fun w hSw => ?ti391_1⟩) (by assumption) ?rest391_1
                    case ti391_1 => ((try dsimp only at hSw); go_simp; (first | done | with_reducible rfl))
                    try simp only [Act.put, List.getElem_toArray, List.getElem_cons_zero, List.getElem_cons_succ, List.setIfInBounds_toArray, List.set_cons_zero, List.set_cons_succ]
                    refine wpAnyH_take (i := 2) (v := ?va394_2) rfl (by kernel_rfl) (by kernel_rfl) (by kernel_rfl) (fun _ _ _ h => h) (Or.inl ⟨by rfl, fun w hSw => ?ti394_2⟩) (by assumption) ?rest394_2
                    case ti394_2 => ((try dsimp only at hSw); go_simp; (first | done | with_reducible rfl))
                    try simp only [Act.put, List.getElem_toArray, List.getElem_cons_zero, List.getElem_cons_succ, List.setIfInBounds_toArray, List.set_cons_zero, List.set_cons_succ]
                    refine wpAnyH_take (i := 3) (v := ?va397_3) rfl (by kernel_rfl) (by kernel_rfl) (by kernel_rfl) (fun _ _ _ h => h) (Or.inl ⟨by rfl, fun w hSw => ?ti397_3⟩) (by assumption) ?rest397_3
                    case ti397_3 => ((try dsimp only at hSw); go_simp; (first | done | with_reducible rfl))
                    try simp only [Act.put, List.getElem_toArray, List.getElem_cons_zero, List.getElem_cons_succ, List.setIfInBounds_toArray, List.set_cons_zero, List.set_cons_succ]
                    refine wpAnyH_take (i := 5) (v := ?va400_5) rfl (by kernel_rfl) (by kernel_rfl) (by kernel_rfl) (fun _ _ _ h => h) (Or.inl ⟨by rfl, fun w hSw => ?ti400_5⟩) (by assumption) ?rest400_5
                    case ti400_5 => ((try dsimp only at hSw); go_simp; (first | done | with_reducible rfl))
                    try simp only [Act.put, List.getElem_toArray, List.getElem_cons_zero, List.getElem_cons_succ, List.setIfInBounds_toArray, List.set_cons_zero, List.set_cons_succ]
                    refine wpAnyH_take (i := 6) (v := ?va403_6) rfl (by kernel_rfl) (by kernel_rfl) (by kernel_rfl) (fun _ _ _ h => h) (Or.inl ⟨by rfl, fun w hSw => ?ti403_6⟩) (by assumption) ?rest403_6
                    case ti403_6 => ((try dsimp only at hSw); go_simp; (first | done | with_reducible rfl))
                    try simp only [Act.put, List.getElem_toArray, List.getElem_cons_zero, List.getElem_cons_succ, List.setIfInBounds_toArray, List.set_cons_zero, List.set_cons_succ]
                    refine wpAnyH_take (i := 7) (v := ?va406_7) rfl (by kernel_rfl) (by kernel_rfl) (by kernel_rfl) (fun _ _ _ h => h) (Or.inl ⟨by rfl, fun w hSw => ?ti406_7⟩) (by assumption) ?rest406_7
                    case ti406_7 => ((try dsimp only at hSw); go_simp; (first | done | with_reducible rfl))
                    try simp only [Act.put, List.getElem_toArray, List.getElem_cons_zero, List.getElem_cons_succ, List.setIfInBounds_toArray, List.set_cons_zero, List.set_cons_succ]
                    refine wpAnyH_take (i := 8) (v := ?va409_8) rfl (by kernel_rfl) (by kernel_rfl) (by kernel_rfl) (fun _ _ _ h => h) (Or.inl ⟨by rfl, fun w hSw => ?ti409_8⟩) (by assumption) ?rest409_8
                    case ti409_8 => ((try dsimp only at hSw); go_simp; (first | done | with_reducible rfl))
                    try simp only [Act.put, List.getElem_toArray, List.getElem_cons_zero, List.getElem_cons_succ, List.setIfInBounds_toArray, List.set_cons_zero, List.set_cons_succ]
                    refine wpAnyH_ready (rs := [0]) (by kernel_rfl) (by simp) ?_
                    refine AllReadyH.cons rfl (fun K hK => ?_) AllReadyH.nil
                    go_simp
                    refine hK.out _ _ ?_ (fun hHeld => ?_)
                    · exact trivial
                    clear hK K
                    try simp only [Act.put, List.getElem_toArray, List.getElem_cons_zero, List.getElem_cons_succ, List.setIfInBounds_toArray, List.set_cons_zero, List.set_cons_succ]
                    refine wpAnyH_ready (rs := [4]) (by kernel_rfl) (by simp) ?_
                    refine AllReadyH.cons rfl (fun K hK => ?_) AllReadyH.nil
                    refine step_app ekN (by rfl) _ _ (by rfl) wf.heap.size _ 0 [] (by rfl) (own_extk (own_lit wf wf.heap.size (Nat.le_refl _) _ _) (by (focus (repeat (first | (with_reducible exact Ext.refl _) | (with_reducible apply Ext.drew) | (with_reducible apply Ext.drewN) | (with_reducible apply Ext.alloc)))))) (.slice (some ⟨fb, fo, none⟩) d (d + 1)) (d + 1) ((f.take d).map Nm.cs) (by rfl) (HTk.out (wf.alloc (Obj.cells #[] 41)).drew (by (focus (repeat (first | (with_reducible exact Ext.refl _) | (with_reducible apply Ext.drew) | (with_reducible apply Ext.drewN) | (with_reducible apply Ext.alloc)))))) (Ks.nm _) (by simp; omega) (by simp; omega) (Ext.size (by (focus (repeat (first | (with_reducible exact Ext.refl _) | (with_reducible apply Ext.drew) | (with_reducible apply Ext.drewN) | (with_reducible apply Ext.alloc)))))) ?_
                    intro v6 w6 hown hgr hat
                    have X6 : Hid (Ext wf w6) := Lib.hid (Ext.grown (w' := (wf.alloc (Obj.cells #[] 41)).drew) (by (focus (repeat (first | (with_reducible exact Ext.refl _) | (with_reducible apply Ext.drew) | (with_reducible apply Ext.drewN) | (with_reducible apply Ext.alloc))))) hgr fun g hg => by cases hg; exact Nat.le_refl _)
                    have hown' : w6.ownsRow wf.heap.size 41 2 v6 d ((f.take d).map Nm.cs).flatten := by rw [List.nil_append, List.length_map, List.length_take, Nat.min_eq_left (by have := HLf.out; omega), Nat.zero_add] at hown; exact hown
                    obtain ⟨a6, c6, rfl, _⟩ := own_slice hown'
                    have HO6 := Lib.hid hown'
                    clear hown hgr hat hown'
                    refine hK.out _ _ trivial (fun hHeld => ?_)
                    clear hK K; try simp only [Act.put, List.getElem_toArray, List.getElem_cons_zero, List.getElem_cons_succ, List.setIfInBounds_toArray, List.set_cons_zero, List.set_cons_succ]
                    refine wpAnyH_ready (rs := [9]) (by kernel_rfl) (by simp) ?_
                    refine AllReadyH.cons rfl (fun K hK => ?_) AllReadyH.nil
                    refine step_app ekN (by rfl) _ _ (by rfl) wf.heap.size _ d ((f.take d).map Nm.cs) (by rfl) HO6.out _ 0 ((f.drop (d + 1)).map Nm.cs) (by rfl) ?hy1 (Ks.nm _) (by have := HLf.out; simp; omega) (by have := HLf.out; simp; omega) (Ext.size X6.out) ?hk1
                    case hy1 => (rw [HDn.out]; simp [Act.eval]; exact CK.nil' _ _ _)
                    intro v7 w7 hown hgr hat
                    have hown' : w7.ownsRow wf.heap.size 41 2 v7 (f.take d ++ f.drop (d + 1)).length ((f.take d ++ f.drop (d + 1)).map Nm.cs).flatten := by rw [List.map_append, List.length_append, List.length_take, Nat.min_eq_left (by have := HLf.out; omega)]; rw [List.length_map] at hown; exact hown
                    have X7 : Hid (Ext wf w7) := Lib.hid (Ext.grown X6.out hgr fun g hg => (HO6.out.lt g hg).1)
                    have hl7 := len_cut f d (by have := HLf.out; omega)
                    rw [← HLf.out, Nat.add_sub_cancel] at hl7
                    have hown2 := hown'
                    rw [hl7] at hown2
                    obtain ⟨a7, c7, rfl, _⟩ := own_slice hown2
                    have HN := Lib.hid (show Ext w w7 ∧ OA g0 gl w7 F us vs ⟨s.t, f.take d ++ f.drop (d + 1), s.made⟩ (.slice a7 d c7) (.slice ma nm mc) BD NW (.slice a5 (j + 1) c5) (.slice none 0 0) (th ++ [A]) [] ∧ ThrR ks s.free (j + 1) (th ++ [A]) (f.take d ++ f.drop (d + 1)) ∧ (th ++ [A]).length = j + 1 from ⟨G5.out.2.trans X7.out, G5.out.1.setF X7.out hown', by rw [HAd.out, Hz.out.2.2, HLf.out, Hz.out.1, ← gid_take (l := x.thr) (m := 4) (k := j) j2, ← Hks.out.1]; exact G4.out.2.2.1.step (by rw [Hks.out.2]; omega) (by intro e; rw [e] at HLf; have := HLf.out; rw [List.length_nil] at this; omega), by rw [List.length_append, HthL.out]; rfl⟩)
                    have HL7 := Lib.hid hl7
                    clear hown hgr hat hown' hown2 hl7
                    refine hK.out _ _ trivial (fun hHeld => ?_)
                    clear hK K; try simp only [Act.put, List.getElem_toArray, List.getElem_cons_zero, List.getElem_cons_succ, List.setIfInBounds_toArray, List.set_cons_zero, List.set_cons_succ]
                    refine wpAnyH_ready (rs := [10]) (by kernel_rfl) (by simp) ?_
                    refine AllReadyH.cons rfl (fun K hK => ?_) AllReadyH.nil
                    go_simp
                    refine hK.out _ _ trivial (fun hHeld => ?_)
                    clear hK K; try simp only [Act.put, List.getElem_toArray, List.getElem_cons_zero, List.getElem_cons_succ, List.setIfInBounds_toArray, List.set_cons_zero, List.set_cons_succ]
                    refine wpAnyH_done (by kernel_rfl) ?_ _
                    go_wp2_with fail
                    go_roundg (5 - (j + 1))
                    case measure => omega
                    case rel => exact ⟨j + 1, _, _, _, _, _, _, by omega, by go_num, rfl, HL7.out.symm, by omega, HN⟩
              · have hend : ks.length ≤ j ∨ f = [] := by
                  rcases Nat.lt_or_ge j n1 with h1 | h1
                  · rcases Nat.lt_or_ge j 4 with h2 | h2
                    · right
                      exact List.eq_nil_of_length_eq_zero (by have := HLf.out; omega)
                    · left; have := Hks.out.2; omega
                  · left; have := Hks.out.2; omega
                have hd2 := G4.out.2.2.1.done hend
                have HN := Lib.hid (show lf = (thrL ks s.free).2.length ∧ Ext w wr ∧ OA g0 gl wr F us vs ⟨s.t, (thrL ks s.free).2, s.made⟩ (.slice fa lf fc) (.slice ma nm mc) BD NW tv (.slice none 0 0) (thrL ks s.free).1 [] from ⟨by rw [← hd2.2]; exact HLf.out, G4.out.1, by rw [← hd2.1, ← hd2.2]; exact G4.out.2.1⟩)
                clear hend hd2
                by_cases j1 : j < n1
                · have j1' : (j : Int) < n1 := by omega
                  by_cases j2 : j < 4
                  · have j2' : (j : Int) < 4 := by omega
                    have j3' : ¬ (0 : Int) < lf := by omega
                    clear hj1
                    go_wp2_with fail
                    go_meet
                    case rel => exact ⟨_, _, _, _, rfl, HN⟩
                  · have j2' : ¬ (j : Int) < 4 := by omega
                    clear hj1
                    go_wp2_with fail
                    go_meet
                    case rel => exact ⟨_, _, _, _, rfl, HN⟩
                · have j1' : ¬ (j : Int) < n1 := by omega
                  clear hj1
                  go_wp2_with fail
                  go_meet
                  case rel => exact ⟨_, _, _, _, rfl, HN⟩
          case rest =>
            obtain ⟨fa, fc, lf, tv, rfl, G4⟩ := hcut
            obtain ⟨wo, hwo⟩ : ∃ wo, wo = wc := ⟨_, rfl⟩
            subst hwo
            obtain ⟨R1, hR1⟩ : ∃ R1, R1 = (thrL ks s.free).1 := ⟨_, rfl⟩
            obtain ⟨R2, hR2⟩ : ∃ R2, R2 = (thrL ks s.free).2 := ⟨_, rfl⟩
            rw [← hR1, ← hR2] at G4
            obtain ⟨PS, hPS⟩ : ∃ PS, PS = x.past.take 5 := ⟨_, rfl⟩
            have hpl : PS.length = min 5 n2 := by rw [hPS, List.length_take, HB2.out.1]
            obtain ⟨PL, hPL⟩ : ∃ PL, PL = pastL PS s.made (dOf x) := ⟨_, rfl⟩
            have HR := Lib.hid (And.intro hR1 hR2)
            have HPS := Lib.hid (And.intro hPS hpl)
            have HPL := Lib.hid hPL
            have nm60 : nm ≤ 60 := by have h1 := HT.out.m; have h2 := Hnm.out; omega
            clear hR1 hR2 hPS hPL hpl
            go_upto_block 4 with fail
            go_cut [12] from 16 to 181 (fun kk wx => ∃ pv, Hid (Ext w wx ∧ OA g0 gl wx F us vs ⟨s.t, R2, s.made⟩ (.slice fa lf fc) (.slice ma nm mc) BD NW tv pv R1 PL))
            case first => as_aux_lemma =>
              go_wp2_with fail
              go_loopg [12, 13] 6 (fun gk i _ wq => ∃ (j : Nat) (pv : Value), j + gk = 6 ∧ i = .int .i64 j ∧ j ≤ 5 ∧ Hid (Ext w wq ∧ OA g0 gl wq F us vs ⟨s.t, R2, s.made⟩ (.slice fa lf fc) (.slice ma nm mc) BD NW tv pv R1 (PL.take j) ∧ j ≤ PL.length))
              case atStart => exact ⟨0, _, by omega, rfl, by omega, Lib.hid ⟨G4.out.2.1, by rw [List.take_zero]; exact G4.out.2.2, Nat.zero_le _⟩⟩
              case round =>
                obtain ⟨j, pv, hjg, rfl, hj5, G5⟩ := hrel
                obtain ⟨q0, q1, q2, q3, q4⟩ := hA0.out.ext G5.out.1
                clear q1 q2 q3
                by_cases hj1 : j < n2 ∧ j < 5 ∧ 0 < nm
                · obtain ⟨j1, j2, j3⟩ := hj1
                  have j1' : (j : Int) < n2 := by omega
                  have j2' : (j : Int) < 5 := by omega
                  have j3' : (0 : Int) < nm := by omega
                  have j4 : (0 : Int) ≤ j := by omega
                  obtain ⟨hb, ho, rfl, hg⟩ := HB2.out.2 j j1
                  have hgi := HI.out.2.2 j (by rw [← HB2.out.1]; exact j1)
                  have cg := G5.out.1.cell hg
                  obtain ⟨z, hz⟩ : ∃ z, z = gi x.past j := ⟨_, rfl⟩
                  rw [← hz] at cg hgi
                  obtain ⟨h, hh⟩ : ∃ h, h = z.toNat / 2 := ⟨_, rfl⟩
                  obtain ⟨q, hq⟩ : ∃ q, q = h % nm := ⟨_, rfl⟩
                  obtain ⟨r, hr⟩ : ∃ r, r = z.toNat % 2 := ⟨_, rfl⟩
                  obtain ⟨y6, hy6⟩ : ∃ y6, y6 = x.y.toNat / 6 := ⟨_, rfl⟩
                  obtain ⟨dd, hdd⟩ : ∃ dd, dd = y6 % 2 := ⟨_, rfl⟩
                  have hqm : q < nm := by rw [hq]; exact Nat.mod_lt _ (by omega)
                  have hI1 := HI.out.1
                  have z1 : z.tdiv 2 = (h : Int) := by rw [Int.tdiv_eq_ediv_of_nonneg hgi.1, hh]; omega
                  have z2 : (h : Int).tmod (nm : Int) = (q : Int) := by rw [Int.tmod_eq_emod_of_nonneg (by omega), hq, Int.natCast_emod]
                  have z3 : z.tmod 2 = (r : Int) := by rw [Int.tmod_eq_emod_of_nonneg hgi.1, hr]; omega
                  have z4 : x.y.tdiv 6 = (y6 : Int) := by rw [Int.tdiv_eq_ediv_of_nonneg hI1.1, hy6]; omega
                  have z5 : (y6 : Int).tmod 2 = (dd : Int) := by rw [Int.tmod_eq_emod_of_nonneg (by omega), hdd]; omega
                  have z6 : h ≤ 127 := by omega
                  have z7 : y6 ≤ 42 := by omega
                  have z8 : ¬ (nm = 0) := by omega
                  have z12 : IntKind.u8.wrap (h : Int) = h := IntWalk.u8_in _ ⟨by omega, by omega⟩
                  have z13 : IntKind.i64.wrap (h : Int) = h := IntWalk.i64_in _ ⟨by omega, by omega⟩
                  have z14 : IntKind.u8.wrap (y6 : Int) = y6 := IntWalk.u8_in _ ⟨by omega, by omega⟩
                  have z9 : (q : Int) < nm := by omega
                  have z10 : (0 : Int) ≤ q := by omega
                  have Hz := Lib.hid (And.intro hz (And.intro hh (And.intro hq (And.intro hr (And.intro hy6 hdd)))))
                  clear hz hh hq hr hy6 hdd hgi hg hI1
                  obtain ⟨FB, hFB⟩ : ∃ FB : Bool, FB = decide (r = 1) := ⟨_, rfl⟩
                  have z11 : ((r : Int) == 1) = FB := by rw [hFB, Bool.eq_iff_iff]; simp; omega
                  have HFB := Lib.hid hFB
                  have hmade : wr.ownsRow (g0 + 1) 41 2 (.slice ma nm mc) nm (s.made.map Nm.cs).flatten := by
                    have h1 : wr.ownsRow (g0 + 1) 41 2 (.slice ma nm mc) s.made.length (s.made.map Nm.cs).flatten := G5.out.2.1.t.made
                    rw [← Hnm.out] at h1; exact h1
                  obtain ⟨mb, mo, rfl, hAm⟩ := own_at2 hmade Hnm.out hqm
                  obtain ⟨pa, pc, hpv, hpc⟩ := own_slice G5.out.2.1.c.pa
                  have hpl : (PL.take j).length = j := by rw [List.length_take]; have := G5.out.2.2; omega
                  rw [hpl] at hpv hpc
                  subst hpv
                  obtain ⟨M', hMd⟩ : ∃ M', M' = ni s.made q := ⟨_, rfl⟩
                  rw [← hMd] at hAm
                  have p5 := G5.out.2.1.c.box.c3
                  have p6 := cell_alloc G5.out.2.1.c.box.c3 (.cells #[.int .u8 M'.y, .int .i64 M'.n, .bool FB, .int .u8 dd] 50)
                  obtain ⟨q0_1, q0_2⟩ := hAm
                  have q0_3 := q0
                  have HMd := Lib.hid hMd
                  have HAt := Lib.hid (show ∀ w' : World, w'.ownsRow (g0 + 1) 41 2 (.slice (some ⟨mb, mo, none⟩) nm mc) s.made.length (s.made.map Nm.cs).flatten → At2 w' mb (mo + q * 2) M' from fun w' h => by
                    rw [← Hnm.out] at h
                    obtain ⟨b', o', e, h2⟩ := own_at2 h Hnm.out hqm
                    cases e
                    rw [hMd]; exact h2)
                  have HgF : Hid (mb ≠ gl) := Lib.hid (fun e => own_b4 hmade G5.out.2.1.c.box (by decide) (by rw [← e]; exact own_blk hmade (by omega)))
                  have h0g : w.heap.size ≤ g0 := by rw [← Hg0.out]; exact Nat.le_refl _
                  have hbw : b < w.heap.size := World.block_lt_of_cell? w _ hA0.out.1
                  have HgB := Lib.hid (And.intro h0g (And.intro G5.out.2.1.c.b (show b ≠ gl by have := G5.out.2.1.c.b; omega)))
                  have HPa := Lib.hid (show wr.ownsRow (g0 + 1) 50 4 (.slice pa j pc) j ((PL.take j).map Ps.cs).flatten by have := G5.out.2.1.c.pa; rw [hpl] at this; exact this)
                  have HSz := Lib.hid (show g0 + 1 ≤ wr.heap.size from G5.out.2.1.t.tab.lt)
                  have HplL := Lib.hid hpl
                  clear hmade hMd hpl hFB h0g hbw
                  go_upto_region 20 with fail
                  clear q0 q4 cg
                  have HPLn := Lib.hid (show PL.take (j + 1) = PL.take j ++ [⟨M', FB, dd⟩] ∧ j + 1 ≤ PL.length from by
                    have hne : s.made ≠ [] := fun e => by have h1 := Hnm.out; rw [e] at h1; simp at h1; omega
                    have hjp : j < PS.length := by have := HPS.out.2; omega
                    have e1 := pastL_take (d := dOf x) hjp hne
                    have e2 : gi PS j = z := by rw [HPS.out.1, gid_take j2]; exact Hz.out.1.symm
                    have e3 : pasO s.made (dOf x) z = ⟨M', FB, dd⟩ := by
                      unfold pasO dOf
                      rw [HMd.out, HFB.out, Hz.out.2.2.1, Hz.out.2.1, Hz.out.2.2.2.1, Hz.out.2.2.2.2.2, Hz.out.2.2.2.2.1, Hnm.out]
                    rw [e2, e3, ← HPL.out] at e1
                    exact ⟨e1, by rw [HPL.out, pastL_len, if_neg hne]; omega⟩)
                  refine wp_region_held_drew (S := fun w' => w'.cell? ⟨mb, mo + q * 2, Option.none⟩ = some (.int .u8 M'.y) ∧ w'.cell? ⟨mb, mo + q * 2 + 1, Option.none⟩ = some (.int .i64 M'.n) ∧ w'.cell? ⟨b, o + k * 5, Option.none⟩ = some (.int .u8 x.y)) (by kernel_rfl) ?_ (fun hHeld => ?_)
                  · exact ⟨q0_1, q0_2, q0_3⟩
                  refine wpAnyH_take (i := 0) (v := ?va589_0) rfl (by kernel_rfl) (by kernel_rfl) (by kernel_rfl) (fun _ _ _ h => h) (Or.inl ⟨by rfl, fun w hSw => ?ti589_0⟩) (by assumption) ?rest589_0
                  case ti589_0 => ((try dsimp only at hSw); go_simp; (first | done | with_reducible rfl))
                  try simp only [Act.put, List.getElem_toArray, List.getElem_cons_zero, List.getElem_cons_succ, List.setIfInBounds_toArray, List.set_cons_zero, List.set_cons_succ]
                  refine wpAnyH_take (i := 2) (v := ?va592_2) rfl (by kernel_rfl) (by kernel_rfl) (by kernel_rfl) (fun _ _ _ h => h) (Or.inl ⟨by rfl, fun w hSw => ?ti592_2⟩) (by assumption) ?rest592_2
                  case ti592_2 => ((try dsimp only at hSw); go_simp; (first | done | with_reducible rfl))
                  try simp only [Act.put, List.getElem_toArray, List.getElem_cons_zero, List.getElem_cons_succ, List.setIfInBounds_toArray, List.set_cons_zero, List.set_cons_succ]
                  refine wpAnyH_take (i := 3) (v := ?va595_3) rfl (by kernel_rfl) (by kernel_rfl) (by kernel_rfl) (fun _ _ _ h => h) (Or.inl ⟨by rfl, fun w hSw => ?ti595_3⟩) (by assumption) ?rest595_3
                  case ti595_3 => ((try dsimp only at hSw); go_simp; (first | done | with_reducible rfl))
                  try simp only [Act.put, List.getElem_toArray, List.getElem_cons_zero, List.getElem_cons_succ, List.setIfInBounds_toArray, List.set_cons_zero, List.set_cons_succ]
                  refine wpAnyH_take (i := 4) (v := ?va598_4) rfl (by kernel_rfl) (by kernel_rfl) (by kernel_rfl) (fun _ _ _ h => h) (Or.inl ⟨by rfl, fun w hSw => ?ti598_4⟩) (by assumption) ?rest598_4
                  case ti598_4 => ((try dsimp only at hSw); go_simp; (first | done | with_reducible rfl))
                  try simp only [Act.put, List.getElem_toArray, List.getElem_cons_zero, List.getElem_cons_succ, List.setIfInBounds_toArray, List.set_cons_zero, List.set_cons_succ]
                  refine wpAnyH_take (i := 5) (v := ?va601_5) rfl (by kernel_rfl) (by kernel_rfl) (by kernel_rfl) (fun _ _ _ h => h) (Or.inl ⟨by rfl, fun w hSw => ?ti601_5⟩) (by assumption) ?rest601_5
                  case ti601_5 => ((try dsimp only at hSw); go_simp; (first | done | with_reducible rfl))
                  try simp only [Act.put, List.getElem_toArray, List.getElem_cons_zero, List.getElem_cons_succ, List.setIfInBounds_toArray, List.set_cons_zero, List.set_cons_succ]
                  refine wpAnyH_take (i := 6) (v := ?va604_6) rfl (by kernel_rfl) (by kernel_rfl) (by kernel_rfl) (fun _ _ _ h => h) (Or.inl ⟨by rfl, fun w hSw => ?ti604_6⟩) (by assumption) ?rest604_6
                  case ti604_6 => ((try dsimp only at hSw); go_simp; (first | done | with_reducible rfl))
                  try simp only [Act.put, List.getElem_toArray, List.getElem_cons_zero, List.getElem_cons_succ, List.setIfInBounds_toArray, List.set_cons_zero, List.set_cons_succ]
                  refine wpAnyH_take (i := 7) (v := ?va607_7) rfl (by kernel_rfl) (by kernel_rfl) (by kernel_rfl) (fun _ _ _ h => h) (Or.inl ⟨by rfl, fun w hSw => ?ti607_7⟩) (by assumption) ?rest607_7
                  case ti607_7 => ((try dsimp only at hSw); go_simp; (first | done | with_reducible rfl))
                  try simp only [Act.put, List.getElem_toArray, List.getElem_cons_zero, List.getElem_cons_succ, List.setIfInBounds_toArray, List.set_cons_zero, List.set_cons_succ]
                  refine wpAnyH_take (i := 8) (v := ?va610_8) rfl (by kernel_rfl) (by kernel_rfl) (by kernel_rfl) (fun _ _ _ h => h) (Or.inl ⟨by rfl, fun w hSw => ?ti610_8⟩) (by assumption) ?rest610_8
                  case ti610_8 => ((try dsimp only at hSw); go_simp; (first | done | with_reducible rfl))
                  try simp only [Act.put, List.getElem_toArray, List.getElem_cons_zero, List.getElem_cons_succ, List.setIfInBounds_toArray, List.set_cons_zero, List.set_cons_succ]
                  refine wpAnyH_take (i := 9) (v := ?va613_9) rfl (by kernel_rfl) (by kernel_rfl) (by kernel_rfl) (fun _ _ _ h => h) (Or.inl ⟨by rfl, fun w hSw => ?ti613_9⟩) (by assumption) ?rest613_9
                  case ti613_9 => ((try dsimp only at hSw); go_simp; (first | done | with_reducible rfl))
                  try simp only [Act.put, List.getElem_toArray, List.getElem_cons_zero, List.getElem_cons_succ, List.setIfInBounds_toArray, List.set_cons_zero, List.set_cons_succ]
                  refine wpAnyH_take (i := 10) (v := ?va616_10) rfl (by kernel_rfl) (by kernel_rfl) (by kernel_rfl) (fun _ _ _ h => h) (Or.inl ⟨by rfl, fun w hSw => ?ti616_10⟩) (by assumption) ?rest616_10
                  case ti616_10 => ((try dsimp only at hSw); go_simp; (first | done | with_reducible rfl))
                  try simp only [Act.put, List.getElem_toArray, List.getElem_cons_zero, List.getElem_cons_succ, List.setIfInBounds_toArray, List.set_cons_zero, List.set_cons_succ]
                  refine wpAnyH_take (i := 11) (v := ?va619_11) rfl (by kernel_rfl) (by kernel_rfl) (by kernel_rfl) (fun _ _ _ h => h) (Or.inl ⟨by rfl, fun w hSw => ?ti619_11⟩) (by assumption) ?rest619_11
                  case ti619_11 => ((try dsimp only at hSw); go_simp; (first | done | with_reducible rfl))
                  try simp only [Act.put, List.getElem_toArray, List.getElem_cons_zero, List.getElem_cons_succ, List.setIfInBounds_toArray, List.set_cons_zero, List.set_cons_succ]
                  refine wpAnyH_take (i := 12) (v := ?va622_12) rfl (by kernel_rfl) (by kernel_rfl) (by kernel_rfl) (fun _ _ _ h => h) (Or.inl ⟨by rfl, fun w hSw => ?ti622_12⟩) (by assumption) ?rest622_12
                  case ti622_12 => ((try dsimp only at hSw); go_simp; (first | done | with_reducible rfl))
                  try simp only [Act.put, List.getElem_toArray, List.getElem_cons_zero, List.getElem_cons_succ, List.setIfInBounds_toArray, List.set_cons_zero, List.set_cons_succ]
                  refine wpAnyH_take (i := 13) (v := ?va625_13) rfl (by kernel_rfl) (by kernel_rfl) (by kernel_rfl) (fun _ _ _ h => h) (Or.inl ⟨by rfl, fun w hSw => ?ti625_13⟩) (by assumption) ?rest625_13
                  case ti625_13 => ((try dsimp only at hSw); go_simp; (first | done | with_reducible rfl))
                  try simp only [Act.put, List.getElem_toArray, List.getElem_cons_zero, List.getElem_cons_succ, List.setIfInBounds_toArray, List.set_cons_zero, List.set_cons_succ]
                  refine wpAnyH_take (i := 14) (v := ?va628_14) rfl (by kernel_rfl) (by kernel_rfl) (by kernel_rfl) (fun _ _ _ h => h) (Or.inl ⟨by rfl, fun w hSw => ?ti628_14⟩) (by assumption) ?rest628_14
                  case ti628_14 => ((try dsimp only at hSw); go_simp; (first | done | with_reducible rfl))
                  try simp only [Act.put, List.getElem_toArray, List.getElem_cons_zero, List.getElem_cons_succ, List.setIfInBounds_toArray, List.set_cons_zero, List.set_cons_succ]
                  refine wpAnyH_take (i := 15) (v := ?va631_15) rfl (by kernel_rfl) (by kernel_rfl) (by kernel_rfl) (fun _ _ _ h => h) (Or.inl ⟨by rfl, fun w hSw => ?ti631_15⟩) (by assumption) ?rest631_15
                  case ti631_15 => ((try dsimp only at hSw); go_simp; (first | done | with_reducible rfl))
                  try simp only [Act.put, List.getElem_toArray, List.getElem_cons_zero, List.getElem_cons_succ, List.setIfInBounds_toArray, List.set_cons_zero, List.set_cons_succ]
                  refine wpAnyH_take (i := 16) (v := ?va634_16) rfl (by kernel_rfl) (by kernel_rfl) (by kernel_rfl) (fun _ _ _ h => h) (Or.inl ⟨by rfl, fun w hSw => ?ti634_16⟩) (by assumption) ?rest634_16
                  case ti634_16 => ((try dsimp only at hSw); go_simp; (first | done | with_reducible rfl))
                  try simp only [Act.put, List.getElem_toArray, List.getElem_cons_zero, List.getElem_cons_succ, List.setIfInBounds_toArray, List.set_cons_zero, List.set_cons_succ]
                  refine wpAnyH_take (i := 17) (v := ?va637_17) rfl (by kernel_rfl) (by kernel_rfl) (by kernel_rfl) (fun _ _ _ h => h) (Or.inl ⟨by rfl, fun w hSw => ?ti637_17⟩) (by assumption) ?rest637_17
                  case ti637_17 => ((try dsimp only at hSw); go_simp; (first | done | with_reducible rfl))
                  try simp only [Act.put, List.getElem_toArray, List.getElem_cons_zero, List.getElem_cons_succ, List.setIfInBounds_toArray, List.set_cons_zero, List.set_cons_succ]
                  refine wpAnyH_take (i := 18) (v := ?va640_18) rfl (by kernel_rfl) (by kernel_rfl) (by kernel_rfl) (fun _ _ _ h => h) (Or.inl ⟨by rfl, fun w hSw => ?ti640_18⟩) (by assumption) ?rest640_18
                  case ti640_18 => ((try dsimp only at hSw); go_simp; (first | done | with_reducible rfl))
                  try simp only [Act.put, List.getElem_toArray, List.getElem_cons_zero, List.getElem_cons_succ, List.setIfInBounds_toArray, List.set_cons_zero, List.set_cons_succ]
                  refine wpAnyH_take (i := 19) (v := ?va643_19) rfl (by kernel_rfl) (by kernel_rfl) (by kernel_rfl) (fun _ _ _ h => h) (Or.inl ⟨by rfl, fun w hSw => ?ti643_19⟩) (by assumption) ?rest643_19
                  case ti643_19 => ((try dsimp only at hSw); go_simp; (first | done | with_reducible rfl))
                  try simp only [Act.put, List.getElem_toArray, List.getElem_cons_zero, List.getElem_cons_succ, List.setIfInBounds_toArray, List.set_cons_zero, List.set_cons_succ]
                  refine wpAnyH_take (i := 20) (v := ?va646_20) rfl (by kernel_rfl) (by kernel_rfl) (by kernel_rfl) (fun _ _ _ h => h) (Or.inl ⟨by rfl, fun w hSw => ?ti646_20⟩) (by assumption) ?rest646_20
                  case ti646_20 => ((try dsimp only at hSw); go_simp; (first | done | with_reducible rfl))
                  try simp only [Act.put, List.getElem_toArray, List.getElem_cons_zero, List.getElem_cons_succ, List.setIfInBounds_toArray, List.set_cons_zero, List.set_cons_succ]
                  refine wpAnyH_take (i := 21) (v := ?va649_21) rfl (by kernel_rfl) (by kernel_rfl) (by kernel_rfl) (fun _ _ _ h => h) (Or.inl ⟨by rfl, fun w hSw => ?ti649_21⟩) (by assumption) ?rest649_21
                  case ti649_21 => ((try dsimp only at hSw); go_simp; (first | done | with_reducible rfl))
                  try simp only [Act.put, List.getElem_toArray, List.getElem_cons_zero, List.getElem_cons_succ, List.setIfInBounds_toArray, List.set_cons_zero, List.set_cons_succ]
                  refine wpAnyH_ready (rs := [1, 22]) (by kernel_rfl) (by simp) ?_
                  refine AllReadyH.cons rfl (fun K hK => ?_) (AllReadyH.cons rfl (fun K hK => ?_) AllReadyH.nil)
                  · as_aux_lemma =>
                    go_simp
                    refine hK.out _ _ hHeld (fun hHeld => ?_)
                    clear hK K; try simp only [Act.put, List.getElem_toArray, List.getElem_cons_zero, List.getElem_cons_succ, List.setIfInBounds_toArray, List.set_cons_zero, List.set_cons_succ]
                    refine wpAnyH_ready (rs := [22]) (by kernel_rfl) (by simp) ?_
                    refine AllReadyH.cons rfl (fun K hK => ?_) AllReadyH.nil
                    go_simp
                    refine hK.out _ _ ⟨cell_alloc q0_1 _, cell_alloc q0_2 _, cell_alloc q0_3 _⟩ (fun hHeld => ?_)
                    clear hK K; try simp only [Act.put, List.getElem_toArray, List.getElem_cons_zero, List.getElem_cons_succ, List.setIfInBounds_toArray, List.set_cons_zero, List.set_cons_succ]
                    refine wpAnyH_ready (rs := [23]) (by kernel_rfl) (by simp) ?_
                    refine AllReadyH.cons rfl (fun K hK => ?_) AllReadyH.nil
                    refine step_app ekP (by rfl) _ _ (by rfl) (g0 + 1) (.slice pa j pc) j ((PL.take j).map Ps.cs) (by rfl) (own_extk HPa.out (by (focus (repeat (first | (with_reducible exact Ext.refl _) | (with_reducible apply Ext.drew) | (with_reducible apply Ext.drewN) | (with_reducible apply Ext.alloc)))))) _ 1 [Ps.cs ⟨M', FB, dd⟩] (by rfl) (CK.of_blk (Deep.blk_alloc_new _ _) (Ks.ps [⟨M', FB, dd⟩]) rfl (Nat.le_refl _) (by omega) rfl) (Ks.ps [⟨M', FB, dd⟩]) (by simp; omega) (by simp; omega) (Nat.le_trans HSz.out (Ext.size (by (focus (repeat (first | (with_reducible exact Ext.refl _) | (with_reducible apply Ext.drew) | (with_reducible apply Ext.drewN) | (with_reducible apply Ext.alloc))))))) ?_
                    intro v5 w5 hown hgr hat
                    obtain ⟨a5, c5, rfl, _⟩ := own_slice hown
                    have HK := Lib.hid (OA.pasK (OA.ext G5.out.2.1 (by (focus (repeat (first | (with_reducible exact Ext.refl _) | (with_reducible apply Ext.drew) | (with_reducible apply Ext.drewN) | (with_reducible apply Ext.alloc)))))) hgr)
                    have HN5 := Lib.hid (OA.pas (OA.ext G5.out.2.1 (by (focus (repeat (first | (with_reducible exact Ext.refl _) | (with_reducible apply Ext.drew) | (with_reducible apply Ext.drewN) | (with_reducible apply Ext.alloc)))))) hgr hat (show w5.ownsRow (g0 + 1) _ 4 (.slice a5 (j + 1) c5) ((PL.take j).length + 1) ((PL.take j ++ [(⟨M', FB, dd⟩ : Ps)]).map Ps.cs).flatten by rw [List.map_append, HplL.out]; exact hown))
                    have X50 : Hid (Ext w w5) := Lib.hid (Ext.grown (G5.out.1.trans (by (focus (repeat (first | (with_reducible exact Ext.refl _) | (with_reducible apply Ext.drew) | (with_reducible apply Ext.drewN) | (with_reducible apply Ext.alloc)))))) hgr fun g hg => Nat.le_trans HgB.out.1 (Nat.le_of_succ_le (HPa.out.lt g hg).1))
                    have hnx : (Ext w (w5.setCell ⟨gl, 3, none⟩ (.slice a5 (j + 1) c5)) ∧ OA g0 gl (w5.setCell ⟨gl, 3, none⟩ (.slice a5 (j + 1) c5)) F us vs ⟨s.t, R2, s.made⟩ (.slice fa lf fc) (.slice (some ⟨mb, mo, none⟩) nm mc) BD NW tv (.slice a5 (j + 1) c5) R1 (PL.take (j + 1)) ∧ j + 1 ≤ PL.length) := ⟨Ext.setCell X50.out (Nat.le_trans HgB.out.1 (Nat.le_of_lt HgB.out.2.1)) _, by rw [HPLn.out.1]; exact HN5.out, HPLn.out.2⟩
                    have HNx := Lib.hid hnx
                    clear hnx
                    have p0 := HK.out.1.c3; have p1 := HK.out.1.fr 3
                    obtain ⟨r1, r2⟩ := HAt.out _ HK.out.2.2
                    have r3 := (hA0.out.ext X50.out).1
                    clear hown hgr hat
                    refine hK.out _ _ ⟨r1, r2, r3⟩ (fun hHeld => ?_)
                    clear hK K; try simp only [Act.put, List.getElem_toArray, List.getElem_cons_zero, List.getElem_cons_succ, List.setIfInBounds_toArray, List.set_cons_zero, List.set_cons_succ]
                    refine wpAnyH_ready (rs := [24]) (by kernel_rfl) (by simp) ?_
                    refine AllReadyH.cons rfl (fun K hK => ?_) AllReadyH.nil
                    go_simp
                    refine hK.out _ _ ⟨r1, r2, r3⟩ (fun hHeld => ?_)
                    clear hK K; try simp only [Act.put, List.getElem_toArray, List.getElem_cons_zero, List.getElem_cons_succ, List.setIfInBounds_toArray, List.set_cons_zero, List.set_cons_succ]
                    refine wpAnyH_ready (rs := [25]) (by kernel_rfl) (by simp) ?_
                    refine AllReadyH.cons rfl (fun K hK => ?_) AllReadyH.nil
                    go_simp
                    refine hK.out _ _ ⟨cell_set r1 HgF.out _, cell_set r2 HgF.out _, cell_set r3 HgB.out.2.2 _⟩ (fun hHeld => ?_)
                    clear hK K; try simp only [Act.put, List.getElem_toArray, List.getElem_cons_zero, List.getElem_cons_succ, List.setIfInBounds_toArray, List.set_cons_zero, List.set_cons_succ]
                    refine wpAnyH_done (by kernel_rfl) ?_ _
                    go_wp2_with fail
                    go_roundg (6 - (j + 1))
                    case measure => omega
                    case rel => exact ⟨j + 1, _, by omega, by go_num, by omega, HNx⟩
                  · as_aux_lemma =>
                    go_simp
                    refine hK.out _ _ ⟨cell_alloc q0_1 _, cell_alloc q0_2 _, cell_alloc q0_3 _⟩ (fun hHeld => ?_)
                    clear hK K; try simp only [Act.put, List.getElem_toArray, List.getElem_cons_zero, List.getElem_cons_succ, List.setIfInBounds_toArray, List.set_cons_zero, List.set_cons_succ]
                    refine wpAnyH_ready (rs := [1]) (by kernel_rfl) (by simp) ?_
                    refine AllReadyH.cons rfl (fun K hK => ?_) AllReadyH.nil
                    go_simp
                    refine hK.out _ _ ⟨cell_alloc q0_1 _, cell_alloc q0_2 _, cell_alloc q0_3 _⟩ (fun hHeld => ?_)
                    clear hK K; try simp only [Act.put, List.getElem_toArray, List.getElem_cons_zero, List.getElem_cons_succ, List.setIfInBounds_toArray, List.set_cons_zero, List.set_cons_succ]
                    refine wpAnyH_ready (rs := [23]) (by kernel_rfl) (by simp) ?_
                    refine AllReadyH.cons rfl (fun K hK => ?_) AllReadyH.nil
                    refine step_app ekP (by rfl) _ _ (by rfl) (g0 + 1) (.slice pa j pc) j ((PL.take j).map Ps.cs) (by rfl) (own_extk HPa.out (by (focus (repeat (first | (with_reducible exact Ext.refl _) | (with_reducible apply Ext.drew) | (with_reducible apply Ext.drewN) | (with_reducible apply Ext.alloc)))))) _ 1 [Ps.cs ⟨M', FB, dd⟩] (by rfl) (CK.of_blk (Deep.blk_alloc_new _ _) (Ks.ps [⟨M', FB, dd⟩]) rfl (Nat.le_refl _) (by omega) rfl) (Ks.ps [⟨M', FB, dd⟩]) (by simp; omega) (by simp; omega) (Nat.le_trans HSz.out (Ext.size (by (focus (repeat (first | (with_reducible exact Ext.refl _) | (with_reducible apply Ext.drew) | (with_reducible apply Ext.drewN) | (with_reducible apply Ext.alloc))))))) ?_
                    intro v5 w5 hown hgr hat
                    obtain ⟨a5, c5, rfl, _⟩ := own_slice hown
                    have HK := Lib.hid (OA.pasK (OA.ext G5.out.2.1 (by (focus (repeat (first | (with_reducible exact Ext.refl _) | (with_reducible apply Ext.drew) | (with_reducible apply Ext.drewN) | (with_reducible apply Ext.alloc)))))) hgr)
                    have HN5 := Lib.hid (OA.pas (OA.ext G5.out.2.1 (by (focus (repeat (first | (with_reducible exact Ext.refl _) | (with_reducible apply Ext.drew) | (with_reducible apply Ext.drewN) | (with_reducible apply Ext.alloc)))))) hgr hat (show w5.ownsRow (g0 + 1) _ 4 (.slice a5 (j + 1) c5) ((PL.take j).length + 1) ((PL.take j ++ [(⟨M', FB, dd⟩ : Ps)]).map Ps.cs).flatten by rw [List.map_append, HplL.out]; exact hown))
                    have X50 : Hid (Ext w w5) := Lib.hid (Ext.grown (G5.out.1.trans (by (focus (repeat (first | (with_reducible exact Ext.refl _) | (with_reducible apply Ext.drew) | (with_reducible apply Ext.drewN) | (with_reducible apply Ext.alloc)))))) hgr fun g hg => Nat.le_trans HgB.out.1 (Nat.le_of_succ_le (HPa.out.lt g hg).1))
                    have hnx : (Ext w (w5.setCell ⟨gl, 3, none⟩ (.slice a5 (j + 1) c5)) ∧ OA g0 gl (w5.setCell ⟨gl, 3, none⟩ (.slice a5 (j + 1) c5)) F us vs ⟨s.t, R2, s.made⟩ (.slice fa lf fc) (.slice (some ⟨mb, mo, none⟩) nm mc) BD NW tv (.slice a5 (j + 1) c5) R1 (PL.take (j + 1)) ∧ j + 1 ≤ PL.length) := ⟨Ext.setCell X50.out (Nat.le_trans HgB.out.1 (Nat.le_of_lt HgB.out.2.1)) _, by rw [HPLn.out.1]; exact HN5.out, HPLn.out.2⟩
                    have HNx := Lib.hid hnx
                    clear hnx
                    have p0 := HK.out.1.c3; have p1 := HK.out.1.fr 3
                    obtain ⟨r1, r2⟩ := HAt.out _ HK.out.2.2
                    have r3 := (hA0.out.ext X50.out).1
                    clear hown hgr hat
                    refine hK.out _ _ ⟨r1, r2, r3⟩ (fun hHeld => ?_)
                    clear hK K; try simp only [Act.put, List.getElem_toArray, List.getElem_cons_zero, List.getElem_cons_succ, List.setIfInBounds_toArray, List.set_cons_zero, List.set_cons_succ]
                    refine wpAnyH_ready (rs := [24]) (by kernel_rfl) (by simp) ?_
                    refine AllReadyH.cons rfl (fun K hK => ?_) AllReadyH.nil
                    go_simp
                    refine hK.out _ _ ⟨r1, r2, r3⟩ (fun hHeld => ?_)
                    clear hK K; try simp only [Act.put, List.getElem_toArray, List.getElem_cons_zero, List.getElem_cons_succ, List.setIfInBounds_toArray, List.set_cons_zero, List.set_cons_succ]
                    refine wpAnyH_ready (rs := [25]) (by kernel_rfl) (by simp) ?_
                    refine AllReadyH.cons rfl (fun K hK => ?_) AllReadyH.nil
                    go_simp
                    refine hK.out _ _ ⟨cell_set r1 HgF.out _, cell_set r2 HgF.out _, cell_set r3 HgB.out.2.2 _⟩ (fun hHeld => ?_)
                    clear hK K; try simp only [Act.put, List.getElem_toArray, List.getElem_cons_zero, List.getElem_cons_succ, List.setIfInBounds_toArray, List.set_cons_zero, List.set_cons_succ]
                    refine wpAnyH_done (by kernel_rfl) ?_ _
                    go_wp2_with fail
                    go_roundg (6 - (j + 1))
                    case measure => omega
                    case rel => exact ⟨j + 1, _, by omega, by go_num, by omega, HNx⟩
                · have hend : PL.take j = PL := by
                    refine List.take_of_length_le ?_
                    rw [HPL.out, pastL_len]
                    by_cases hm : s.made = []
                    · rw [if_pos hm]; omega
                    · rw [if_neg hm]
                      have h1 : 0 < nm := by rw [Hnm.out]; exact List.length_pos_iff.2 hm
                      have h2 := HPS.out.2
                      omega
                  have HN := Lib.hid (show Ext w wr ∧ OA g0 gl wr F us vs ⟨s.t, R2, s.made⟩ (.slice fa lf fc) (.slice ma nm mc) BD NW tv pv R1 PL from ⟨G5.out.1, by have h1 := G5.out.2.1; rw [hend] at h1; exact h1⟩)
                  clear hend
                  by_cases j1 : j < n2
                  · have j1' : (j : Int) < n2 := by omega
                    by_cases j2 : j < 5
                    · have j2' : (j : Int) < 5 := by omega
                      have j3' : ¬ (0 : Int) < nm := by omega
                      clear hj1
                      go_wp2_with fail
                      go_meet
                      case rel => exact ⟨_, HN⟩
                    · have j2' : ¬ (j : Int) < 5 := by omega
                      clear hj1
                      go_wp2_with fail
                      go_meet
                      case rel => exact ⟨_, HN⟩
                  · have j1' : ¬ (j : Int) < n2 := by omega
                    clear hj1
                    go_wp2_with fail
                    go_meet
                    case rel => exact ⟨_, HN⟩
            case rest =>
              obtain ⟨pv, G5⟩ := hcut
              obtain ⟨wp, hwp⟩ : ∃ wp, wp = wc := ⟨_, rfl⟩
              subst hwp
              have c1 := G5.out.2.t.tab.cell hY6
              rw [HrY.out.1, ← HL.out] at c1
              have y2 : IntKind.i64.wrap ((Y : Int) + 1) = (Y : Int) + 1 := IntWalk.i64_in _ ⟨by omega, by omega⟩
              have y3 : IntKind.u8.wrap ((Y : Int) + 1) = (Y : Int) + 1 := IntWalk.u8_in _ ⟨by omega, by omega⟩
              have e0 : (0 : Int) ≤ Y := by omega
              have e6 : (Y : Int) < 6 := by omega
              obtain ⟨ta, tc, htv, _⟩ := own_slice G5.out.2.c.th
              obtain ⟨pa, pc, hpv, _⟩ := own_slice G5.out.2.c.pa
              obtain ⟨tn, htn⟩ : ∃ tn, tn = R1.length := ⟨_, rfl⟩
              obtain ⟨pn, hpn⟩ : ∃ pn, pn = PL.length := ⟨_, rfl⟩
              rw [← htn] at htv
              rw [← hpn] at hpv
              subst htv
              subst hpv
              clear htn hpn
              obtain ⟨W5, hW5⟩ : ∃ W5, W5 = wp.alloc (.cells #[.int .u8 ((Y : Int) + 1), .int .i64 L] 41) := ⟨_, rfl⟩
              obtain ⟨ib, hib⟩ : ∃ ib, ib = wp.heap.size := ⟨_, rfl⟩
              obtain ⟨ID, hID⟩ : ∃ ID : Nm, ID = ⟨(Y : Int) + 1, (L : Int)⟩ := ⟨_, rfl⟩
              have x5 : Ext wp W5 := by rw [hW5]; exact (Ext.refl _).alloc _
              have hbn : BN W5 ib ID := by rw [hW5, hib, hID]; exact BN.new wp ⟨(Y : Int) + 1, (L : Int)⟩
              have h6 : s.t.length = 6 := HT.out.inv.l6
              have G6 := Lib.hid (And.intro (G5.out.1.trans x5) (G5.out.2.ext x5))
              have HRow := Lib.hid (show W5.ownsRow (g0 + 1) 46 4 (.slice ra L rc) L (cL (yi s.t Y) (us Y) (vs Y)).flatten by
                have h1 := (G6.out.2.t.rows Y hY6).row
                rw [HrY.out.1, ← HL.out] at h1; exact h1)
              have hL60 : L ≤ 60 := by have h1 := HT.out.r Y hY6; have h2 := HL.out; omega
              have HKs := Lib.hid (show Ks 4 [[Value.int .u8 BD, .bool NW, .slice ta tn tc, .slice pa pn pc]] from fun z hz => by
                rw [List.mem_singleton.1 hz]
                refine ⟨rfl, fun v hv => ?_⟩
                simp only [List.mem_cons, List.not_mem_nil, or_false] at hv
                rcases hv with rfl | rfl | rfl | rfl <;> rfl)
              have HSz := Lib.hid (show g0 + 1 ≤ W5.heap.size from G6.out.2.t.tab.lt)
              have HgN := Lib.hid (show gl ≠ g0 from fun e => by have := G5.out.2.c.b; omega)
              have h0g : w.heap.size ≤ g0 := by rw [← Hg0.out]; exact Nat.le_refl _
              have hrib : ∀ g, (F Y).ownBlock = some g → g ≠ ib := fun g hg e => by
                have := ((G5.out.2.t.rows Y hY6).row.lt g hg).2; omega
              have hibg : ib ≠ g0 := by have := G5.out.2.t.tab.lt; omega
              obtain ⟨LX, hLX⟩ : ∃ LX : Lp, LX = ⟨BD, NW, R1, PL⟩ := ⟨_, rfl⟩
              have HPush := Lib.hid (show ∀ (wz : World) (v5 : Value) (w5 : World), Ext W5 wz → w5.ownsRow (g0 + 1) 46 4 v5 (L + 1) (cL (yi s.t Y) (us Y) (vs Y) ++ [[Value.int .u8 BD, Value.bool NW, Value.slice ta tn tc, Value.slice pa pn pc]]).flatten → wz.grownBy w5 (Value.slice ra L rc).ownBlock → AtB wz (.slice ra L rc) v5 →
                  w5.rowIs g0 47 6 F ∧ B4 w5 gl (.int .u8 BD) (.bool NW) (.slice ta tn tc) (.slice pa pn pc) 46 ∧ Hid (BN (w5.setCell ⟨g0, Y, none⟩ v5) ib ID ∧ Ext w (w5.setCell ⟨g0, Y, none⟩ v5) ∧ ∃ F' us' vs', OT g0 (w5.setCell ⟨g0, Y, none⟩ v5) F' us' vs' ⟨s.t.set Y (yi s.t Y ++ [LX]), R2, s.made⟩ (.slice fa lf fc) (.slice ma nm mc)) from fun wz v5 w5 xz ho hg hat => by
                have hrow := HrY.out.1
                rw [← HL.out] at hrow
                rw [← hrow] at hg hat
                have hz := G6.out.2.ext xz
                have hlz := (hz.t.rows Y hY6).row.lt
                have hbz := hbn.ext xz
                have hpush := OA.push (l := ⟨BD, NW, R1, PL⟩) hz hY6 h6 hg hat (by rw [← HL.out]; exact ho)
                have htab : w5.rowIs g0 47 6 F := hz.t.tab.of_block (hg.block g0 hz.t.tab.lt fun e => by have := (hlz g0 e.symm).1; omega)
                have hbx : w5.heap[gl]? = wz.heap[gl]? := hg.block gl hz.c.box.lt fun e => hz.c.hF Y hY6 e.symm
                have hbi : w5.heap[ib]? = wz.heap[ib]? := hg.block ib (Array.getElem?_eq_some_iff.1 (show wz.heap[ib]? = some _ from hbz)).1 fun e => hrib ib e.symm rfl
                refine ⟨htab, by unfold B4; rw [hbx]; exact hz.c.box, Lib.hid ⟨?_, ?_, _, _, _, by rw [hLX]; exact hpush⟩⟩
                · unfold BN
                  rw [Below.heap_setCell _ _ _ _ hibg, hbi]; exact hbz
                · exact Ext.setCell (Ext.grown (G6.out.1.trans xz) hg fun g hg => Nat.le_trans h0g (Nat.le_of_succ_le (hlz g hg).1)) h0g _)
              have HNib := Lib.hid (show ∀ g, (Value.slice fa lf fc).ownBlock = some g → ib ≠ g from fun g hg e => by have := (G5.out.2.t.free.lt g hg).2; omega)
              have Hib := Lib.hid hib
              have HW5 := Lib.hid hW5
              have HID := Lib.hid hID
              have HLX := Lib.hid hLX
              have q0_1 := G6.out.2.c.box.c0; have q0_2 := G6.out.2.c.box.c1; have q0_3 := G6.out.2.c.box.c2; have q0_4 := G6.out.2.c.box.c3
              have p5 := G6.out.2.t.tab.cell hY6
              rw [HrY.out.1, ← HL.out] at p5
              have p6 := cell_alloc p5 (.cells #[.int .u8 BD, .bool NW, .slice ta tn tc, .slice pa pn pc] 46)
              clear hW5 hib x5 hbn hrib hID hLX h6 hibg
              go_upto_region 22 with fail
              rw [← HW5.out, ← Hib.out]
              clear c1
              go_cut [14] from 16 to 181 (fun l wx => l = .pointer (some ⟨ib, 0, none⟩) ∧ Hid (BN wx ib ID ∧ Ext w wx ∧ ∃ F' us' vs', OT g0 wx F' us' vs' ⟨s.t.set Y (yi s.t Y ++ [LX]), R2, s.made⟩ (.slice fa lf fc) (.slice ma nm mc)))
              case first =>
                refine wp_region_held_drew (S := fun w' => w'.cell? ⟨gl, 0, Option.none⟩ = some (.int .u8 BD) ∧ w'.cell? ⟨gl, 1, Option.none⟩ = some (.bool NW) ∧ w'.cell? ⟨gl, 2, Option.none⟩ = some (.slice ta tn tc) ∧ w'.cell? ⟨gl, 3, Option.none⟩ = some (.slice pa pn pc)) (by kernel_rfl) ?_ (fun hHeld => ?_)
                · exact ⟨q0_1, q0_2, q0_3, q0_4⟩
                refine wpAnyH_take (i := 0) (v := ?va841_0) rfl (by kernel_rfl) (by kernel_rfl) (by kernel_rfl) (fun _ _ _ h => h) (Or.inl ⟨by rfl, fun w hSw => ?ti841_0⟩) (by assumption) ?rest841_0
                case ti841_0 => ((try dsimp only at hSw); go_simp; (first | done | with_reducible rfl))
                try simp only [Act.put, List.getElem_toArray, List.getElem_cons_zero, List.getElem_cons_succ, List.setIfInBounds_toArray, List.set_cons_zero, List.set_cons_succ]
                refine wpAnyH_take (i := 1) (v := ?va844_1) rfl (by kernel_rfl) (by kernel_rfl) (by kernel_rfl) (fun _ _ _ h => h) (Or.inl ⟨by rfl, fun w hSw => ?ti844_1⟩) (by assumption) ?rest844_1
                case ti844_1 => ((try dsimp only at hSw); go_simp; (first | done | with_reducible rfl))
                try simp only [Act.put, List.getElem_toArray, List.getElem_cons_zero, List.getElem_cons_succ, List.setIfInBounds_toArray, List.set_cons_zero, List.set_cons_succ]
                refine wpAnyH_take (i := 2) (v := ?va847_2) rfl (by kernel_rfl) (by kernel_rfl) (by kernel_rfl) (fun _ _ _ h => h) (Or.inl ⟨by rfl, fun w hSw => ?ti847_2⟩) (by assumption) ?rest847_2
                case ti847_2 => ((try dsimp only at hSw); go_simp; (first | done | with_reducible rfl))
                try simp only [Act.put, List.getElem_toArray, List.getElem_cons_zero, List.getElem_cons_succ, List.setIfInBounds_toArray, List.set_cons_zero, List.set_cons_succ]
                refine wpAnyH_take (i := 3) (v := ?va850_3) rfl (by kernel_rfl) (by kernel_rfl) (by kernel_rfl) (fun _ _ _ h => h) (Or.inl ⟨by rfl, fun w hSw => ?ti850_3⟩) (by assumption) ?rest850_3
                case ti850_3 => ((try dsimp only at hSw); go_simp; (first | done | with_reducible rfl))
                try simp only [Act.put, List.getElem_toArray, List.getElem_cons_zero, List.getElem_cons_succ, List.setIfInBounds_toArray, List.set_cons_zero, List.set_cons_succ]
                refine wpAnyH_take (i := 4) (v := ?va853_4) rfl (by kernel_rfl) (by kernel_rfl) (by kernel_rfl) (fun _ _ _ h => h) (Or.inl ⟨by rfl, fun w hSw => ?ti853_4⟩) (by assumption) ?rest853_4
                case ti853_4 => ((try dsimp only at hSw); go_simp; (first | done | with_reducible rfl))
                try simp only [Act.put, List.getElem_toArray, List.getElem_cons_zero, List.getElem_cons_succ, List.setIfInBounds_toArray, List.set_cons_zero, List.set_cons_succ]
                refine wpAnyH_take (i := 6) (v := ?va856_6) rfl (by kernel_rfl) (by kernel_rfl) (by kernel_rfl) (fun _ _ _ h => h) (Or.inl ⟨by rfl, fun w hSw => ?ti856_6⟩) (by assumption) ?rest856_6
                case ti856_6 => ((try dsimp only at hSw); go_simp; (first | done | with_reducible rfl))
                try simp only [Act.put, List.getElem_toArray, List.getElem_cons_zero, List.getElem_cons_succ, List.setIfInBounds_toArray, List.set_cons_zero, List.set_cons_succ]
                refine wpAnyH_ready (rs := [5, 7]) (by kernel_rfl) (by simp) ?_
                refine AllReadyH.cons rfl (fun K hK => ?_) (AllReadyH.cons rfl (fun K hK => ?_) AllReadyH.nil)
                · as_aux_lemma =>
                  go_simp
                  refine hK.out _ _ hHeld (fun hHeld => ?_)
                  clear hK K; try simp only [Act.put, List.getElem_toArray, List.getElem_cons_zero, List.getElem_cons_succ, List.setIfInBounds_toArray, List.set_cons_zero, List.set_cons_succ]
                  refine wpAnyH_ready (rs := [7]) (by kernel_rfl) (by simp) ?_
                  refine AllReadyH.cons rfl (fun K hK => ?_) AllReadyH.nil
                  go_simp
                  refine hK.out _ _ ⟨cell_alloc q0_1 _, cell_alloc q0_2 _, cell_alloc q0_3 _, cell_alloc q0_4 _⟩ (fun hHeld => ?_)
                  clear hK K; try simp only [Act.put, List.getElem_toArray, List.getElem_cons_zero, List.getElem_cons_succ, List.setIfInBounds_toArray, List.set_cons_zero, List.set_cons_succ]
                  refine wpAnyH_ready (rs := [8]) (by kernel_rfl) (by simp) ?_
                  refine AllReadyH.cons rfl (fun K hK => ?_) AllReadyH.nil
                  refine step_app ekL (by rfl) _ _ (by rfl) (g0 + 1) (.slice ra L rc) L (cL (yi s.t Y) (us Y) (vs Y)) (by rfl) (own_extk HRow.out (by (focus (repeat (first | (with_reducible exact Ext.refl _) | (with_reducible apply Ext.drew) | (with_reducible apply Ext.drewN) | (with_reducible apply Ext.alloc)))))) _ 1 [[.int .u8 BD, .bool NW, .slice ta tn tc, .slice pa pn pc]] (by rfl) (CK.of_blk (Deep.blk_alloc_new _ _) HKs.out rfl (Nat.le_refl _) (by omega) rfl) HKs.out (by simp; omega) (by simp; omega) (Nat.le_trans HSz.out (Ext.size (by (focus (repeat (first | (with_reducible exact Ext.refl _) | (with_reducible apply Ext.drew) | (with_reducible apply Ext.drewN) | (with_reducible apply Ext.alloc))))))) ?_
                  intro v5 w5 hown hgr hat
                  have HK := Lib.hid (HPush.out _ v5 w5 (by (focus (repeat (first | (with_reducible exact Ext.refl _) | (with_reducible apply Ext.drew) | (with_reducible apply Ext.drewN) | (with_reducible apply Ext.alloc))))) hown hgr hat)
                  obtain ⟨a5, c5, rfl, _⟩ := own_slice hown
                  have p0 := HK.out.1.cell hY6; rw [HrY.out.1, ← HL.out] at p0; have p1 := HK.out.1.frozen Y
                  have r1 := HK.out.2.1.c0; have r2 := HK.out.2.1.c1; have r3 := HK.out.2.1.c2; have r4 := HK.out.2.1.c3
                  clear hown hgr hat
                  refine hK.out _ _ ⟨r1, r2, r3, r4⟩ (fun hHeld => ?_)
                  clear hK K; try simp only [Act.put, List.getElem_toArray, List.getElem_cons_zero, List.getElem_cons_succ, List.setIfInBounds_toArray, List.set_cons_zero, List.set_cons_succ]
                  refine wpAnyH_ready (rs := [9]) (by kernel_rfl) (by simp) ?_
                  refine AllReadyH.cons rfl (fun K hK => ?_) AllReadyH.nil
                  go_simp
                  refine hK.out _ _ ⟨r1, r2, r3, r4⟩ (fun hHeld => ?_)
                  clear hK K; try simp only [Act.put, List.getElem_toArray, List.getElem_cons_zero, List.getElem_cons_succ, List.setIfInBounds_toArray, List.set_cons_zero, List.set_cons_succ]
                  refine wpAnyH_ready (rs := [10]) (by kernel_rfl) (by simp) ?_
                  refine AllReadyH.cons rfl (fun K hK => ?_) AllReadyH.nil
                  go_simp
                  refine hK.out _ _ ⟨cell_set r1 HgN.out _, cell_set r2 HgN.out _, cell_set r3 HgN.out _, cell_set r4 HgN.out _⟩ (fun hHeld => ?_)
                  clear hK K; try simp only [Act.put, List.getElem_toArray, List.getElem_cons_zero, List.getElem_cons_succ, List.setIfInBounds_toArray, List.set_cons_zero, List.set_cons_succ]
                  refine wpAnyH_done (by kernel_rfl) ?_ _
                  go_wp2_with fail
                  go_meet
                  case rel => exact ⟨by rw [Hib.out], HK.out.2.2⟩
                · as_aux_lemma =>
                  go_simp
                  refine hK.out _ _ ⟨cell_alloc q0_1 _, cell_alloc q0_2 _, cell_alloc q0_3 _, cell_alloc q0_4 _⟩ (fun hHeld => ?_)
                  clear hK K; try simp only [Act.put, List.getElem_toArray, List.getElem_cons_zero, List.getElem_cons_succ, List.setIfInBounds_toArray, List.set_cons_zero, List.set_cons_succ]
                  refine wpAnyH_ready (rs := [5]) (by kernel_rfl) (by simp) ?_
                  refine AllReadyH.cons rfl (fun K hK => ?_) AllReadyH.nil
                  go_simp
                  refine hK.out _ _ ⟨cell_alloc q0_1 _, cell_alloc q0_2 _, cell_alloc q0_3 _, cell_alloc q0_4 _⟩ (fun hHeld => ?_)
                  clear hK K; try simp only [Act.put, List.getElem_toArray, List.getElem_cons_zero, List.getElem_cons_succ, List.setIfInBounds_toArray, List.set_cons_zero, List.set_cons_succ]
                  refine wpAnyH_ready (rs := [8]) (by kernel_rfl) (by simp) ?_
                  refine AllReadyH.cons rfl (fun K hK => ?_) AllReadyH.nil
                  refine step_app ekL (by rfl) _ _ (by rfl) (g0 + 1) (.slice ra L rc) L (cL (yi s.t Y) (us Y) (vs Y)) (by rfl) (own_extk HRow.out (by (focus (repeat (first | (with_reducible exact Ext.refl _) | (with_reducible apply Ext.drew) | (with_reducible apply Ext.drewN) | (with_reducible apply Ext.alloc)))))) _ 1 [[.int .u8 BD, .bool NW, .slice ta tn tc, .slice pa pn pc]] (by rfl) (CK.of_blk (Deep.blk_alloc_new _ _) HKs.out rfl (Nat.le_refl _) (by omega) rfl) HKs.out (by simp; omega) (by simp; omega) (Nat.le_trans HSz.out (Ext.size (by (focus (repeat (first | (with_reducible exact Ext.refl _) | (with_reducible apply Ext.drew) | (with_reducible apply Ext.drewN) | (with_reducible apply Ext.alloc))))))) ?_
                  intro v5 w5 hown hgr hat
                  have HK := Lib.hid (HPush.out _ v5 w5 (by (focus (repeat (first | (with_reducible exact Ext.refl _) | (with_reducible apply Ext.drew) | (with_reducible apply Ext.drewN) | (with_reducible apply Ext.alloc))))) hown hgr hat)
                  obtain ⟨a5, c5, rfl, _⟩ := own_slice hown
                  have p0 := HK.out.1.cell hY6; rw [HrY.out.1, ← HL.out] at p0; have p1 := HK.out.1.frozen Y
                  have r1 := HK.out.2.1.c0; have r2 := HK.out.2.1.c1; have r3 := HK.out.2.1.c2; have r4 := HK.out.2.1.c3
                  clear hown hgr hat
                  refine hK.out _ _ ⟨r1, r2, r3, r4⟩ (fun hHeld => ?_)
                  clear hK K; try simp only [Act.put, List.getElem_toArray, List.getElem_cons_zero, List.getElem_cons_succ, List.setIfInBounds_toArray, List.set_cons_zero, List.set_cons_succ]
                  refine wpAnyH_ready (rs := [9]) (by kernel_rfl) (by simp) ?_
                  refine AllReadyH.cons rfl (fun K hK => ?_) AllReadyH.nil
                  go_simp
                  refine hK.out _ _ ⟨r1, r2, r3, r4⟩ (fun hHeld => ?_)
                  clear hK K; try simp only [Act.put, List.getElem_toArray, List.getElem_cons_zero, List.getElem_cons_succ, List.setIfInBounds_toArray, List.set_cons_zero, List.set_cons_succ]
                  refine wpAnyH_ready (rs := [10]) (by kernel_rfl) (by simp) ?_
                  refine AllReadyH.cons rfl (fun K hK => ?_) AllReadyH.nil
                  go_simp
                  refine hK.out _ _ ⟨cell_set r1 HgN.out _, cell_set r2 HgN.out _, cell_set r3 HgN.out _, cell_set r4 HgN.out _⟩ (fun hHeld => ?_)
                  clear hK K; try simp only [Act.put, List.getElem_toArray, List.getElem_cons_zero, List.getElem_cons_succ, List.setIfInBounds_toArray, List.set_cons_zero, List.set_cons_succ]
                  refine wpAnyH_done (by kernel_rfl) ?_ _
                  go_wp2_with fail
                  go_meet
                  case rel => exact ⟨by rw [Hib.out], HK.out.2.2⟩
              case rest =>
                obtain ⟨rfl, G7⟩ := hcut
                obtain ⟨wq, hwq⟩ : ∃ wq, wq = wc := ⟨_, rfl⟩
                subst hwq
                obtain ⟨hb7, x7, F', us', vs', h7⟩ := G7.out
                have hlf := G4.out.1
                obtain ⟨i0, i1⟩ := hb7.at
                simp only [Nat.zero_add] at i1
                have HF7 := Lib.hid (show wq.ownsRow (g0 + 1) 41 2 (.slice fa lf fc) lf (R2.map Nm.cs).flatten by
                  have h1 : wq.ownsRow (g0 + 1) 41 2 (.slice fa lf fc) R2.length (R2.map Nm.cs).flatten := h7.free
                  rw [← hlf] at h1; exact h1)
                have HSq := Lib.hid (show g0 + 1 ≤ wq.heap.size from h7.tab.lt)
                have H7 := Lib.hid h7
                have Hlf := Lib.hid hlf
                have Hb7 := Lib.hid hb7
                have X7 := Lib.hid x7
                have hlf60 : lf ≤ 60 := by
                  have h1 := (thrL_perm (x.thr.take 4) s.free).length_eq
                  rw [List.length_append, ← Hks.out.1, ← HR.out.2] at h1
                  have h2 := HT.out.f
                  omega
                have h0q : w.heap.size ≤ g0 := by rw [← Hg0.out]; exact Nat.le_refl _
                have H0q := Lib.hid h0q
                clear hb7 x7 h7 hlf h0q
                go_wp2_with (at_builtin; refine app_at ekN rfl _ _ rfl (g0 + 1) _ lf (R2.map Nm.cs) rfl (own_extk HF7.out ((Ext.refl _).alloc _)) _ 1 [Nm.cs ID] rfl (CK.of_blk (Deep.blk_alloc_new _ _) (Ks.nm [ID]) rfl (Nat.le_refl _) (by omega) rfl) (Ks.nm [ID]) ?f1 ?f2 ?f3 ?_)
                case f1 => simp; omega
                case f2 => simp; omega
                case f3 => have h1 := HSq.out; simp; omega
                intro v8 w8 hown hgr hat
                have h8 := OT.addF (a := ID) (H7.out.ext ((Ext.refl wq).alloc _)) hgr hat (by rw [show ((R2 ++ [ID]).map Nm.cs).flatten = (R2.map Nm.cs).flatten ++ ID.cs by simp, ← Hlf.out]; exact hown)
                have hb8 : BN w8 ib ID := by
                  have h1 : BN (wq.alloc _) ib ID := Hb7.out.ext ((Ext.refl wq).alloc (.cells #[.int .u8 ID.y, .int .i64 ID.n] 41))
                  unfold BN at h1 ⊢
                  rw [hgr.block ib (Array.getElem?_eq_some_iff.1 h1).1 fun e => HNib.out ib e.symm rfl]; exact h1
                have x8 : Ext w w8 := Ext.grown (X7.out.trans ((Ext.refl wq).alloc _)) hgr fun g hg => Nat.le_trans H0q.out (Nat.le_of_succ_le (HF7.out.lt g hg).1)
                clear i0 i1
                obtain ⟨i0, i1⟩ := hb8.at
                simp only [Nat.zero_add] at i1
                obtain ⟨a8, c8, rfl, _⟩ := own_slice hown
                have HM8 := Lib.hid (show w8.ownsRow (g0 + 1) 41 2 (.slice ma nm mc) nm (s.made.map Nm.cs).flatten by
                  have h1 : w8.ownsRow (g0 + 1) 41 2 (.slice ma nm mc) s.made.length (s.made.map Nm.cs).flatten := h8.made
                  rw [← Hnm.out] at h1; exact h1)
                have HS8 := Lib.hid (show g0 + 1 ≤ w8.heap.size from h8.tab.lt)
                have H8 := Lib.hid h8
                have X8 := Lib.hid x8
                clear hown hgr hat h8 hb8 x8
                go_wp2_with (at_builtin; refine app_at ekN rfl _ _ rfl (g0 + 1) _ nm (s.made.map Nm.cs) rfl (own_extk HM8.out ((Ext.refl _).alloc _)) _ 1 [Nm.cs ID] rfl (CK.of_blk (Deep.blk_alloc_new _ _) (Ks.nm [ID]) rfl (Nat.le_refl _) (by omega) rfl) (Ks.nm [ID]) ?e1 ?e2 ?e3 ?_)
                case e1 => simp; omega
                case e2 => simp; omega
                case e3 => have h1 := HS8.out; simp; omega
                intro v9 w9 hown hgr hat
                have h9 := OT.addM (a := ID) (H8.out.ext ((Ext.refl w8).alloc _)) hgr hat (by rw [show ((s.made ++ [ID]).map Nm.cs).flatten = (s.made.map Nm.cs).flatten ++ ID.cs by simp, ← Hnm.out]; exact hown)
                have hst : stepT s x = ⟨s.t.set Y (yi s.t Y ++ [LX]), R2 ++ [ID], s.made ++ [ID]⟩ := by
                  rw [HLX.out, HID.out, HBD.out, HNW.out, HL.out, HR.out.1, HR.out.2, HPL.out, HPS.out.1, Hks.out.1, HY.out]
                  rfl
                have HN := Lib.hid (show Ext w w9 ∧ OT g0 w9 F' us' vs' (stepT s x) _ v9 ∧ stepT s x = (xs.take (k + 1)).foldl stepT initT from ⟨Ext.grown (X8.out.trans ((Ext.refl w8).alloc _)) hgr fun g hg => Nat.le_trans H0q.out (Nat.le_of_succ_le (HM8.out.lt g hg).1), by rw [hst]; exact h9, by rw [fold_take (by have := Hn.out; omega), ← G.out.2.2, ← HX.out]⟩)
                clear hown hgr hat h9 hst
                go_wp2
                go_roundg (M - (k + 1))
                case measure => omega
                case rel => exact ⟨k + 1, _, _, _, _, by omega, by go_num, HN⟩
    · have hkM' : k = M := by omega
      have hs : s = ofT xs := by
        rw [G.out.2.2]
        have e : xs.take k = xs.take 60 := by
          have h1 := HM.out; have h2 := Hn.out
          rcases Nat.lt_or_ge n 60 with h | h
          · rw [List.take_of_length_le (by omega), List.take_of_length_le (by omega)]
          · rw [show k = 60 by omega]
        rw [e]; rfl
      have HE := Lib.hid (show RetT w xs (.returned (.tuple #[.slice (some ⟨g0, 0, none⟩) 6 6, u6])) wr from ⟨g0, F, us, vs, u5, u6, rfl, by rw [Hg0.out]; exact Nat.le_refl _, by rw [← hs]; exact G.out.2.1, G.out.1⟩)
      have hMn := HM.out
      have hn60 : M ≤ n := by omega
      by_cases h1 : k < n
      · have f1 : (k : Int) < n := by omega
        have f2 : ¬ (k : Int) < 60 := by omega
        clear hs hkM hkM' h1 hMn
        go_wp2
        go_ret2
        exact HE.out
      · have f1 : ¬ (k : Int) < n := by omega
        clear hs hkM hkM' h1 hMn
        go_wp2
        go_ret2
        exact HE.out
end Go.Proofs.YtlhkehfplcclgaaDoor
