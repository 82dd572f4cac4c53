/- Texts of this claim in one file: libraries and walks. -/
import Derived.Deep.CutRange
import Derived.Deep.CutBlock
import Derived.Deep.RegionHeld3
import Derived.Test.YthllbcjglcplhaaDoorRows
import Derived.Lib.LaidU8
import Derived.Test.YthllbcjglcplhaaDoorL0
import Derived.Test.YthllbcjglcplhaaDoorL4
import Derived.Test.YthllbcjglcplhaaDoorL5
import Derived.Test.YthllbcjglcplhaaDoorL8
import Derived.Test.YthllbcjglcplhaaDoorL9
import Derived.Test.YthllbcjglcplhaaDoorL11
import Derived.Test.YthllbcjglcplhaaDoorL12
import Derived.Test.YthllbcjglcplhaaDoorL15
/- (ganseylaw20.A).Of. -/
namespace Go.Proofs.YthllbcjglcplhaaDoor
set_option linter.unusedVariables false
set_option linter.unusedSimpArgs false
set_option maxRecDepth 8000
open Go Go.RowKit

/-- A valid lace is returned. -/
def RetA (w0 : World) (e : Ending) (w' : World) : Prop := ∃ (W : Nat) (v : Value) (c : Nat) (rows : List (List Ho)), e = .returned (.agg #[.int .i64 (W : Int), v]) ∧ HR w' v c rows ∧ lchk W rows = 0 ∧ rows.length ≤ 9 ∧ Ext w0 w'
/-- A row that is being filled: its holes fit, the next one from slot at on. -/
structure RoI (W : Int) (out : List Ho) (at_ : Int) : Prop where
  ok : ∀ h ∈ out, h.ok W 0 ∧ h.lst < at_
  pw : out.Pairwise (fun a b => a.lst < b.fst)
theorem RoI.nil (W a : Int) : RoI W [] a := ⟨fun h hh => by simp at hh, List.Pairwise.nil⟩
theorem RoI.rowE {W a : Int} {out : List Ho} (h : RoI W out a) : Go.Proofs.YthllbcjglcplhaaDoor.rowE W out 0 = true := by
  suffices hs : ∀ (l : List Ho) (f : Int), (∀ x ∈ l, x.ok W f) → l.Pairwise (fun a b => a.lst < b.fst) → Go.Proofs.YthllbcjglcplhaaDoor.rowE W l f = true from hs out 0 (fun x hx => (h.ok x hx).1) h.pw
  intro l
  induction l with
  | nil => intro f _ _; rfl
  | cons a t ih =>
    intro f h1 h2
    obtain ⟨p1, p2⟩ := List.pairwise_cons.1 h2
    refine rowE_cons.2 ⟨h1 a (by simp), ih _ (fun x hx => ?_) p2⟩
    obtain ⟨b1, b2, b3, b4⟩ := h1 x (by simp [hx])
    exact ⟨b1, b2, by have := p1 x hx; omega, b4⟩
theorem RoI.step {W a : Int} {out : List Ho} (h : RoI W out a) : RoI W out (a + 1) := ⟨fun x hx => ⟨(h.ok x hx).1, by have := (h.ok x hx).2; omega⟩, h.pw⟩
theorem RoI.push {W a : Int} {out : List Ho} {x : Ho} (h : RoI W out a) (h0 : 0 ≤ a) (hx : x.fst = a) (hw : a + 1 < W) : RoI W (out ++ [x]) (a + 1 + 1) := by
  have hl := x.two_lst
  have hlst : x.lst = a + 1 := by unfold Ho.lst; omega
  refine ⟨fun y hy => ?_, List.pairwise_append.2 ⟨h.pw, List.pairwise_singleton _ _, fun y hy z hz => ?_⟩⟩
  · rcases List.mem_append.1 hy with hy | hy
    · have := h.ok y hy; exact ⟨this.1, by omega⟩
    · obtain rfl := List.mem_singleton.1 hy
      refine ⟨⟨?_, ?_, by omega, by omega⟩, by omega⟩
      · rcases Bool.eq_false_or_eq_true y.l with e | e
        · have := hl.1 e; omega
        · have := hl.2 e; omega
      · rcases Bool.eq_false_or_eq_true y.l with e | e
        · have := hl.1 e; omega
        · have := hl.2 e; omega
  · obtain rfl := List.mem_singleton.1 hz
    have := (h.ok y hy).2; omega
theorem ISV.outs2 {k : IntKind} {w : World} {v : Value} {c : Nat} {vs : Nat → Value} {caps : Nat → Nat} {rows : List (List Int)} (h : ISV k w v c vs caps rows) : ∃ ao n, v = .slice ao n c ∧ n = rows.length ∧ n ≤ c ∧ c ≤ maxLen ∧
    ∀ i, i < n → ∃ b o a m d, ao = some ⟨b, o, none⟩ ∧ w.cell? ⟨b, o + i, none⟩ = some (.slice a m d) ∧ IS k w (.slice a m d) d (ri rows i) := by
  obtain ⟨h1, h2, ao, hv, h3⟩ := h.open
  refine ⟨ao, _, hv, rfl, h1, h2, fun i hi => ?_⟩
  rcases h3 with ⟨_, h4, _⟩ | ⟨b, o, h5, h6⟩
  · omega
  · obtain ⟨a, m, c', hvi, hm, hc, his⟩ := (h.2 i hi).out
    exact ⟨b, o, a, m, c', h5, by rw [h6 i hi, hvi], his⟩
theorem B2.wet1 {w : World} {b : Nat} {x y : Value} {t : TypeId} (h : B2 w b x y t) (v : Value) : B2 (w.setCell ⟨b, 1, none⟩ v) b x v t := h.set1
/-- The rows that are laid: the lace's block M holds them. -/
def AI (B wr : World) (W : Int) (M : Nat) (vl : Value) (rows : List (List Ho)) : Prop := HC B wr vl rows ∧ B2 wr M (.int .i64 W) vl 24 ∧ ∀ r ∈ rows, rowE W r 0 = true
set_option maxHeartbeats 8000000 in
theorem AOf_calls (wd : Int) (v : Value) (c : Nat) (chs : List (List Int)) (w : World) (h : ISS .u8 w v c chs) (hw : 0 ≤ wd ∧ wd ≤ 255) (hb : ∀ k, k < chs.length → ∀ i, i < (ri chs k).length → 0 ≤ gi (ri chs k) i ∧ gi (ri chs k) i ≤ 255) :
    Calls Tryd.prog 22 #[.agg #[.int .u8 wd, v]] w (RetA w) := by
  obtain ⟨vs, caps, hV⟩ := h
  obtain ⟨ao, n, rfl, hn, hc, hcm, hat⟩ := hV.outs2
  unfold maxLen at hcm
  obtain ⟨V, hVV⟩ : ∃ V : Nat, 2 + wd % 15 = (V : Int) := ⟨(2 + wd % 15).toNat, by omega⟩
  have hV2 : 2 ≤ V ∧ V ≤ 16 := by omega
  obtain ⟨B, hB⟩ : ∃ B, B = (w.alloc (.cells #[.int .u8 wd, .slice ao n c] 56)).alloc (.cells #[.int .i64 0, .slice none 0 0] 24) := ⟨_, rfl⟩
  have xB : Ext w B := by rw [hB]; exact ((Ext.refl w).alloc _).alloc _
  have hB1 : B2 B w.heap.size (.int .u8 wd) (.slice ao n c) 56 := by rw [hB]; exact (B2.new w _ _ _).alloc _
  have hB4 : B2 B (w.heap.size + 1) (.int .i64 0) (.slice none 0 0) 24 := by
    rw [hB]; have := B2.new (w.alloc (.cells #[.int .u8 wd, .slice ao n c] 56)) (.int .i64 0) (.slice none 0 0) 24
    rwa [show (w.alloc (.cells #[.int .u8 wd, .slice ao n c] 56)).heap.size = w.heap.size + 1 by simp] at this
  obtain ⟨B3, hB3⟩ : ∃ B3, B3 = B.alloc (.cells #[.int .i64 (V : Int), .slice none 0 0] 24) := ⟨_, rfl⟩
  have hbs : B.heap.size = w.heap.size + 2 := by rw [hB]; simp
  have hM0 : AI B B3 V B.heap.size (.slice none 0 0) [] := ⟨by rw [hB3]; exact HC.nil ((Ext.refl B).alloc _), by rw [hB3]; exact B2.new _ _ _ _, fun r hr => by simp at hr⟩
  have HM0 := Lib.hid hM0
  have HBe := Lib.hid hB; have HB3 := Lib.hid hB3; have HA := Lib.hid hat; have XB := Lib.hid xB; have Hb := Lib.hid hb; have Hn := Lib.hid hn; have HBs := Lib.hid hbs
  have HB2 := Lib.hid (fun w' (x : Ext B w') => hB1.ext x); have HR4 := Lib.hid (fun w' (x : Ext B w') => hB4.ext x)
  have x3 : Ext B B3 := by rw [hB3]; exact (Ext.refl B).alloc _
  have e0 := (hB1.ext x3).c0; have e1 := (hB1.ext x3).c1
  have d0 := hB1.c0; have d1 := hB1.c1
  rw [hB3, hB] at e0 e1
  rw [hB] at d0 d1
  obtain ⟨M, hMn⟩ : ∃ M : Nat, M = min n 9 := ⟨_, rfl⟩
  have hmin : (if (9 : Int) < n then (9 : Int) else (n : Int)) = (M : Int) := by split <;> omega
  have hmin2 : min (n : Int) 9 = (M : Int) := by omega
  have hM9 : M ≤ 9 := by omega
  have hmm : many n = if M % 2 = 0 then M + 1 else M := by unfold many; rw [hMn]
  have t2 : IntKind.i64.wrap ((M : Int) % 2) = (M : Int) % 2 := IntWalk.i64_in _ ⟨by omega, by omega⟩
  have t3 : IntKind.i64.wrap ((M : Int) + 1) = (M : Int) + 1 := IntWalk.i64_in _ ⟨by omega, by omega⟩
  have w8 : IntKind.u8.wrap (wd % 15) = wd % 15 := by rw [IntKind.wrap_u8]; omega
  have w9 : IntKind.i64.wrap (wd % 15) = wd % 15 := IntWalk.i64_in _ ⟨by omega, by omega⟩
  have w10 : IntKind.i64.wrap (V : Int) = (V : Int) := IntWalk.i64_in _ ⟨by omega, by omega⟩
  have Hmm := Lib.hid hmm
  obtain ⟨hw1, hw2⟩ := hw
  clear hV hn hat hb hB hB3 hB1 hB4 xB x3 hM0 hbs hMn hmm
  go_enter Tryd.func22, Tryd.ntmps22
  go_upto_if 23 with fail
  go_cut [4] from 4 to 85 (fun x wx => x = .int .i64 (many n : Nat) ∧ wx = B3)
  case first =>
    by_cases he : M % 2 = 0
    · have he' : ((M : Int) % 2 == 0) = true := by rw [beq_iff_eq]; omega
      have hz := Hmm.out
      rw [if_pos he] at hz
      have Hz := Lib.hid hz
      clear hz he
      go_wp2_with fail
      go_meet
      case rel => exact ⟨by rw [Hz.out]; congr 1, by rw [HB3.out, HBe.out]⟩
    · have he' : ((M : Int) % 2 == 0) = false := beq_eq_false_iff_ne.2 (by omega)
      have hz := Hmm.out
      rw [if_neg he] at hz
      have Hz := Lib.hid hz
      clear hz he
      go_wp2_with fail
      go_meet
      case rel => exact ⟨by rw [Hz.out], by rw [HB3.out, HBe.out]⟩
  case rest =>
    obtain ⟨rfl, rfl⟩ := hcut
    have hmb := many_bd n
    obtain ⟨MM, hMM⟩ : ∃ MM, MM = many n := ⟨_, rfl⟩
    rw [← hMM] at hmb ⊢
    obtain ⟨hmb1, hmb2⟩ := hmb
    have HMM := Lib.hid hMM
    clear hMM hmin hmin2 hM9 t2 t3 Hmm w8 w9 w10 e0 e1 d0 d1
    have hMa : w.heap.size + 1 + 1 = B.heap.size := by have := HBs.out; omega
    obtain ⟨G, hG⟩ : ∃ G, G = w.heap.size + 1 + 1 := ⟨_, rfl⟩
    have HG := Lib.hid (show G = B.heap.size by omega)
    rw [← hG]
    rw [← hMa, ← hG] at HM0
    clear hG hMa
    go_wp2
    go_loopw [5, 6, 7, 8, 9, 10] (fun i _ _ _ _ _ wr => ∃ (k : Nat) (vl : Value) (rows : List (List Ho)), k ≤ MM ∧ i = .int .i64 k ∧ rows.length = k ∧ Hid (AI B wr V G vl rows)) (fun i _ _ _ _ _ _ => MM - (intOf i).toNat)
    case atStart => exact ⟨0, _, [], Nat.zero_le _, rfl, rfl, HM0⟩
    case round =>
      obtain ⟨k, vl, rows, hk, rfl, hrl, H⟩ := hrel
      clear HM0
      obtain ⟨al, nl, cl, rfl, hnl⟩ := H.out.1.form
      have HRl := Lib.hid hrl
      clear hnl hrl
      have m0 := H.out.2.1.c0; have m1 := H.out.2.1.c1
      by_cases hlt : k < MM
      · have t1 : (k : Int) < (MM : Int) := by omega
        obtain ⟨wo, hwo⟩ : ∃ wo : World, wo = wr := ⟨_, rfl⟩
        go_wp2
        rw [← hwo] at H ⊢
        clear m0 m1 hwo
        go_loopw [6, 7, 8, 9, 10] (fun vr kk at_ _ _ ws => ∃ (a q : Nat) (out : List Ho), a ≤ V ∧ q ≤ a ∧ at_ = .int .i64 a ∧ kk = .int .i64 q ∧ out.length ≤ a ∧ Hid (Ext wo ws ∧ ws.ownsRow wo.heap.size 39 2 vr out.length (hcells out)) ∧ Hid (RoI V out a)) (fun _ _ at_ _ _ _ => V - (intOf at_).toNat)
        case atStart => exact ⟨0, 0, [], Nat.zero_le _, Nat.le_refl _, rfl, rfl, Nat.le_refl _, Lib.hid ⟨Ext.refl _, World.ownsRow_nil _ _ _ _⟩, Lib.hid (RoI.nil _ _)⟩
        case round =>
          obtain ⟨a, q, out, ha, hq, rfl, rfl, hol, HQ, HR0⟩ := hrel
          obtain ⟨ws, hws⟩ : ∃ ws : World, ws = wr := ⟨_, rfl⟩
          rw [← hws] at HQ ⊢
          clear hws
          have g0 := (H.out.2.1.ext HQ.out.1).c0; have g1 := (H.out.2.1.ext HQ.out.1).c1
          have w1 : IntKind.i64.wrap ((a : Int) + 1) = (a : Int) + 1 := IntWalk.i64_in _ ⟨by omega, by omega⟩
          have hxx := (H.out.1.1.trans HQ.out.1)
          have b0 := (HB2.out ws hxx).c0; have b1 := (HB2.out ws hxx).c1
          by_cases hal : a + 1 < V
          · have t4 : (a : Int) + 1 < (V : Int) := by omega
            have hstep := HR0.out.step
            rw [show (a : Int) + 1 = ((a + 1 : Nat) : Int) by omega] at hstep
            have HStep := Lib.hid hstep
            clear hstep hxx
            by_cases hkn : k < n
            · obtain ⟨b, o, ar, mr, dr, rfl, y1, y2⟩ := HA.out k hkn
              have hy1 := (XB.out.trans (H.out.1.1.trans HQ.out.1)).cell y1
              obtain ⟨aa, na, hv, hna, hnc, hmx, hea⟩ := y2.ent
              simp only [Value.slice.injEq] at hv
              obtain ⟨rfl, rfl, _⟩ := hv
              unfold maxLen at hmx
              have t5 : (k : Int) < (n : Int) := by omega
              by_cases hqm : q < mr
              · have t6 : (q : Int) < (mr : Int) := by omega
                obtain ⟨b5, o5, rfl, hc5⟩ := hea q hqm
                replace hc5 := (XB.out.trans (H.out.1.1.trans HQ.out.1)).cell hc5
                have hxb := Hb.out k (by rw [← Hn.out]; exact hkn) q (by rw [← hna]; exact hqm)
                obtain ⟨X, hX⟩ : ∃ X, X = gi (ri chs k) q := ⟨_, rfl⟩
                rw [← hX] at hc5 hxb
                have wx : IntKind.u8.wrap (X % 3) = X % 3 := by rw [IntKind.wrap_u8]; omega
                obtain ⟨hx1, hx2⟩ := hxb
                clear y1 y2 hea hna hX
                by_cases hX0 : X % 3 = 0
                · have z0 : (X % 3 == 0) = true := by rw [beq_iff_eq]; exact hX0
                  clear hX0
                  go_wp2
                  go_roundw
                  case rel => exact ⟨a + 1, q + 1, out, by omega, by omega, by go_num, by go_num, by omega, HQ, HStep⟩
                  case measure => simp [intOf]; omega
                have z0 : (X % 3 == 0) = false := beq_eq_false_iff_ne.2 hX0
                by_cases hX2 : X % 3 = 2
                · have z2 : (X % 3 == 2) = true := by rw [beq_iff_eq]; exact hX2
                  have hpush := HR0.out.push (x := ⟨(a : Int) + 1, true⟩) (by omega) (by simp [Ho.fst]) (by omega)
                  rw [show (a : Int) + 1 + 1 = ((a + 1 + 1 : Nat) : Int) by omega] at hpush
                  have HPu := Lib.hid hpush
                  clear hX0 hX2 hpush
                  go_wp2_with (at_builtin; refine app_ho rfl _ _ rfl wo.heap.size _ out.length (hcells out) rfl (own_hext HQ.out.2 (((Ext.refl ws).alloc _).alloc _)) _ 1 1 [⟨(a : Int) + 1, true⟩] rfl rfl (HO.lit1 (blk_at (by simp))) ?p1 ?p2 ?_)
                  any_goals (first | omega | (have hsz := HQ.out.1.size; simp; omega))
                  intro v' w' hown hbel hgr
                  have HN := Lib.hid (show Ext wo w' ∧ w'.ownsRow wo.heap.size 39 2 v' (out ++ [(⟨(a : Int) + 1, true⟩ : Ho)]).length (hcells (out ++ [⟨(a : Int) + 1, true⟩])) from ⟨Below.trans ((HQ.out.1.alloc _).alloc _) hbel, by rw [List.length_append, hcells_app]; exact hown⟩)
                  clear hown hbel hgr
                  go_wp2
                  go_roundw
                  case rel => exact ⟨a + 1 + 1, q + 1, _, by omega, by omega, by go_num, by go_num, by simp; omega, HN, HPu⟩
                  case measure => simp [intOf]; omega
                · have z2 : (X % 3 == 2) = false := beq_eq_false_iff_ne.2 hX2
                  have hpush := HR0.out.push (x := ⟨(a : Int), false⟩) (by omega) (by simp [Ho.fst]) (by omega)
                  rw [show (a : Int) + 1 + 1 = ((a + 1 + 1 : Nat) : Int) by omega] at hpush
                  have HPu := Lib.hid hpush
                  clear hX0 hX2 hpush
                  go_wp2_with (at_builtin; refine app_ho rfl _ _ rfl wo.heap.size _ out.length (hcells out) rfl (own_hext HQ.out.2 (((Ext.refl ws).alloc _).alloc _)) _ 1 1 [⟨(a : Int), false⟩] rfl rfl (HO.lit1 (blk_at (by simp))) ?p3 ?p4 ?_)
                  any_goals (first | omega | (have hsz := HQ.out.1.size; simp; omega))
                  intro v' w' hown hbel hgr
                  have HN := Lib.hid (show Ext wo w' ∧ w'.ownsRow wo.heap.size 39 2 v' (out ++ [(⟨(a : Int), false⟩ : Ho)]).length (hcells (out ++ [⟨(a : Int), false⟩])) from ⟨Below.trans ((HQ.out.1.alloc _).alloc _) hbel, by rw [List.length_append, hcells_app]; exact hown⟩)
                  clear hown hbel hgr
                  go_wp2
                  go_roundw
                  case rel => exact ⟨a + 1 + 1, q + 1, _, by omega, by omega, by go_num, by go_num, by simp; omega, HN, HPu⟩
                  case measure => simp [intOf]; omega
              · have t6 : ¬ (q : Int) < (mr : Int) := by omega
                clear y1 y2 hea hna
                go_wp2
                go_roundw
                case rel => exact ⟨a + 1, q + 1, out, by omega, by omega, by go_num, by go_num, by omega, HQ, HStep⟩
                case measure => simp [intOf]; omega
            · have t5 : ¬ (k : Int) < (n : Int) := by omega
              go_wp2
              go_roundw
              case rel => exact ⟨a + 1, q + 1, out, by omega, by omega, by go_num, by go_num, by omega, HQ, HStep⟩
              case measure => simp [intOf]; omega
          · have t4 : ¬ (a : Int) + 1 < (V : Int) := by omega
            have hhv := (HV.of_own HQ.out.2).1
            have hro := HR0.out.rowE
            have hf1 := (H.out.2.1.ext HQ.out.1).f1
            have hco := H.out.1.later HQ.out.1
            have HCo := Lib.hid hco; have HHv := Lib.hid hhv; have HRo := Lib.hid hro
            have HMb := Lib.hid (H.out.2.1.ext HQ.out.1)
            clear hhv hro hco hxx
            obtain ⟨ar, nr, cr, rfl, hnr⟩ := HHv.out.form
            clear hnr
            have hlen : rows.length ≤ 100000 := by have := HRl.out; omega
            go_wp2_with (at_builtin; go_loud (refine app_how rfl _ _ rfl B _ rows rfl HCo.out _ _ HHv.out ws.heap.size rfl rfl hlen ?_))
            intro v' w' hco' hkeep
            have hm' := (by first | exact hkeep _ _ _ _ HMb.out (by decide) | exact hkeep _ _ _ _ _ HMb.out (by decide) : w'.heap[G]? = some (.cells #[.int .i64 (V : Int), .slice al nl cl] 24 (0, 0)))
            have hm9 : B2 w' G (.int .i64 (V : Int)) (.slice al nl cl) 24 := hm'
            have hc1 := hm9.c1; have hf9 := hm9.f1
            have HN := Lib.hid (show AI B (w'.setCell ⟨G, 1, none⟩ v') V G v' (rows ++ [out]) from
              ⟨hco'.setOther (a := ⟨G, 1, none⟩) hm9 (by decide) (by decide) (by rw [HG.out]; exact Nat.le_refl _), hm9.set1, fun r hr => by
                rcases List.mem_append.1 hr with hr | hr
                · exact H.out.2.2 r hr
                · rw [List.mem_singleton.1 hr]; exact HRo.out⟩)
            obtain ⟨a2, n2, c2, rfl, hn2⟩ := hco'.form
            clear hco' hkeep hm' hm9 hn2
            go_wp2
            go_roundw
            case rel => exact ⟨k + 1, _, rows ++ [out], by omega, by go_num, by simp [HRl.out], HN⟩
            case measure => simp [intOf]; omega
      · obtain rfl : MM = k := by omega
        have t1 : ¬ (MM : Int) < (MM : Int) := by omega
        have hr4 := HR4.out wr H.out.1.1
        have c4 := hr4.c0; have c5 := hr4.c1; have f4 := hr4.f0; have f5 := hr4.f1
        have c6 := (hr4.set2 (.int .i64 (V : Int)) (.slice al nl cl)).c0; have c7 := (hr4.set2 (.int .i64 (V : Int)) (.slice al nl cl)).c1
        have HF := Lib.hid (show RetA w (.returned (.agg #[.int .i64 (V : Int), .slice al nl cl])) ((wr.setCell ⟨w.heap.size + 1, 0, none⟩ (.int .i64 (V : Int))).setCell ⟨w.heap.size + 1, 0 + 1, none⟩ (.slice al nl cl)) from by
          have h1 := H.out.1
          have hbs := HBs.out
          have h2 : HC w ((wr.setCell ⟨w.heap.size + 1, 0, none⟩ (.int .i64 (V : Int))).setCell ⟨w.heap.size + 1, 0 + 1, none⟩ (.slice al nl cl)) (.slice al nl cl) rows := by
            have a1 : HC w wr (.slice al nl cl) rows := by
              obtain ⟨p1, vs', p2, p3⟩ := h1
              exact ⟨XB.out.trans p1, vs', ⟨p2.1, by
                rcases p2.2 with q1 | ⟨g, cap, cur, q1, q2, q3⟩
                · exact .inl q1
                · exact .inr ⟨g, cap, cur, q1, by have := XB.out.size; omega, q3⟩⟩, p3⟩
            have a2 := a1.setOther (a := ⟨w.heap.size + 1, 0, none⟩) (u' := .int .i64 (V : Int)) hr4 (by decide) (by decide) (by simp)
            exact a2.setOther (a := ⟨w.heap.size + 1, 0 + 1, none⟩) (u' := .slice al nl cl) (show (wr.setCell ⟨w.heap.size + 1, 0, none⟩ (.int .i64 (V : Int))).heap[w.heap.size + 1]? = _ from hr4.set0) (by decide) (by decide) (by simp)
          obtain ⟨c', hrr⟩ := h2.rr
          refine ⟨V, _, c', rows, rfl, hrr, lchk_ok (by have := HRl.out; omega) (by have := HRl.out; omega) (fun k hk => H.out.2.2 _ (ow_mem hk)), by have := HRl.out; omega, h2.1⟩)
        clear hr4
        go_wp2
        exact bodyPost_ret (v := .agg #[.int .i64 (V : Int), .slice al nl cl]) (by simp [results, Tryd.results22, go_sem, c6, c7]) rfl HF.out
end Go.Proofs.YthllbcjglcplhaaDoor
/- ganseyref20.Check. -/
namespace Go.Proofs.YthllbcjglcplhaaDoor
set_option linter.unusedVariables false
set_option linter.unusedSimpArgs false
set_option maxRecDepth 8000
open Go Go.RowKit

set_option maxHeartbeats 4000000 in
theorem RCheck20_calls (W : Int) (v : Value) (c : Nat) (rows : List (List Ho)) (w : World) (h : HR w v c rows) : Calls Tryd.prog 12 #[.agg #[.int .i64 W, v]] w fun e w' => e = .returned (.int .i64 (lchk W rows)) ∧ Ext w w' := by
  obtain ⟨ao, n, rfl, hn, hc, hcm, hat⟩ := h.open
  unfold maxLen at hcm
  obtain ⟨W1, hW1⟩ : ∃ W1, W1 = w.alloc (.cells #[.int .i64 W, .slice ao n c] 24) := ⟨_, rfl⟩
  have xW : Ext w W1 := by rw [hW1]; exact (Ext.refl w).alloc _
  have hB := B2.new w (.int .i64 W) (.slice ao n c) 24
  rw [← hW1] at hB
  have hbig := fun (h : 31 < n ∨ 16 < W) => lchk_big (W := W) (rows := rows) (by omega)
  have harg := fun (h : ¬ (31 < n ∨ 16 < W)) (h2 : W < 2 ∨ n % 2 = 0) => lchk_arg (W := W) (rows := rows) (by omega) (by omega)
  have hrow := fun (h : ¬ (31 < n ∨ 16 < W)) k (hk : k < n) => lchk_row (W := W) (rows := rows) (by omega) (k := k) (by omega)
  have hok := fun (h : ¬ (31 < n ∨ 16 < W)) (h2 : ¬ (W < 2 ∨ n % 2 = 0)) (h3 : ∀ k, k < n → rowE W (ow rows k) 0 = true) => lchk_ok (W := W) (rows := rows) (by omega) (by omega) (fun k hk => h3 k (by omega))
  obtain ⟨S, hS⟩ : ∃ S, S = lchk W rows := ⟨_, rfl⟩
  rw [← hS] at hbig harg hrow hok ⊢
  have HA := Lib.hid hat; have HBig := Lib.hid hbig; have HArg := Lib.hid harg; have HRow := Lib.hid hrow; have HOk := Lib.hid hok; have HB := Lib.hid hB; have XW := Lib.hid xW; have HW1 := Lib.hid hW1
  have e0 := hB.c0; have e1 := hB.c1
  rw [hW1] at e0 e1
  clear hat h hn hS hbig harg hrow hok hB xW hW1
  have w2 : IntKind.i64.wrap ((n : Int) % 2) = (n : Int) % 2 := IntWalk.i64_in _ ⟨by omega, by omega⟩
  go_enter Tryd.func12, Tryd.ntmps12
  by_cases hb1 : 31 < n
  · have t0 : (31 : Int) < n := by omega
    have hS := HBig.out (.inl hb1)
    subst hS
    clear hb1
    go_wp2
    go_ret
    exact ⟨rfl, (Ext.refl w).alloc _⟩
  have t0 : ¬ (31 : Int) < n := by omega
  by_cases hb2 : 16 < W
  · have hS := HBig.out (.inr hb2)
    subst hS
    go_wp2
    go_ret
    exact ⟨rfl, (Ext.refl w).alloc _⟩
  have hnb : ¬ (31 < n ∨ 16 < W) := by omega
  have HNb := Lib.hid hnb
  clear hnb HBig
  by_cases ha1 : W < 2
  · have hS := HArg.out HNb.out (.inl ha1)
    subst hS
    go_wp2
    go_ret
    exact ⟨rfl, (Ext.refl w).alloc _⟩
  by_cases ha2 : n % 2 = 0
  · have hS := HArg.out HNb.out (.inr ha2)
    have t2 : (((n : Int) % 2) == 0) = true := by rw [beq_iff_eq]; omega
    subst hS
    clear ha2
    go_wp2
    go_ret
    exact ⟨rfl, (Ext.refl w).alloc _⟩
  have hna : ¬ (W < 2 ∨ n % 2 = 0) := by omega
  have HNa := Lib.hid hna
  have t2 : (((n : Int) % 2) == 0) = false := beq_eq_false_iff_ne.2 (by omega)
  clear ha2 hna HArg
  go_wp2
  rw [← HW1.out]
  clear e0 e1 w2 t2
  obtain ⟨V, hV⟩ : ∃ V : Nat, W = V := ⟨W.toNat, by omega⟩
  have HV := Lib.hid hV
  have hV16 : V ≤ 16 := by omega
  clear hV
  go_loopw [3, 4, 5] (fun i _ _ wr => ∃ k : Nat, k ≤ n ∧ i = .int .i64 k ∧ Hid (Ext W1 wr) ∧ Hid (∀ j, j < k → rowE W (ow rows j) 0 = true)) (fun i _ _ _ => n - (intOf i).toNat)
  case atStart => exact ⟨0, Nat.zero_le _, rfl, Lib.hid (Ext.refl _), Lib.hid (fun j hj => by omega)⟩
  case round =>
    obtain ⟨k, hk, rfl, HX, HG⟩ := hrel
    have q0_1 := (HB.out.ext HX.out).c0
    have q0_2 := (HB.out.ext HX.out).c1
    by_cases hlt : k < n
    · obtain ⟨b, o, a, m, d, rfl, y1, y2⟩ := HA.out k hlt
      have q0_3 := (XW.out.trans HX.out).cell y1
      have t1 : (k : Int) < n := by omega
      have hcl := fun w' (x : Ext wr w') => RRow20_calls _ d V (ow rows k) w' (y2.ext ((XW.out.trans HX.out).trans x)) (by omega)
      unfold RetSN rowN at hcl
      rw [← HV.out] at hcl
      have hgoal := HRow.out HNb.out k hlt
      have HCl := Lib.hid hcl; have HGoal := Lib.hid hgoal
      clear hcl hgoal y1 y2
      obtain ⟨wq, hwq⟩ : ∃ wq : World, wq = wr := ⟨_, rfl⟩
      by_cases hr : rowE W (ow rows k) 0 = true
      · have hcl := HCl.out
        rw [if_pos hr] at hcl
        replace HCl := Lib.hid hcl
        have HG2 := Lib.hid (show ∀ j, j < k + 1 → rowE W (ow rows j) 0 = true from fun j hj => by
          by_cases e : j = k
          · rw [e]; exact hr
          · exact HG.out j (by omega))
        clear hcl hr HGoal hwq
        go_wp2
        go_region_held3 (fun w' => w'.cell? ⟨w.heap.size, 0, Option.none⟩ = some (.int .i64 W) ∧ w'.cell? ⟨w.heap.size, 1, Option.none⟩ = some (.slice (some ⟨b, o, Option.none⟩) n c) ∧ w'.cell? ⟨b, o + k, Option.none⟩ = some (.slice a m d)) (first | (with_reducible exact ⟨q0_1, q0_2, q0_3⟩) | (with_reducible exact ⟨q1_1, q1_2, q1_3⟩) | go_keep) (first
          | (go_at_call 24; (refine (HCl.out _ ?_).mono ?_); (focus (repeat (first | (with_reducible exact Ext.refl _) | (with_reducible apply Ext.drew) | (with_reducible apply Ext.drewN) | (with_reducible apply Ext.alloc)))); intro e wa hh; obtain ⟨rfl, x⟩ := hh; have Xa : Hid (Ext wr wa) := Lib.hid (Ext.trans (by ((repeat (first | (with_reducible exact Ext.refl _) | (with_reducible apply Ext.drew) | (with_reducible apply Ext.drewN) | (with_reducible apply Ext.alloc))); done)) x); have q1_1 := Xa.out.cell q0_1; have q1_2 := Xa.out.cell q0_2; have q1_3 := Xa.out.cell q0_3; clear x))
        try go_wp2
        go_roundw
        case rel => exact ⟨k + 1, by omega, by go_num, Lib.hid (HX.out.trans Xa.out), HG2⟩
        case measure => simp [intOf]; omega
      · have hcl := HCl.out
        rw [if_neg hr] at hcl
        replace HCl := Lib.hid hcl
        have hS := HGoal.out (by simpa using hr)
        subst hS
        clear hcl hr HGoal hwq
        go_wp2
        go_region_held3 (fun w' => w'.cell? ⟨w.heap.size, 0, Option.none⟩ = some (.int .i64 W) ∧ w'.cell? ⟨w.heap.size, 1, Option.none⟩ = some (.slice (some ⟨b, o, Option.none⟩) n c) ∧ w'.cell? ⟨b, o + k, Option.none⟩ = some (.slice a m d)) (first | (with_reducible exact ⟨q0_1, q0_2, q0_3⟩) | (with_reducible exact ⟨q1_1, q1_2, q1_3⟩) | go_keep) (first
          | (go_at_call 24; (refine (HCl.out _ ?_).mono ?_); (focus (repeat (first | (with_reducible exact Ext.refl _) | (with_reducible apply Ext.drew) | (with_reducible apply Ext.drewN) | (with_reducible apply Ext.alloc)))); intro e wa hh; obtain ⟨rfl, x⟩ := hh; have Xa : Hid (Ext wr wa) := Lib.hid (Ext.trans (by ((repeat (first | (with_reducible exact Ext.refl _) | (with_reducible apply Ext.drew) | (with_reducible apply Ext.drewN) | (with_reducible apply Ext.alloc))); done)) x); have q1_1 := Xa.out.cell q0_1; have q1_2 := Xa.out.cell q0_2; have q1_3 := Xa.out.cell q0_3; clear x))
        try go_wp2
        go_ret
        exact ⟨rfl, XW.out.trans (HX.out.trans Xa.out)⟩
    · obtain rfl : k = n := by omega
      have hS := HOk.out HNb.out HNa.out HG.out
      subst hS
      have t1 : ¬ (k : Int) < k := by omega
      clear hlt
      go_wp2
      go_ret
      exact ⟨rfl, XW.out.trans HX.out⟩
end Go.Proofs.YthllbcjglcplhaaDoor
/- ganseyref20.Read. -/
namespace Go.Proofs.YthllbcjglcplhaaDoor
set_option linter.unusedVariables false
set_option linter.unusedSimpArgs false
set_option maxRecDepth 8000
open Go Go.RowKit

theorem map_app' {o : Option (List Ho)} {r : List Ho} {h : Ho} : (o.map (h :: ·)).map (r ++ ·) = o.map ((r ++ [h]) ++ ·) := by
  cases o <;> simp
/-- Holes and 1, or none and 0. -/
def RetRf (w0 : World) (R : Option (List Ho)) (e : Ending) (w' : World) : Prop := Ext w0 w' ∧ match R with
  | some r => ∃ v, e = .returned (.tuple #[v, .int .i64 1]) ∧ HV w' v r
  | none => e = .returned (.tuple #[.slice Option.none 0 0, .int .i64 0])
/-- The state of the walk. -/
structure RfS (w wr : World) (X : List Int) (k : Nat) (v : Value) (r : List Ho) (R : Option (List Ho)) : Prop where
  x : Ext w wr
  own : wr.ownsRow w.heap.size 39 2 v r.length (hcells r)
  few : r.length ≤ k
  rst : R = (rdL k (X.drop k)).map (r ++ ·)
theorem RfS.app {w wr w' : World} {X : List Int} {k k' : Nat} {v v' : Value} {r : List Ho} {R : Option (List Ho)} {h : Ho} {o : Obj} (H : RfS w wr X k v r R) (hf : k + 1 ≤ k') (hown : w'.ownsRow w.heap.size 39 2 v' (r.length + 1) (hcells r ++ hcells [h])) (hb : Below w.heap.size (wr.alloc o) w') (hr : R = (rdL k' (X.drop k')).map ((r ++ [h]) ++ ·)) : RfS w w' X k' v' (r ++ [h]) R :=
  ⟨Below.trans (H.x.alloc o) hb, by rw [List.length_append, hcells_app]; exact hown, by have := H.few; simp; omega, hr⟩
set_option maxHeartbeats 4000000 in
theorem RRead_calls (s : ByteArray) (w : World) (hs : s.size ≤ 100000) : Calls Tryd.prog 20 #[.string s] w (RetRf w (rdL 0 (bts s))) := by
  have h0 : rdL 0 (bts s) = (rdL 0 ((bts s).drop 0)).map (([] : List Ho) ++ ·) := by rw [List.drop_zero]; cases rdL 0 (bts s) <;> simp
  generalize rdL 0 (bts s) = R at h0 ⊢
  have H0 := Lib.hid (show RfS w w (bts s) 0 (.slice Option.none 0 0) [] R from ⟨Ext.refl w, World.ownsRow_nil _ _ _ _, Nat.le_refl _, h0⟩)
  have hix := fun (k : Nat) (h : k < s.size) => bts_at h
  have HIx := Lib.hid hix
  clear h0 hix
  obtain ⟨n, hn⟩ : ∃ n, n = s.size := ⟨_, rfl⟩
  have Hn := Lib.hid hn
  go_enter Tryd.func20, Tryd.ntmps20
  go_wp2
  go_loopw [4, 5] (fun l i wr => ∃ (k : Nat) (r : List Ho), k ≤ s.size ∧ i = .int .i64 k ∧ Hid (RfS w wr (bts s) k l r R)) (fun _ i _ => s.size - (intOf i).toNat)
  case atStart => exact ⟨0, [], Nat.zero_le _, rfl, H0⟩
  case round =>
    obtain ⟨k, r, hk, rfl, H⟩ := hrel
    by_cases hlt : k < s.size
    · have t1 : (k : Int) < (s.size : Int) := by omega
      have hdrop := bts_drop hlt
      have hR := H.out.rst
      rw [hdrop] at hR
      have hfew := H.out.few
      have t0 : (0 : Int) ≤ (k : Int) := by omega
      have t2 : (0 : Int) ≤ (k : Int) + 1 := by omega
      have w1 : IntKind.i64.wrap ((k : Int) + 1) = (k : Int) + 1 := IntWalk.i64_in _ ⟨by omega, by omega⟩
      obtain ⟨c, hc⟩ : ∃ c : Int, ((s[k]'hlt).toNat : Int) = c := ⟨_, rfl⟩
      rw [hc] at hdrop hR
      have HX := Lib.hid H.out.x
      by_cases c46 : c = 46
      · subst c46
        rw [rdL_dot] at hR
        have HN := Lib.hid (show RfS w wr (bts s) (k + 1) _ r R from ⟨H.out.x, H.out.own, by omega, hR⟩)
        clear hR hdrop
        go_wp2
        go_roundw
        case rel => exact ⟨k + 1, r, by omega, by go_num, HN⟩
        case measure => simp [intOf]; omega
      have b46 : (c == 46) = false := beq_eq_false_iff_ne.2 c46
      by_cases hk1 : k + 1 < s.size
      · have t3 : (k : Int) + 1 < (s.size : Int) := by omega
        have hdrop2 := bts_drop hk1
        obtain ⟨d, hd⟩ : ∃ d : Int, ((s[k + 1]'hk1).toNat : Int) = d := ⟨_, rfl⟩
        rw [hd] at hdrop2
        rw [hdrop2] at hR
        by_cases hA : c = 79 ∧ d = 47
        · obtain ⟨c79, d47⟩ := hA
          rw [c79, d47, rdL_o, if_pos rfl, map_app'] at hR
          have b79 : (c == 79) = true := by rw [beq_iff_eq]; exact c79
          have b47 : (d == 47) = true := by rw [beq_iff_eq]; exact d47
          clear c46
          have HRst := Lib.hid (show R = (rdL (k + 1 + 1) ((bts s).drop (k + 1 + 1))).map ((r ++ [⟨(k : Int), false⟩]) ++ ·) from hR)
          clear hR hdrop hdrop2
          go_wp2_with (at_builtin; refine app_ho rfl _ _ rfl w.heap.size _ r.length (hcells r) rfl (own_hext H.out.own ((Ext.refl wr).alloc _)) _ 1 1 [⟨(k : Int), false⟩] rfl rfl (HO.lit1 (blk_at rfl)) ?a1 ?a2 ?_)
          any_goals (first | omega | (have hsz := H.out.x.size; simp; omega))
          intro v' w' hown hbel hgr
          have HNx := Lib.hid (H.out.app (h := ⟨(k : Int), false⟩) (k' := k + 1 + 1) (by omega) hown hbel HRst.out)
          clear hown hbel hgr
          go_wp2
          go_roundw
          case rel => exact ⟨k + 1 + 1, r ++ [⟨(k : Int), false⟩], by omega, by go_num, HNx⟩
          case measure => simp [intOf]; omega
        by_cases hB : c = 47 ∧ d = 79
        · obtain ⟨c47, d79⟩ := hB
          rw [c47, d79, rdL_s, if_pos rfl, map_app'] at hR
          have b79 : (c == 79) = false := beq_eq_false_iff_ne.2 (by omega)
          have b47 : (c == 47) = true := by rw [beq_iff_eq]; exact c47
          have b79' : (d == 79) = true := by rw [beq_iff_eq]; exact d79
          clear c46 hA
          have HRst := Lib.hid (show R = (rdL (k + 1 + 1) ((bts s).drop (k + 1 + 1))).map ((r ++ [⟨(k : Int) + 1, true⟩]) ++ ·) from hR)
          clear hR hdrop hdrop2
          go_wp2_with (at_builtin; refine app_ho rfl _ _ rfl w.heap.size _ r.length (hcells r) rfl (own_hext H.out.own ((Ext.refl wr).alloc _)) _ 1 1 [⟨(k : Int) + 1, true⟩] rfl rfl (HO.lit1 (blk_at rfl)) ?b1 ?b2 ?_)
          any_goals (first | omega | (have hsz := H.out.x.size; simp; omega))
          intro v' w' hown hbel hgr
          have HNx := Lib.hid (H.out.app (h := ⟨(k : Int) + 1, true⟩) (k' := k + 1 + 1) (by omega) hown hbel HRst.out)
          clear hown hbel hgr
          go_wp2
          go_roundw
          case rel => exact ⟨k + 1 + 1, r ++ [⟨(k : Int) + 1, true⟩], by omega, by go_num, HNx⟩
          case measure => simp [intOf]; omega
        · have HBd := Lib.hid (show R = none from by
            by_cases e1 : c = 79
            · rw [e1, rdL_o, if_neg (by omega)] at hR; exact hR
            · by_cases e2 : c = 47
              · rw [e2, rdL_s, if_neg (by omega)] at hR; exact hR
              · rw [rdL_no c46 e1 e2] at hR; exact hR)
          have HX := Lib.hid H.out.x
          have HF := Lib.hid (show ∀ w', Ext wr w' → RetRf w R (.returned (.tuple #[.slice Option.none 0 0, .int .i64 0])) w' from fun w' x => ⟨HX.out.trans x, by rw [HBd.out]⟩)
          clear hR hdrop hdrop2
          by_cases e1 : c = 79
          · have d47 : (d == 47) = false := beq_eq_false_iff_ne.2 (by omega)
            have b79 : (c == 79) = true := by rw [beq_iff_eq]; exact e1
            have b47 : (c == 47) = false := beq_eq_false_iff_ne.2 (by omega)
            clear e1 hA hB c46
            go_wp2
            go_ret2
            exact HF.out _ (Ext.refl _)
          have b79 : (c == 79) = false := beq_eq_false_iff_ne.2 e1
          by_cases e2 : c = 47
          · have d79 : (d == 79) = false := beq_eq_false_iff_ne.2 (by omega)
            have b47 : (c == 47) = true := by rw [beq_iff_eq]; exact e2
            clear e1 e2 hA hB c46
            go_wp2
            go_ret2
            exact HF.out _ (Ext.refl _)
          · have b47 : (c == 47) = false := beq_eq_false_iff_ne.2 e2
            clear e1 e2 hA hB c46
            go_wp2
            go_ret2
            exact HF.out _ (Ext.refl _)
      · have t3 : ¬ (k : Int) + 1 < (s.size : Int) := by omega
        have hd0 : (bts s).drop (k + 1) = [] := List.drop_eq_nil_of_le (by rw [bts_len]; omega)
        rw [hd0] at hR
        have HBd := Lib.hid (show R = none from by rw [hR]; unfold rdL; rw [if_neg c46]; rfl)
        have HX := Lib.hid H.out.x
        have HF := Lib.hid (show ∀ w', Ext wr w' → RetRf w R (.returned (.tuple #[.slice Option.none 0 0, .int .i64 0])) w' from fun w' x => ⟨HX.out.trans x, by rw [HBd.out]⟩)
        clear hR hdrop hd0 c46
        go_wp2
        go_ret2
        exact HF.out _ (Ext.refl _)
    · obtain rfl : k = s.size := by omega
      have t1 : ¬ (s.size : Int) < (s.size : Int) := by omega
      have hd : (bts s).drop s.size = [] := List.drop_eq_nil_of_le (by rw [bts_len]; exact Nat.le_refl _)
      have hu := (HV.of_own H.out.own).1
      have hR := H.out.rst
      rw [hd] at hR
      have HF := Lib.hid (show RetRf w R (.returned (.tuple #[_, .int .i64 1])) wr from ⟨H.out.x, by
        have e : R = some r := by rw [hR]; simp [rdL]
        rw [e]; exact ⟨_, rfl, hu⟩⟩)
      clear hu hR hd
      go_wp2
      go_ret2
      exact HF.out
end Go.Proofs.YthllbcjglcplhaaDoor
/- What the listed variable gives: the table of the symbols. -/
namespace Go.Proofs.YthllbcjglcplhaaDoor
set_option linter.unusedVariables false
set_option linter.unusedSimpArgs false
set_option maxRecDepth 8000
open Go Go.RowKit

theorem sy_of {w : World} {l : List (String × DataW Unit)} (h : laidMet Tryd.prog l w) (hm : ("gansey/stitches.symbols", Rows.laid_gansey_stitches_symbols) ∈ l) : Sy w := by
  obtain ⟨g, t, cs, fuel, p, hg, ht, hv, hd⟩ := Lib.laidMet.reads h hm
  have hgn : g = 0 := by
    have hk : Tryd.prog.globalNamed "gansey/stitches.symbols" = some (0) := by kernel_rfl
    exact Option.some.inj (hg.symm.trans hk)
  obtain ⟨n, e, h1, h2, h3, h4⟩ : ∃ n e, Tryd.prog.underlying t = some (.array n e) ∧ Tryd.prog.underlying e = some (.int .u8) ∧ Tryd.prog.cellsOf e = 1 ∧ Tryd.prog.cellsOf t = n := by
    have hh : ((Tryd.prog.globalNamed "gansey/stitches.symbols").bind fun g => (Tryd.prog.globals[g]?).map (·.type)) = some t := by rw [hg]; exact ht
    have hk : ((Tryd.prog.globalNamed "gansey/stitches.symbols").bind fun g => (Tryd.prog.globals[g]?).map (·.type)) = some (133) := by kernel_rfl
    obtain rfl := Option.some.inj (hk.symm.trans hh)
    exact ⟨8, 5, by kernel_rfl, by kernel_rfl, by kernel_rfl, by kernel_rfl⟩
  have hd' : DataW.trod (fun _ => ()) Tryd.prog w 0 (fun _ => true) false fuel t cs.toList = some (Lib.tabData .u8 symT, p) := by
    rw [hd]; exact congrArg (fun x => some (x, p)) (by kernel_rfl)
  have hcs := Lib.cells_of_tab h1 h2 h3 h4 hd'
  unfold World.var? at hv
  rw [hg, hgn] at hv
  simp only [Option.bind_some] at hv
  intro i hi
  split at hv
  · rename_i cs' _ _ hb
    obtain rfl := Option.some.inj hv
    have hc : ∀ j, cs'[j]? = cs'.toList[j]? := fun j => by rw [Array.getElem?_toList]
    simp only [World.cell?, hb]
    rw [hc, hcs]
    rw [List.getElem?_map, gi_some (show i < symT.length from hi)]
    rfl
  · cases hv
end Go.Proofs.YthllbcjglcplhaaDoor
/- ganseyref13.Differ. -/
namespace Go.Proofs.YthllbcjglcplhaaDoor
set_option linter.unusedVariables false
set_option linter.unusedSimpArgs false
set_option maxRecDepth 8000
open Go Go.RowKit

def dif (l m : List (List St)) : Int := if l = m then 0 else 1
theorem dif_same (l : List (List St)) : dif l l = 0 := if_pos rfl
set_option maxHeartbeats 4000000 in
theorem Differ_calls (v1 v2 : Value) (c1 c2 : Nat) (l m : List (List St)) (w : World) (h1 : RR w v1 c1 l) (h2 : RR w v2 c2 m) :
    Calls Tryd.prog 30 #[.agg #[v1], .agg #[v2]] w fun e w' => e = .returned (.int .i64 (dif l m)) ∧ Ext w w' := by
  obtain ⟨ao, n, rfl, hn, hc, hcm, hat⟩ := h1.open
  obtain ⟨ao2, n2, rfl, hn2, hc2, hcm2, hat2⟩ := h2.open
  have hT : n = n2 → (∀ i, i < n → sw l i = sw m i) → dif l m = 0 := fun e h => if_pos (sw_ext (by omega) (fun i hi => h i (by omega)))
  have hF : (n ≠ n2 ∨ ∃ i, i < n ∧ sw l i ≠ sw m i) → dif l m = 1 := fun h => if_neg (fun e => by
    rcases h with h | ⟨i, _, h⟩
    · rw [e] at hn; omega
    · rw [e] at h; exact h rfl)
  generalize dif l m = R at hT hF ⊢
  obtain ⟨W, hW⟩ : ∃ W, W = (w.alloc (.cells #[.slice ao n c1] 28)).alloc (.cells #[.slice ao2 n2 c2] 28) := ⟨_, rfl⟩
  have xW : Ext w W := by rw [hW]; exact ((Ext.refl w).alloc _).alloc _
  have hb1 : W.cell? ⟨w.heap.size, 0, none⟩ = some (.slice ao n c1) := by
    rw [hW]; exact ((Ext.refl _).alloc _).cell (by rw [World.cell?_alloc_at (hn := rfl)]; rfl)
  have hb2 : W.cell? ⟨w.heap.size + 1, 0, none⟩ = some (.slice ao2 n2 c2) := by
    rw [hW, World.cell?_alloc_at (hn := by simp)]; rfl
  have HA := Lib.hid hat; have HA2 := Lib.hid hat2; have HT := Lib.hid hT; have HF := Lib.hid hF; have XW := Lib.hid xW
  clear hat hat2 hT hF hn hn2 h1 h2
  unfold maxLen at hcm hcm2
  have HB1 := Lib.hid (fun w' (x : Ext W w') => x.cell hb1); have HB2 := Lib.hid (fun w' (x : Ext W w') => x.cell hb2)
  go_enter Tryd.func30, Tryd.ntmps30
  by_cases hl : n = n2
  · subst hl
    rw [hW] at hb1 hb2
    go_wp2
    rw [← hW]
    clear hb1 hb2 hW
    go_loopw [5, 6] (fun i _ wr => ∃ k : Nat, k ≤ n ∧ i = .int .i64 k ∧ Hid (Ext W wr) ∧ Hid (∀ i, i < k → sw l i = sw m i)) (fun i _ _ => n - (intOf i).toNat)
    case atStart => exact ⟨0, Nat.zero_le _, rfl, Lib.hid (Ext.refl _), Lib.hid (fun i hi => by omega)⟩
    case round =>
      obtain ⟨k, hk, rfl, Hx, HS⟩ := hrel
      have b1 := HB1.out _ Hx.out
      have b2 := HB2.out _ Hx.out
      by_cases hlt : k < n
      · obtain ⟨b, o, a, p, d, rfl, p0, r1⟩ := HA.out k hlt
        obtain ⟨bb, oo, aa, pp, dd, rfl, q0, r2⟩ := HA2.out k hlt
        have P0 := Lib.hid (fun w' (x : Ext W w') => (XW.out.trans x).cell p0); have Q0 := Lib.hid (fun w' (x : Ext W w') => (XW.out.trans x).cell q0)
        replace p0 := (XW.out.trans Hx.out).cell p0
        replace q0 := (XW.out.trans Hx.out).cell q0
        obtain ⟨_, _, e1, e2, e3, e4, e5⟩ := r1.open
        obtain ⟨_, _, f1, f2, f3, f4, f5⟩ := r2.open
        simp only [Value.slice.injEq] at e1 f1
        obtain ⟨rfl, rfl, _⟩ := e1
        obtain ⟨rfl, rfl, _⟩ := f1
        have HE5 := Lib.hid e5; have HF5 := Lib.hid f5
        have t7 : (0 : Int) ≤ (k : Int) := by omega
        have t8 : (k : Int) < n := by omega
        unfold maxLen at e4 f4
        by_cases hpp : p = pp
        · have tq : ((p : Int) != (pp : Int)) = false := by rw [hpp]; simp
          have HR1 := Lib.hid (show (∀ i, i < p → si (sw l k) i = si (sw m k) i) → ∀ i, i < k + 1 → sw l i = sw m i from fun h i hi => by
            by_cases e : i = k
            · rw [e]; exact si_ext (by omega) (fun i hi => h i (by omega))
            · exact HS.out i (by omega))
          have HR2 := Lib.hid (show ∀ i, i < p → si (sw l k) i ≠ si (sw m k) i → R = 1 from fun i hi h => HF.out (.inr ⟨k, hlt, fun e => h (by rw [e])⟩))
          subst hpp
          clear e2 f2 e5 f5 r1 r2
          go_wp2
          go_quiet (fail)
          obtain ⟨wk, hwk⟩ : ∃ wk, wk = wr.drewN nq := ⟨_, rfl⟩
          have Hk := Lib.hid (show Ext W wk by rw [hwk]; exact Hx.out.drewN nq)
          rw [← hwk]
          clear b1 b2 p0 q0 hwk
          go_wp2
          go_loopw [6] (fun i ws => ∃ j : Nat, j ≤ p ∧ i = .int .i64 j ∧ Hid (Ext wk ws) ∧ Hid (∀ i, i < j → si (sw l k) i = si (sw m k) i)) (fun i _ => p - (intOf i).toNat)
          case atStart => exact ⟨0, Nat.zero_le _, rfl, Lib.hid (Ext.refl _), Lib.hid (fun i hi => by omega)⟩
          case round =>
            obtain ⟨j, hj, rfl, Hy, HU⟩ := hrel
            have b1 := HB1.out _ (Hk.out.trans Hy.out)
            have b2 := HB2.out _ (Hk.out.trans Hy.out)
            have p0 := P0.out _ (Hk.out.trans Hy.out)
            have q0 := Q0.out _ (Hk.out.trans Hy.out)
            by_cases hjl : j < p
            · obtain ⟨e6, e7, rfl, e8⟩ := HE5.out j hjl
              obtain ⟨f6, f7, rfl, f8⟩ := HF5.out j hjl
              obtain ⟨s0, s1, s2, s3, s4⟩ := e8.ext (XW.out.trans (Hk.out.trans Hy.out))
              obtain ⟨u0, u1, u2, u3, u4⟩ := f8.ext (XW.out.trans (Hk.out.trans Hy.out))
              have hq := fun w => run_st_neq (si (sw l k) j) (si (sw m k) j) w
              have hR1 : St.eqb (si (sw l k) j) (si (sw m k) j) = false → R = 1 := fun h => HR2.out j hjl (eqb_false h)
              have hR2 : St.eqb (si (sw l k) j) (si (sw m k) j) = true → ∀ i, i < j + 1 → si (sw l k) i = si (sw m k) i := fun h i hi => by
                by_cases e : i = j
                · rw [e]; exact eqb_true h
                · exact HU.out i (by omega)
              obtain ⟨S, hS⟩ : ∃ S, S = si (sw l k) j := ⟨_, rfl⟩
              obtain ⟨T, hT⟩ : ∃ T, T = si (sw m k) j := ⟨_, rfl⟩
              rw [← hS] at s0 s1 s2 s3 s4 hq hR1 hR2
              rw [← hT] at u0 u1 u2 u3 u4 hq hR1 hR2
              generalize St.eqb S T = q at hq hR1 hR2
              have H1 := Lib.hid hR1; have H2 := Lib.hid hR2
              have g1 : (0 : Int) ≤ (j : Int) := by omega
              have g2 : (j : Int) < p := by omega
              clear hR1 hR2 hS hT e8 f8
              go_wp2
              go_quiet (fail)
              clear hq s0 s1 s2 s3 s4 u0 u1 u2 u3 u4 p0 q0 b1 b2
              cases q
              · have hR := H1.out rfl
                subst hR
                clear H1 H2
                go_wp2
                go_ret
                exact ⟨rfl, XW.out.trans (Hk.out.trans (by first | exact Hy.out | exact Hy.out.drewN _))⟩
              · have HU2 := Lib.hid (H2.out rfl)
                clear H1 H2
                go_wp2
                go_roundw
                case rel => exact ⟨j + 1, by omega, by go_num, by first | exact Hy | exact Lib.hid (Hy.out.drewN _), HU2⟩
                case measure => simp [intOf]; omega
            · obtain rfl : p = j := by omega
              have HS2 := Lib.hid (HR1.out HU.out)
              go_wp2
              go_roundw
              case rel => exact ⟨k + 1, by omega, by go_num, Lib.hid (Hk.out.trans Hy.out), HS2⟩
              case measure => simp [intOf]; omega
        · have tq : ((p : Int) != (pp : Int)) = true := by rw [bne, beq_eq_false_iff_ne.2 (by omega)]; rfl
          have hR := HF.out (.inr ⟨k, hlt, fun e => hpp (by rw [e2, f2, e])⟩)
          subst hR
          clear e2 f2 e5 f5 r1 r2 hpp
          go_wp2
          go_quiet (fail)
          go_wp2
          go_ret
          exact ⟨rfl, XW.out.trans (by first | exact Hx.out | exact Hx.out.drewN _)⟩
      · obtain rfl : n = k := by omega
        have hR := HT.out trivial HS.out
        subst hR
        go_wp2
        go_ret
        exact ⟨rfl, XW.out.trans Hx.out⟩
  · have hR := HF.out (.inl hl)
    subst hR
    have t1 : ¬ ((n : Int) = n2) := by omega
    rw [hW] at hb1 hb2
    go_wp2
    go_ret
    exact ⟨rfl, by rw [← hW]; exact XW.out⟩
end Go.Proofs.YthllbcjglcplhaaDoor
/- ganseyref12.Valid, Needs, Makes. -/
namespace Go.Proofs.YthllbcjglcplhaaDoor
set_option linter.unusedVariables false
set_option linter.unusedSimpArgs false
set_option maxRecDepth 8000
open Go Go.RowKit

def St.vld (s : St) : Int := if s.chk = 0 then 1 else 0
theorem vld_head {s : St} (h : s.k < 1 ∨ 8 < s.k ∨ s.y < 1 ∨ 6 < s.y) : s.vld = 0 := by
  have : s.chk = 1 := by unfold St.chk; rw [if_pos h]
  unfold St.vld; rw [if_neg (by omega)]
theorem vld_plain {s : St} (h : ¬ (s.k < 1 ∨ 8 < s.k ∨ s.y < 1 ∨ 6 < s.y)) (h8 : s.k ≠ 8) : s.vld = if s.a ≠ 0 ∨ s.b ≠ 0 ∨ s.f = true then 0 else 1 := by
  unfold St.vld St.chk; rw [if_neg h, if_pos h8]
  by_cases h2 : s.a ≠ 0 ∨ s.b ≠ 0 ∨ s.f = true
  · rw [if_pos h2, if_pos h2, if_neg (by omega)]
  · rw [if_neg h2, if_neg h2, if_pos rfl]
theorem vld_cable {s : St} (h : ¬ (s.k < 1 ∨ 8 < s.k ∨ s.y < 1 ∨ 6 < s.y)) (h8 : s.k = 8) : s.vld = if 1 ≤ s.a ∧ 1 ≤ s.b ∧ s.a + s.b ≤ 4 then 1 else 0 := by
  have hc : s.chk = if s.a < 1 ∨ 4 < s.a ∨ s.b < 1 ∨ 4 - s.a < s.b then 1 else 0 := by unfold St.chk; rw [if_neg h, if_neg (by omega)]
  unfold St.vld
  by_cases h2 : s.a < 1 ∨ 4 < s.a ∨ s.b < 1 ∨ 4 - s.a < s.b
  · rw [hc, if_pos h2, if_neg (by omega), if_neg (by omega)]
  · rw [hc, if_neg h2, if_pos rfl, if_pos (by omega)]

set_option maxHeartbeats 2000000 in
theorem Valid_calls (s : St) (w : World) (hs : 0 ≤ s.k ∧ 0 ≤ s.y) : Calls Tryd.prog 69 #[s.val] w fun e w' => e = .returned (.int .i64 s.vld) ∧ Ext w w' := by
  have HB := Lib.hid (fun w' (x : Ext (w.alloc (.cells #[.int .u8 s.k, .int .u8 s.y, .int .i64 s.a, .int .i64 s.b, .bool s.f] 49)) w') => ((B5.new w s 49).ext x).at)
  have hv1 := vld_head (s := s); have hv2 := vld_plain (s := s); have hv3 := vld_cable (s := s)
  obtain ⟨k, y, a, b, f⟩ := s
  unfold St.val
  simp only [] at hv1 hv2 hv3 hs ⊢
  generalize St.vld ⟨k, y, a, b, f⟩ = V at *
  obtain ⟨W, hW⟩ : ∃ W, W = w.alloc (.cells #[.int .u8 k, .int .u8 y, .int .i64 a, .int .i64 b, .bool f] 49) := ⟨_, rfl⟩
  have XW := Lib.hid (show Ext w W by rw [hW]; exact (Ext.refl w).alloc _)
  have hb := HB.out W (by rw [hW]; exact Ext.refl _)
  obtain ⟨c0, c1, c2, c3, c4⟩ := hb
  simp only [Nat.zero_add] at c0 c1 c2 c3 c4
  rw [hW] at c0 c1 c2 c3 c4
  obtain ⟨s1, s2⟩ := hs
  by_cases h : k < 1 ∨ 8 < k ∨ y < 1 ∨ 6 < y
  · have hV := hv1 h
    clear hv1 hv2 hv3 HB
    subst hV
    rcases (show y = 0 ∨ (y ≠ 0 ∧ 6 < y) ∨ (y ≠ 0 ∧ ¬ 6 < y ∧ k = 0) ∨ (y ≠ 0 ∧ ¬ 6 < y ∧ k ≠ 0 ∧ 8 < k) by omega) with e | ⟨e1, e2⟩ | ⟨e1, e2, e3⟩ | ⟨e1, e2, e3, e4⟩
    all_goals
      clear h
      go_enter Tryd.func69, Tryd.ntmps69
      go_wp2
      go_ret
      exact ⟨rfl, (Ext.refl w).alloc _⟩
  · have e1 : ¬ y = 0 := by omega
    have e2 : ¬ 6 < y := by omega
    have e3 : ¬ k = 0 := by omega
    have e4 : ¬ 8 < k := by omega
    have e5 : (y == 0) = false := beq_eq_false_iff_ne.2 e1
    have e6 : (k == 0) = false := beq_eq_false_iff_ne.2 e3
    by_cases h8 : k = 8
    · have hV := hv3 h h8
      have HV := Lib.hid hV
      clear hv1 hv2 hv3 h hV e3 e4 e6
      subst h8
      go_enter Tryd.func69, Tryd.ntmps69
      go_wp2
      rw [← hW]
      clear c0 c1 c2 c3 c4 e1 e2
      go_loopw [3, 4] (fun x _ wr => ∃ p : Nat, p ≤ 3 ∧ x = .int .i64 ((p : Int) + 1) ∧ Hid (Ext W wr) ∧ Hid (∀ i : Nat, 1 ≤ i → i ≤ p → ¬ (a = i ∧ 1 ≤ b ∧ a + b ≤ 4))) (fun x _ _ => 4 - (intOf x).toNat)
      case atStart => exact ⟨0, by omega, rfl, Lib.hid (Ext.refl W), Lib.hid (fun i h1 h2 => by omega)⟩
      case round =>
        obtain ⟨p, hp, rfl, HX, HN⟩ := hrel
        by_cases hlt : p < 3
        · have p1 : (p : Int) + 1 < 4 := by omega
          go_wp2
          go_loopw [4] (fun x wr => ∃ q : Nat, q ≤ 3 ∧ x = .int .i64 ((q : Int) + 1) ∧ Hid (Ext W wr) ∧ Hid (∀ i : Nat, 1 ≤ i → i ≤ q → ¬ (a = (p : Int) + 1 ∧ b = i ∧ a + b ≤ 4))) (fun x _ => 4 - (intOf x).toNat)
          case atStart => exact ⟨0, by omega, rfl, HX, Lib.hid (fun i h1 h2 => by omega)⟩
          case round =>
            obtain ⟨q, hq, rfl, HX2, HN2⟩ := hrel
            have w1 : IntKind.i64.wrap ((p : Int) + 1 + ((q : Int) + 1)) = (p : Int) + 1 + ((q : Int) + 1) := IntWalk.i64_in _ ⟨by omega, by omega⟩
            by_cases hle : (p : Int) + 1 + ((q : Int) + 1) ≤ 4
            · have hb := HB.out wr (by rw [← hW]; exact HX2.out)
              obtain ⟨c0, c1, c2, c3, c4⟩ := hb
              simp only [Nat.zero_add] at c0 c1 c2 c3 c4
              by_cases ha : a = (p : Int) + 1
              · by_cases hbb : b = (q : Int) + 1
                · have hV := HV.out
                  rw [if_pos (by omega)] at hV
                  have q1 : (a == (p : Int) + 1) = true := by rw [beq_iff_eq]; exact ha
                  have q2 : (b == (q : Int) + 1) = true := by rw [beq_iff_eq]; exact hbb
                  clear ha hbb
                  subst hV
                  go_wp2
                  go_ret
                  exact ⟨rfl, XW.out.trans HX2.out⟩
                · have q1 : (a == (p : Int) + 1) = true := by rw [beq_iff_eq]; exact ha
                  have q2 : (b == (q : Int) + 1) = false := beq_eq_false_iff_ne.2 hbb
                  have HN3 := Lib.hid (show ∀ i : Nat, 1 ≤ i → i ≤ q + 1 → ¬ (a = (p : Int) + 1 ∧ b = i ∧ a + b ≤ 4) from fun i h1 h2 => by
                    by_cases e : i = q + 1
                    · omega
                    · exact HN2.out i h1 (by omega))
                  clear ha hbb
                  go_wp2
                  go_roundw
                  case rel => exact ⟨q + 1, by omega, by go_num, HX2, HN3⟩
                  case measure => simp [intOf]; omega
              · have q1 : (a == (p : Int) + 1) = false := beq_eq_false_iff_ne.2 ha
                have HN3 := Lib.hid (show ∀ i : Nat, 1 ≤ i → i ≤ q + 1 → ¬ (a = (p : Int) + 1 ∧ b = i ∧ a + b ≤ 4) from fun i h1 h2 hh => ha hh.1)
                clear ha
                go_wp2
                go_roundw
                case rel => exact ⟨q + 1, by omega, by go_num, HX2, HN3⟩
                case measure => simp [intOf]; omega
            · have HN3 := Lib.hid (show ∀ i : Nat, 1 ≤ i → i ≤ p + 1 → ¬ (a = i ∧ 1 ≤ b ∧ a + b ≤ 4) from fun i h1 h2 hh => by
                by_cases e : i = p + 1
                · refine HN2.out b.toNat (by omega) (by omega) ⟨by omega, by omega, by omega⟩
                · exact HN.out i h1 (by omega) hh)
              go_wp2
              go_roundw
              case rel => exact ⟨p + 1, by omega, by go_num, HX2, HN3⟩
              case measure => simp [intOf]; omega
        · obtain rfl : p = 3 := by omega
          have hV := HV.out
          rw [if_neg (fun hh => HN.out a.toNat (by omega) (by omega) ⟨by omega, by omega, by omega⟩)] at hV
          subst hV
          go_wp2
          go_ret
          exact ⟨rfl, XW.out.trans HX.out⟩
    · have hV := hv2 h h8
      have e7 : (k == 8) = false := beq_eq_false_iff_ne.2 h8
      clear hv1 hv2 hv3 h HB
      by_cases ha : a = 0
      · by_cases hb : b = 0
        · cases f
          · rw [if_neg (by simp [ha, hb])] at hV
            subst hV
            go_enter Tryd.func69, Tryd.ntmps69
            go_wp2
            go_ret
            exact ⟨rfl, (Ext.refl w).alloc _⟩
          · rw [if_pos (by simp)] at hV
            subst hV
            go_enter Tryd.func69, Tryd.ntmps69
            go_wp2
            go_ret
            exact ⟨rfl, (Ext.refl w).alloc _⟩
        · rw [if_pos (.inr (.inl hb))] at hV
          have e8 : (b != 0) = true := by rw [bne, beq_eq_false_iff_ne.2 hb]; rfl
          subst hV
          go_enter Tryd.func69, Tryd.ntmps69
          go_wp2
          go_ret
          exact ⟨rfl, (Ext.refl w).alloc _⟩
      · rw [if_pos (.inl ha)] at hV
        have e8 : (a != 0) = true := by rw [bne, beq_eq_false_iff_ne.2 ha]; rfl
        subst hV
        go_enter Tryd.func69, Tryd.ntmps69
        go_wp2
        go_ret
        exact ⟨rfl, (Ext.refl w).alloc _⟩
end Go.Proofs.YthllbcjglcplhaaDoor
/- ganseyref12.Needs, Makes. -/
namespace Go.Proofs.YthllbcjglcplhaaDoor
set_option linter.unusedVariables false
set_option linter.unusedSimpArgs false
set_option maxRecDepth 8000
open Go Go.RowKit

set_option maxHeartbeats 2000000 in
theorem RNeeds_calls (s : St) (w : World) (hs : 0 ≤ s.k ∧ 0 ≤ s.y) : Calls Tryd.prog 45 #[s.val] w fun e w' => e = .returned (.int .i64 s.need) ∧ Ext w w' := by
  have HB := Lib.hid (fun w' (x : Ext (w.alloc (.cells #[.int .u8 s.k, .int .u8 s.y, .int .i64 s.a, .int .i64 s.b, .bool s.f] 49)) w') => ((B5.new w s 49).ext x).at)
  have HV := Lib.hid (fun w' => Valid_calls s w' hs)
  have hn : s.need = if s.chk ≠ 0 then 0 else if s.k = 3 then 0 else if s.k = 4 ∨ s.k = 5 then 2 else if s.k = 8 then s.a + s.b else 1 := rfl
  have hk := fun h => (St.chk_ok (s := s) h)
  have hv : s.vld = if s.chk = 0 then 1 else 0 := rfl
  obtain ⟨k, y, a, b, f⟩ := s
  unfold St.val at *
  simp only [] at hn hk HB HV hs ⊢
  generalize St.need ⟨k, y, a, b, f⟩ = N at hn ⊢
  generalize St.vld ⟨k, y, a, b, f⟩ = V at hv HV
  generalize St.chk ⟨k, y, a, b, f⟩ = C at hn hk hv
  by_cases hC : C = 0
  · rw [if_pos hC] at hv
    rw [if_neg (by omega)] at hn
    have hk := hk hC
    subst hv
    clear hC
    by_cases k3 : k = 3
    · rw [if_pos k3] at hn
      subst hn; subst k3
      clear hk
      go_enter Tryd.func45, Tryd.ntmps45
      go_wp2_with fail
      refine (HV.out _).mono ?_
      rintro e w1 ⟨rfl, x1⟩
      obtain ⟨c0, c1, c2, c3, c4⟩ := HB.out _ x1
      simp only [Nat.zero_add] at c0 c1 c2 c3 c4
      have X1 := Lib.hid (((Ext.refl w).alloc _).trans x1)
      clear x1 HV HB
      go_wp2
      go_ret
      exact ⟨rfl, X1.out⟩
    rw [if_neg k3] at hn
    have b3 : (k == 3) = false := beq_eq_false_iff_ne.2 k3
    by_cases k8 : k = 8
    · rw [if_neg (by omega), if_pos k8] at hn
      subst hn; subst k8
      have w1 : IntKind.i64.wrap (a + b) = a + b := IntWalk.i64_in _ ⟨by omega, by omega⟩
      clear hk k3 b3
      go_enter Tryd.func45, Tryd.ntmps45
      go_wp2_with fail
      refine (HV.out _).mono ?_
      rintro e w1 ⟨rfl, x1⟩
      obtain ⟨c0, c1, c2, c3, c4⟩ := HB.out _ x1
      simp only [Nat.zero_add] at c0 c1 c2 c3 c4
      have X1 := Lib.hid (((Ext.refl w).alloc _).trans x1)
      clear x1 HV HB
      go_wp2
      go_ret
      exact ⟨rfl, X1.out⟩
    have b8 : (k == 8) = false := beq_eq_false_iff_ne.2 k8
    by_cases k45 : k = 4 ∨ k = 5
    · rw [if_pos k45] at hn
      subst hn
      clear hk k3 b3 k8 b8
      rcases k45 with rfl | rfl
      all_goals
        go_enter Tryd.func45, Tryd.ntmps45
        go_wp2_with fail
        refine (HV.out _).mono ?_
        rintro e w1 ⟨rfl, x1⟩
        obtain ⟨c0, c1, c2, c3, c4⟩ := HB.out _ x1
        simp only [Nat.zero_add] at c0 c1 c2 c3 c4
        have X1 := Lib.hid (((Ext.refl w).alloc _).trans x1)
        clear x1 HV HB
        go_wp2
        go_ret
        exact ⟨rfl, X1.out⟩
    · rw [if_neg k45, if_neg k8] at hn
      subst hn
      have b4 : (k == 4) = false := beq_eq_false_iff_ne.2 (by omega)
      have b5 : (k == 5) = false := beq_eq_false_iff_ne.2 (by omega)
      clear hk k3 k8 k45
      go_enter Tryd.func45, Tryd.ntmps45
      go_wp2_with fail
      refine (HV.out _).mono ?_
      rintro e w1 ⟨rfl, x1⟩
      obtain ⟨c0, c1, c2, c3, c4⟩ := HB.out _ x1
      simp only [Nat.zero_add] at c0 c1 c2 c3 c4
      have X1 := Lib.hid (((Ext.refl w).alloc _).trans x1)
      clear x1 HV HB
      go_wp2
      go_ret
      exact ⟨rfl, X1.out⟩
  · rw [if_neg hC] at hv
    rw [if_pos hC] at hn
    subst hv; subst hn
    clear hC hk
    go_enter Tryd.func45, Tryd.ntmps45
    go_wp2_with fail
    refine (HV.out _).mono ?_
    rintro e w1 ⟨rfl, x1⟩
    have X1 := Lib.hid (((Ext.refl w).alloc _).trans x1)
    clear x1 HV HB
    go_wp2
    go_ret
    exact ⟨rfl, X1.out⟩

set_option maxHeartbeats 2000000 in
theorem RMakes_calls (s : St) (w : World) (hs : 0 ≤ s.k ∧ 0 ≤ s.y) : Calls Tryd.prog 49 #[s.val] w fun e w' => e = .returned (.int .i64 s.make) ∧ Ext w w' := by
  have HB := Lib.hid (fun w' (x : Ext (w.alloc (.cells #[.int .u8 s.k, .int .u8 s.y, .int .i64 s.a, .int .i64 s.b, .bool s.f] 49)) w') => ((B5.new w s 49).ext x).at)
  have HV := Lib.hid (fun w' => Valid_calls s w' hs)
  have hn : s.make = if s.chk ≠ 0 then 0 else if s.k = 8 then s.a + s.b else 1 := rfl
  have hk := fun h => (St.chk_ok (s := s) h)
  have hv : s.vld = if s.chk = 0 then 1 else 0 := rfl
  obtain ⟨k, y, a, b, f⟩ := s
  unfold St.val at *
  simp only [] at hn hk HB HV hs ⊢
  generalize St.make ⟨k, y, a, b, f⟩ = N at hn ⊢
  generalize St.vld ⟨k, y, a, b, f⟩ = V at hv HV
  generalize St.chk ⟨k, y, a, b, f⟩ = C at hn hk hv
  by_cases hC : C = 0
  · rw [if_pos hC] at hv
    rw [if_neg (by omega)] at hn
    have hk := hk hC
    subst hv
    clear hC
    by_cases k8 : k = 8
    · rw [if_pos k8] at hn
      subst hn; subst k8
      have w1 : IntKind.i64.wrap (a + b) = a + b := IntWalk.i64_in _ ⟨by omega, by omega⟩
      clear hk
      go_enter Tryd.func49, Tryd.ntmps49
      go_wp2_with fail
      refine (HV.out _).mono ?_
      rintro e w1 ⟨rfl, x1⟩
      obtain ⟨c0, c1, c2, c3, c4⟩ := HB.out _ x1
      simp only [Nat.zero_add] at c0 c1 c2 c3 c4
      have X1 := Lib.hid (((Ext.refl w).alloc _).trans x1)
      clear x1 HV HB
      go_wp2
      go_ret
      exact ⟨rfl, X1.out⟩
    · rw [if_neg k8] at hn
      subst hn
      have b8 : (k == 8) = false := beq_eq_false_iff_ne.2 k8
      clear hk k8
      go_enter Tryd.func49, Tryd.ntmps49
      go_wp2_with fail
      refine (HV.out _).mono ?_
      rintro e w1 ⟨rfl, x1⟩
      obtain ⟨c0, c1, c2, c3, c4⟩ := HB.out _ x1
      simp only [Nat.zero_add] at c0 c1 c2 c3 c4
      have X1 := Lib.hid (((Ext.refl w).alloc _).trans x1)
      clear x1 HV HB
      go_wp2
      go_ret
      exact ⟨rfl, X1.out⟩
  · rw [if_neg hC] at hv
    rw [if_pos hC] at hn
    subst hv; subst hn
    clear hC hk
    go_enter Tryd.func49, Tryd.ntmps49
    go_wp2_with fail
    refine (HV.out _).mono ?_
    rintro e w1 ⟨rfl, x1⟩
    have X1 := Lib.hid (((Ext.refl w).alloc _).trans x1)
    clear x1 HV HB
    go_wp2
    go_ret
    exact ⟨rfl, X1.out⟩
end Go.Proofs.YthllbcjglcplhaaDoor
