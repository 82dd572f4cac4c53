/- Texts of this claim in one file: libraries and walks. -/
import Derived.Deep.CutRange
import Derived.Deep.CutBlock
import Derived.Deep.LoopGhost
import Derived.Test.YtlmkcojimhbmiaaL0
import Derived.Test.YtlmkcojimhbmiaaL4
import Derived.Test.YtlmkcojimhbmiaaL5
import Derived.Test.YtlmkcojimhbmiaaL7
/- ganseylaw13.row: the walk. -/
namespace Go.Proofs.Ytlmkcojimhbmiaa
set_option linter.unusedVariables false
set_option linter.unusedSimpArgs false
set_option maxRecDepth 8000
open Go Go.RowKit

theorem own_zext {w w' : World} {B n z : Nat} {e : TypeId} {v : Value} {xs : List Value} (h : w.ownsRow B e z v n xs) (x : Ext w w') : w'.ownsRow B e z v n xs := by
  obtain ⟨h1, h2 | ⟨g, cap, cur, h3, h4, h5, h6⟩⟩ := h
  · exact ⟨h1, .inl h2⟩
  · exact ⟨h1, .inr ⟨g, cap, cur, h3, h4, x.block h5, h6⟩⟩
theorem own_grown2 {w w' : World} {B n z B' n' z' : Nat} {e e' : TypeId} {v v' : Value} {xs xs' : List Value} (h : w.ownsRow B e z v n xs) (h' : w.ownsRow B' e' z' v' n' xs') (hg : w.grownBy w' v'.ownBlock) (ht : e ≠ e') : w'.ownsRow B e z v n xs := by
  obtain ⟨h1, h2 | ⟨g, cap, cur, h3, h4, h5, h6⟩⟩ := h
  · exact ⟨h1, .inl h2⟩
  · exact ⟨h1, .inr ⟨g, cap, cur, h3, h4, blk_grown h' hg h5 ht, h6⟩⟩
theorem ext_grown2 {w0 w w' : World} {n z : Nat} {e : TypeId} {v : Value} {xs : List Value} (x : Ext w0 w) (h : w.ownsRow w0.heap.size e z v n xs) (hg : w.grownBy w' v.ownBlock) : Ext w0 w' :=
  x.grown hg (fun k hk => by
    obtain ⟨_, hv | ⟨g', cap, cur, hv, hBg, _⟩⟩ := h
    · rw [hv.1] at hk; cases hk
    · rw [hv] at hk; injection hk with hk; rw [← hk]; exact hBg)
/-- 'append(s, x)' of a stitch to stitches of the call's own. -/
theorem app_st1 {w : World} {ops : Array Oper} {rest : List Oper} {o : Oper} {a : Act} {Q : Exit → Act → World → Prop}
    (hg : o.guard = none) (s x : Operand) (hop : o.op = Op.call { callee := Callee.builtin Builtin.append, args := #[s, x], argTypes := #[59, 59] })
    (B : Nat) (v : Value) (n : Nat) (xs : List Value) (hs : a.eval s = v) (hown : w.ownsRow B 67 5 v n xs)
    (g c m : Nat) (l : List St) (hx : a.eval x = .slice (some ⟨g, 0, none⟩) m c) (hm : m = l.length) (hR : RO w g c l)
    (hlen : n + m ≤ 1000000) (hB : B ≤ w.heap.size)
    (hK : ∀ v' w', w'.ownsRow B 67 5 v' (n + m) (xs ++ cells l) → w.grownBy w' v.ownBlock → wpList Try.prog ops Q rest (a.put o.dst v') w') :
    wpList Try.prog ops Q (o :: rest) a w := by
  obtain ⟨i, hi, hzz⟩ := Option.map_eq_some_iff.1 (show (Try.prog.info? 67).map (fun i => (i.zero, i.size, i.bytes)) = some (some (.agg z5), 5, 32) by kernel_rfl)
  simp only [Prod.mk.injEq] at hzz
  obtain ⟨hz, hsz, hb⟩ := hzz
  refine wpList_append_own w hg s x 59 hop B 67 i (.agg z5) 5 32 Try.underlying59 hi hz hsz hb rfl (by decide) v n xs hs hown ⟨g, 0, none⟩ m c (cells l) hx (by rw [cells_len, hm]) hR.news (cs_one l) (by unfold maxLen; omega) (by omega) hB ?_
  intro v' w' h2 h3 _
  exact hK v' w' h2 h3
theorem B5.wet0 {w : World} {b : Nat} {s : St} {t : TypeId} (h : B5 w b s t) (k : Int) : B5 (w.setCell ⟨b, 0, none⟩ (.int .u8 k)) b { s with k := k } t := by
  unfold B5 at *
  have hlt := lt_of_block h
  have h' : w.heap[b] = .cells #[.int .u8 s.k, .int .u8 s.y, .int .i64 s.a, .int .i64 s.b, .bool s.f] t (0, 0) := by simpa [Array.getElem?_eq_getElem hlt] using h
  show (w.heap.modify b _)[b]? = _
  rw [Array.getElem?_eq_getElem (by simpa using hlt), Array.getElem_modify_self, h']
  rfl
theorem B5.wet1 {w : World} {b : Nat} {s : St} {t : TypeId} (h : B5 w b s t) (k : Int) : B5 (w.setCell ⟨b, 1, none⟩ (.int .u8 k)) b { s with y := k } t := by
  unfold B5 at *
  have hlt := lt_of_block h
  have h' : w.heap[b] = .cells #[.int .u8 s.k, .int .u8 s.y, .int .i64 s.a, .int .i64 s.b, .bool s.f] t (0, 0) := by simpa [Array.getElem?_eq_getElem hlt] using h
  show (w.heap.modify b _)[b]? = _
  rw [Array.getElem?_eq_getElem (by simpa using hlt), Array.getElem_modify_self, h']
  rfl
theorem B5.wet2 {w : World} {b : Nat} {s : St} {t : TypeId} (h : B5 w b s t) (k : Int) : B5 (w.setCell ⟨b, 2, none⟩ (.int .i64 k)) b { s with a := k } t := by
  unfold B5 at *
  have hlt := lt_of_block h
  have h' : w.heap[b] = .cells #[.int .u8 s.k, .int .u8 s.y, .int .i64 s.a, .int .i64 s.b, .bool s.f] t (0, 0) := by simpa [Array.getElem?_eq_getElem hlt] using h
  show (w.heap.modify b _)[b]? = _
  rw [Array.getElem?_eq_getElem (by simpa using hlt), Array.getElem_modify_self, h']
  rfl
theorem B5.wet3 {w : World} {b : Nat} {s : St} {t : TypeId} (h : B5 w b s t) (k : Int) : B5 (w.setCell ⟨b, 3, none⟩ (.int .i64 k)) b { s with b := k } t := by
  unfold B5 at *
  have hlt := lt_of_block h
  have h' : w.heap[b] = .cells #[.int .u8 s.k, .int .u8 s.y, .int .i64 s.a, .int .i64 s.b, .bool s.f] t (0, 0) := by simpa [Array.getElem?_eq_getElem hlt] using h
  show (w.heap.modify b _)[b]? = _
  rw [Array.getElem?_eq_getElem (by simpa using hlt), Array.getElem_modify_self, h']
  rfl
theorem B5.wet4 {w : World} {b : Nat} {s : St} {t : TypeId} (h : B5 w b s t) (k : Bool) : B5 (w.setCell ⟨b, 4, none⟩ (.bool k)) b { s with f := k } t := by
  unfold B5 at *
  have hlt := lt_of_block h
  have h' : w.heap[b] = .cells #[.int .u8 s.k, .int .u8 s.y, .int .i64 s.a, .int .i64 s.b, .bool s.f] t (0, 0) := by simpa [Array.getElem?_eq_getElem hlt] using h
  show (w.heap.modify b _)[b]? = _
  rw [Array.getElem?_eq_getElem (by simpa using hlt), Array.getElem_modify_self, h']
  rfl
theorem B5.put {w : World} {b : Nat} {s s' : St} {t : TypeId} (h : B5 w b s t) : B5 (((((w.setCell ⟨b, 0, none⟩ (.int .u8 s'.k)).setCell ⟨b, 1, none⟩ (.int .u8 s'.y)).setCell ⟨b, 2, none⟩ (.int .i64 s'.a)).setCell ⟨b, 3, none⟩ (.int .i64 s'.b)).setCell ⟨b, 4, none⟩ (.bool s'.f)) b s' t := ((((h.wet0 _).wet1 _).wet2 _).wet3 _).wet4 _

/-- What row returns. -/
def RetRow (w0 : World) (xs : List Int) (e : Ending) (w' : World) : Prop := ∃ r nx vr vn, e = .returned (.tuple #[vr, vn]) ∧ RowOf xs r nx ∧ RV w' vr r ∧ IV w' vn nx ∧ Ext w0 w'
/-- What a round of row keeps. -/
def RowI (w wr : World) (xs : List Int) (i : Nat) (out : List St) (nx : List Int) (vo vn : Value) : Prop :=
  wr.ownsRow w.heap.size 67 5 vo out.length (cells out) ∧ wr.ownsRow w.heap.size 3 1 vn nx.length (nx.map (Value.int .i64)) ∧ Ext w wr ∧ Mid xs i out nx
set_option maxHeartbeats 8000000 in
theorem row_calls (v0 v1 : Value) (c0 c1 : Nat) (xs ch : List Int) (w : World) (h0 : IS .i64 w v0 c0 xs) (h1 : IS .u8 w v1 c1 ch) (hl : 1 ≤ xs.length ∧ xs.length ≤ 8) (hv : Vl xs) (hc : ∀ i, i < ch.length → 0 ≤ gi ch i ∧ gi ch i ≤ 255) :
    Calls Try.prog 61 #[v0, v1] w (RetRow w xs) := by
  obtain ⟨a0, n, c0', rfl, hn, rfl, i0⟩ := h0.out
  obtain ⟨a1, m, c1', rfl, hm, rfl, i1⟩ := h1.out
  have hst := Mid.start (xs := xs) hl.2
  have hcm := i1.open.2.1
  have hmc := i1.len.2.2
  unfold maxLen at hcm
  have I0 := Lib.hid i0; have I1 := Lib.hid i1; have HC := Lib.hid hc; have HV := Lib.hid hv; have Hn := Lib.hid hn; have Hm := Lib.hid hm; have HSt := Lib.hid hst
  have hnb : 1 ≤ n ∧ n ≤ 8 := by omega
  have hmb : m ≤ 2 ^ 63 - 1 := by omega
  clear i0 i1 h0 h1 hc hv hn hm hst hl hcm hmc
  go_enter Try.func61, Try.ntmps61
  go_wp2
  go_loopg [6, 7, 8, 9, 10, 11, 12, 13, 14, 15, 16] (far9 n 0 0) (fun g s6 s7 s8 s9 _ _ _ _ _ _ _ wr => ∃ (i : Nat) (out : List St) (nx : List Int), g = far9 n i nx.length ∧ s8 = .int .i64 i ∧ s9 = .int .i64 out.length ∧ i ≤ n ∧ Hid (RowI w wr xs i out nx s6 s7))
  case atStart => exact ⟨0, [], [], rfl, rfl, rfl, by omega, Lib.hid ⟨World.ownsRow_nil _ _ _ _, World.ownsRow_nil _ _ _ _, Ext.refl w, HSt.out⟩⟩
  case round =>
    obtain ⟨i, out, nx, hg, rfl, rfl, hi, H⟩ := hrel
    obtain ⟨H1, H2, H3, H4⟩ := H.out
    obtain ⟨an, nn, cn, rfl, hnn⟩ := (IV.of_own H2).1.form
    have hfew := H4.few
    have hlen := H4.len
    obtain ⟨K, hK⟩ : ∃ K, K = out.length := ⟨_, rfl⟩
    rw [← Hn.out, ← hnn] at hlen
    rw [← hnn] at hfew hg
    rw [← hK] at hfew ⊢
    have HK := Lib.hid hK; have Hnn := Lib.hid hnn; have Hg := Lib.hid hg
    clear H1 H2 H3 H4 hK hnn hg
    by_cases hlt : i < n
    · have q1 : (i : Int) < n := by omega
      have hkb : K ≤ 8 := by omega
      go_upto_if 26 with fail
      go_cut [10] from 17 to 138 (fun x wx => ∃ c : Int, x = .int .u8 c ∧ (0 ≤ c ∧ c ≤ 255) ∧ wx = wr)
      case first =>
        by_cases hkm : K < m
        · obtain ⟨b, o, rfl, hcs⟩ := I1.out.at hkm
          have hb := HC.out K (by rw [← Hm.out]; exact hkm)
          have hcc := H.out.2.2.1.cell (hcs K hkm)
          generalize gi ch K = C at hb hcc
          have q2 : (K : Int) < m := by omega
          clear hcs
          go_wp2_with fail
          go_meet
          case rel => exact ⟨_, rfl, hb, rfl⟩
        · have q2 : ¬ (K : Int) < m := by omega
          go_wp2_with fail
          go_meet
          case rel => exact ⟨_, rfl, by omega, rfl⟩
      case rest =>
        obtain ⟨c, rfl, hcb, rfl⟩ := hcut
        obtain ⟨wa, hwa⟩ : ∃ wa : World, wa = wc := ⟨_, rfl⟩
        rw [← hwa] at H ⊢
        clear hwa wc
        go_upto_block 2 with fail
        have hcc := hcb
        obtain ⟨hcb1, hcb2⟩ := hcb
        have hy0 : 1 ≤ 1 + c / 16 % 3 ∧ 1 + c / 16 % 3 ≤ 6 := by omega
        have hm16 : 0 ≤ c % 16 ∧ c % 16 ≤ 15 := by omega
        go_cut [] from 17 to 138 (fun wx => ∃ s : St, Hid (B5 wx wa.heap.size s 67) ∧ Hid (Ext wa wx) ∧ Hid (Take xs i nx.length s))
        case first =>
          generalize 1 + c / 16 % 3 = Y at hy0 ⊢
          have hB := fun k => B5.new wa ⟨k, Y, 0, 0, false⟩ 67
          have hX := fun k => (Ext.refl wa).alloc (.cells #[.int .u8 k, .int .u8 Y, .int .i64 0, .int .i64 0, .bool false] 67)
          have hix : i < xs.length := by rw [← Hn.out]; exact hlt
          have hT1 := fun k h => take_one (nx := nx.length) (k := k) hix HV.out hy0 h
          have hT3 := fun h => take_over (nx := nx.length) hix hy0 h
          have hT4 := fun k h h2 h3 => take_two (nx := nx.length) (k := k) h (i := i) h2 HV.out hy0 h3
          have HB := Lib.hid hB; have HX := Lib.hid hX; have HT1 := Lib.hid hT1; have HT3 := Lib.hid hT3; have HT4 := Lib.hid hT4
          obtain ⟨b0, o0, rfl, hcs⟩ := I0.out.at hlt
          have hi0 := H.out.2.2.1.cell (hcs i hlt)
          have hi1 := fun (h : i + 1 < n) => H.out.2.2.1.cell (hcs (i + 1) h)
          have hv0 := (Vl.gi HV.out) i hix
          have hv1 := fun (h : i + 1 < xs.length) => (Vl.gi HV.out) (i + 1) h
          rw [← Hn.out] at hv1
          obtain ⟨A0, hA0⟩ : ∃ A, A = gi xs i := ⟨_, rfl⟩
          obtain ⟨A1, hA1⟩ : ∃ A, A = gi xs (i + 1) := ⟨_, rfl⟩
          rw [← hA0] at hi0 hv0
          rw [← hA1] at hi1 hv1
          have HA0 := Lib.hid hA0; have HA1 := Lib.hid hA1; have HI0 := Lib.hid hi0; have HI1 := Lib.hid hi1; have HV1 := Lib.hid hv1
          clear hB hX hT1 hT3 hT4 hcs hA0 hA1 hi0 hi1 hv1 hix
          rcases (show c % 16 = 0 ∨ c % 16 = 15 ∨ c % 16 = 1 ∨ c % 16 = 2 ∨ c % 16 = 8 ∨ c % 16 = 9 ∨ c % 16 = 3 ∨ (c % 16 = 4 ∨ c % 16 = 5) ∨ (c % 16 = 6 ∨ c % 16 = 7) ∨ (c % 16 = 10 ∨ c % 16 = 11 ∨ c % 16 = 12 ∨ c % 16 = 13 ∨ c % 16 = 14) by omega) with e | e | e | e | e | e | e | e | e | e
          · go_wp2_with fail
            go_meet
            case rel => exact ⟨_, Lib.hid (HB.out 1), Lib.hid (HX.out 1), Lib.hid (HT1.out 1 (by omega))⟩
          · go_wp2_with fail
            go_meet
            case rel => exact ⟨_, Lib.hid (HB.out 1), Lib.hid (HX.out 1), Lib.hid (HT1.out 1 (by omega))⟩
          · go_wp2_with fail
            go_meet
            case rel => exact ⟨_, Lib.hid (HB.out 2), Lib.hid (HX.out 2), Lib.hid (HT1.out 2 (by omega))⟩
          · go_wp2_with fail
            go_meet
            case rel => exact ⟨_, Lib.hid (HB.out 2), Lib.hid (HX.out 2), Lib.hid (HT1.out 2 (by omega))⟩
          · go_wp2_with fail
            go_meet
            case rel => exact ⟨_, Lib.hid (HB.out 7), Lib.hid (HX.out 7), Lib.hid (HT1.out 7 (by omega))⟩
          · go_wp2_with fail
            go_meet
            case rel => exact ⟨_, Lib.hid (HB.out 7), Lib.hid (HX.out 7), Lib.hid (HT1.out 7 (by omega))⟩
          · have t1 : IntKind.i64.wrap ((nn : Int) + ((n : Int) - i)) = (nn : Int) + ((n : Int) - i) := IntWalk.i64_in _ ⟨by omega, by omega⟩
            by_cases h8 : nn + (n - i) < 8
            · have t2 : (nn : Int) + ((n : Int) - i) < 8 := by omega
              go_wp2_with fail
              go_meet
              case rel => exact ⟨_, Lib.hid (HB.out 3), Lib.hid (HX.out 3), Lib.hid (HT3.out (by rw [← Hn.out, ← Hnn.out]; exact h8))⟩
            · have t2 : ¬ (nn : Int) + ((n : Int) - i) < 8 := by omega
              go_wp2_with fail
              go_meet
              case rel => exact ⟨_, Lib.hid (HB.out 1), Lib.hid (HX.out 1), Lib.hid (HT1.out 1 (by omega))⟩
          · rcases e with e | e
            · by_cases h1 : i + 1 < n
              · have y1 := (HX.out 1).cell HI0.out
                have y2 := (HX.out 1).cell (HI1.out h1)
                have hv1 := HV1.out h1
                have t1 : IntKind.i64.wrap ((i : Int) + 1) = (i : Int) + 1 := IntWalk.i64_in _ ⟨by omega, by omega⟩
                have t2 : (0 : Int) ≤ (i : Int) + 1 := by omega
                have t3 : ((i : Int) + 1).toNat = i + 1 := by omega
                have t4 : (i : Int) + 1 < n := by omega
                have t5 : 1 < (n : Int) - i := by omega
                have t6 : IntKind.i64.wrap (A0 + A1) = A0 + A1 := IntWalk.i64_in _ ⟨by omega, by omega⟩
                by_cases h4 : A0 + A1 ≤ 4
                · go_wp2_with fail
                  go_quiet (fail)
                  go_wp2_with fail
                  go_meet
                  case rel => exact ⟨⟨4, Y, 0, 0, false⟩, Lib.hid (by first | exact HB.out 4 | exact ((HB.out 1).ext ((Ext.refl _).drewN _)).wet0 4 | exact (HB.out 4).ext ((Ext.refl _).drewN _)), Lib.hid (by first | exact HX.out 4 | exact ((HX.out 1).drewN _).setCell (Nat.le_refl _) _ | exact (HX.out 4).drewN _), Lib.hid (HT4.out 4 (by omega) (by rw [← Hn.out]; exact h1) (by rw [← HA0.out, ← HA1.out]; exact h4))⟩
                · go_wp2_with fail
                  go_quiet (fail)
                  go_wp2_with fail
                  go_meet
                  case rel => exact ⟨⟨1, Y, 0, 0, false⟩, Lib.hid (by first | exact HB.out 1 | exact (HB.out 1).ext ((Ext.refl _).drewN _)), Lib.hid (by first | exact HX.out 1 | exact (HX.out 1).drewN _), Lib.hid (HT1.out 1 (by omega))⟩
              · have t5 : ¬ 1 < (n : Int) - i := by omega
                have t5' : decide (1 < (n : Int) - i) = false := decide_eq_false t5
                go_wp2_with fail
                go_quiet (fail)
                go_wp2_with fail
                go_meet
                case rel => exact ⟨⟨1, Y, 0, 0, false⟩, Lib.hid (by first | exact HB.out 1 | exact (HB.out 1).ext ((Ext.refl _).drewN _)), Lib.hid (by first | exact HX.out 1 | exact (HX.out 1).drewN _), Lib.hid (HT1.out 1 (by omega))⟩
            · by_cases h1 : i + 1 < n
              · have y1 := (HX.out 1).cell HI0.out
                have y2 := (HX.out 1).cell (HI1.out h1)
                have hv1 := HV1.out h1
                have t1 : IntKind.i64.wrap ((i : Int) + 1) = (i : Int) + 1 := IntWalk.i64_in _ ⟨by omega, by omega⟩
                have t2 : (0 : Int) ≤ (i : Int) + 1 := by omega
                have t3 : ((i : Int) + 1).toNat = i + 1 := by omega
                have t4 : (i : Int) + 1 < n := by omega
                have t5 : 1 < (n : Int) - i := by omega
                have t6 : IntKind.i64.wrap (A0 + A1) = A0 + A1 := IntWalk.i64_in _ ⟨by omega, by omega⟩
                by_cases h4 : A0 + A1 ≤ 4
                · go_wp2_with fail
                  go_quiet (fail)
                  go_wp2_with fail
                  go_meet
                  case rel => exact ⟨⟨5, Y, 0, 0, false⟩, Lib.hid (by first | exact HB.out 5 | exact ((HB.out 1).ext ((Ext.refl _).drewN _)).wet0 5 | exact (HB.out 5).ext ((Ext.refl _).drewN _)), Lib.hid (by first | exact HX.out 5 | exact ((HX.out 1).drewN _).setCell (Nat.le_refl _) _ | exact (HX.out 5).drewN _), Lib.hid (HT4.out 5 (by omega) (by rw [← Hn.out]; exact h1) (by rw [← HA0.out, ← HA1.out]; exact h4))⟩
                · go_wp2_with fail
                  go_quiet (fail)
                  go_wp2_with fail
                  go_meet
                  case rel => exact ⟨⟨1, Y, 0, 0, false⟩, Lib.hid (by first | exact HB.out 1 | exact (HB.out 1).ext ((Ext.refl _).drewN _)), Lib.hid (by first | exact HX.out 1 | exact (HX.out 1).drewN _), Lib.hid (HT1.out 1 (by omega))⟩
              · have t5 : ¬ 1 < (n : Int) - i := by omega
                have t5' : decide (1 < (n : Int) - i) = false := decide_eq_false t5
                go_wp2_with fail
                go_quiet (fail)
                go_wp2_with fail
                go_meet
                case rel => exact ⟨⟨1, Y, 0, 0, false⟩, Lib.hid (by first | exact HB.out 1 | exact (HB.out 1).ext ((Ext.refl _).drewN _)), Lib.hid (by first | exact HX.out 1 | exact (HX.out 1).drewN _), Lib.hid (HT1.out 1 (by omega))⟩
          · by_cases h3 : A0 < 3
            · have y1 := (HX.out 1).cell HI0.out
              rcases e with e | e
              · go_wp2_with fail
                go_meet
                case rel => exact ⟨_, Lib.hid (HB.out 6), Lib.hid (HX.out 6), Lib.hid (HT1.out 6 (by have := HA0.out; omega))⟩
              · go_wp2_with fail
                go_meet
                case rel => exact ⟨_, Lib.hid (HB.out 6), Lib.hid (HX.out 6), Lib.hid (HT1.out 6 (by have := HA0.out; omega))⟩
            · have y1 := (HX.out 1).cell HI0.out
              rcases e with e | e
              · go_wp2_with fail
                go_meet
                case rel => exact ⟨_, Lib.hid (HB.out 1), Lib.hid (HX.out 1), Lib.hid (HT1.out 1 (by omega))⟩
              · go_wp2_with fail
                go_meet
                case rel => exact ⟨_, Lib.hid (HB.out 1), Lib.hid (HX.out 1), Lib.hid (HT1.out 1 (by omega))⟩
          · obtain ⟨D, hD⟩ : ∃ D, D = c % 16 := ⟨_, rfl⟩
            have hD2 : 0 ≤ D ∧ D ≤ 255 := by omega
            have u1 : IntKind.u8.wrap (c / 16) = c / 16 := IntWalk.u8_in _ ⟨by omega, by omega⟩
            have u2 : IntKind.u8.wrap (c / 16 * 16) = c / 16 * 16 := IntWalk.u8_in _ ⟨by omega, by omega⟩
            have u3 : IntKind.u8.wrap (c - c / 16 * 16) = D := by rw [hD, show c - c / 16 * 16 = c % 16 by omega]; exact IntWalk.u8_in _ ⟨by omega, by omega⟩
            have HKc := Lib.hid (show ∀ (f : Bool) (w' : World), Calls Try.prog 63 #[.agg #[.int .u8 7, .int .u8 0, .int .u8 D, .bool f]] w' fun e w1 => ∃ S : St, e = .returned S.val ∧ S.chk = 0 ∧ S.k = 8 ∧ Ext w' w1 from fun f w' => (K_calls 7 0 D f w' (by omega) (by omega) hD2).mono fun e w1 h => ⟨_, h.1, kSt_chk 7 0 D f, by unfold kSt; rw [if_pos (by decide)], h.2⟩)
            clear hD hD2
            rcases e with e | e | e | e | e
            all_goals
              go_wp2_with fail
              refine (HKc.out _ _).mono ?_
              intro e w1 hh
              obtain ⟨⟨k', y', a', b', f'⟩, rfl, hc8, hk8, x⟩ := hh
              obtain rfl : k' = 8 := hk8
              unfold St.val
              simp only []
              have hok := (St.chk_ok hc8).2.2
              simp only [] at hok
              have hab : 1 ≤ a' ∧ a' ≤ 3 ∧ 1 ≤ b' ∧ b' ≤ 3 := by omega
              have t1 : IntKind.i64.wrap (a' + b') = a' + b' := IntWalk.i64_in _ ⟨by omega, by omega⟩
              have hB1 := (HB.out 1).ext x
              have X1 := Lib.hid ((HX.out 1).trans x)
              have hBa := hB1.ext ((Ext.refl w1).alloc (.cells #[.int .u8 8, .int .u8 y', .int .i64 a', .int .i64 b', .bool f'] 67))
              have hBy := hB1.ext ((Ext.refl w1).alloc (.cells #[.int .u8 8, .int .u8 Y, .int .i64 a', .int .i64 b', .bool f'] 67))
              obtain ⟨W2, hW2⟩ : ∃ W2, W2 = w1.alloc (.cells #[.int .u8 8, .int .u8 Y, .int .i64 a', .int .i64 b', .bool f'] 67) := ⟨_, rfl⟩
              have hBx : B5 W2 w1.heap.size ⟨8, Y, a', b', f'⟩ 67 := by rw [hW2]; exact B5.new w1 ⟨8, Y, a', b', f'⟩ _
              rw [← hW2] at hBy
              have HBx := Lib.hid hBx; have HBy := Lib.hid hBy; have HW2 := Lib.hid hW2
              obtain ⟨_, d1, _, _, _⟩ := hBa.at
              rw [Nat.zero_add] at d1
              have l1 : wa.heap.size < w1.heap.size := lt_of_block hB1
              have l2 : wa.heap.size < w1.heap.size + 1 := by omega
              have HBp := Lib.hid (hBy.put (s' := ⟨8, Y, a', b', f'⟩))
              have HXp := Lib.hid (X1.out.alloc (.cells #[.int .u8 8, .int .u8 Y, .int .i64 a', .int .i64 b', .bool f'] 67))
              have HBa := Lib.hid hBa; have HXa := Lib.hid (X1.out.alloc (.cells #[.int .u8 8, .int .u8 y', .int .i64 a', .int .i64 b', .bool f'] 67))
              have hsY : (⟨8, Y, a', b', f'⟩ : St).chk = 0 := by
                unfold St.chk; simp only []
                rw [if_neg (by omega), if_neg (by omega), if_neg (by omega)]
              have HsY := Lib.hid hsY
              rw [← hW2] at HXp
              clear hB1 hBa hBy hBx x hc8 hok hsY hW2
              by_cases hle : a' + b' ≤ (n : Int) - i
              · have HTc := Lib.hid (take_cable (i := i) (nx := nx.length) HsY.out rfl HV.out (by rw [← Hn.out]; exact hi) (show a' + b' ≤ ((xs.length - i : Nat) : Int) by rw [← Hn.out]; omega))
                go_upto_if 111 with fail
                go_upto_region 38 with fail
                rw [← HW2.out]
                obtain ⟨c0, c1, c2, c3, c4⟩ := HBy.out.at
                obtain ⟨x0, x1, x2, x3, x4⟩ := HBx.out.at
                simp only [Nat.zero_add] at c0 c1 c2 c3 c4 x0 x1 x2 x3 x4
                have f0 := HBy.out.fr 0; have f1 := HBy.out.fr 1; have f2 := HBy.out.fr 2; have f3 := HBy.out.fr 3; have f4 := HBy.out.fr 4
                clear d1 l1 l2 t1
                go_wp2_with fail
                go_meet
                case rel => exact ⟨⟨8, Y, a', b', f'⟩, HBp, Lib.hid (((((HXp.out.setCell (Nat.le_refl _) _).setCell (Nat.le_refl _) _).setCell (Nat.le_refl _) _).setCell (Nat.le_refl _) _).setCell (Nat.le_refl _) _), HTc⟩
              · go_wp2_with fail
                go_meet
                case rel => exact ⟨⟨1, Y, 0, 0, false⟩, HBa, HXa, Lib.hid (HT1.out 1 (by omega))⟩
        case rest =>
          obtain ⟨s, HB, HX, HT⟩ := hcut
          obtain ⟨wb, hwb⟩ : ∃ wb : World, wb = wc := ⟨_, rfl⟩
          rw [← hwb] at HB HX ⊢
          clear hwb wc hcc hy0 hm16 hcb1 hcb2
          obtain ⟨b0, o0, rfl, hcs⟩ := I0.out.at hlt
          obtain ⟨H1, H2, H3, H4⟩ := H.out
          have HS1 := Lib.hid (own_zext H1 HX.out); have HS2 := Lib.hid (own_zext H2 HX.out); have XA := Lib.hid (H3.trans HX.out)
          have HMid := Lib.hid (H4.step HT.out HV.out)
          have HFar := Lib.hid (H4.far HT.out (by rw [← Hn.out]; exact hlt))
          have ht2 := HT.out.2.1
          have hnb2 := s.need_bd
          have hsk := St.chk_ok HT.out.1
          have hml := lmade_len HT.out.2.2.1
          have hmb2 := s.make_bd
          obtain ⟨nd, hnd⟩ : ∃ nd : Nat, nd = s.need.toNat := ⟨_, rfl⟩
          rw [← hnd] at HMid HFar ht2 hml
          have hndI : s.need = (nd : Int) := by omega
          have hN := fun w' => RNeeds_calls s w' ⟨by omega, by omega⟩
          have hL := fun v c xs w' h => RLoads2_calls s v c xs w' h ⟨by omega, by omega⟩
          rw [hndI] at hN
          have hIS : IS .i64 w (.slice (some ⟨b0, o0 + i, none⟩) nd (c0' - i)) (c0' - i) ((xs.drop i).take nd) := by
            have hcap := I0.out.len.2.2
            have hcm := I0.out.open.2.1
            refine IS.mk (by rw [List.length_take, List.length_drop]; omega) (by omega) (by omega) (fun j hj => ?_)
            rw [gi_take hj, gi_drop, Nat.add_assoc]
            exact hcs (i + j) (by have := Hn.out; omega)
          have hL2 := fun w' (x : Ext w w') => hL _ _ _ w' (hIS.ext x)
          have hle0 : s.lerr ((xs.drop i).take nd) = 0 := by rw [hnd]; exact HT.out.2.2.1
          rw [hle0] at hL2
          obtain ⟨md, hmd⟩ : ∃ md, md = s.lmade ((xs.drop i).take nd) := ⟨_, rfl⟩
          rw [← hmd] at hL2 HMid HFar hml
          have hcap := I0.out.len.2.2
          have hni : nd + i ≤ n := by have := Hn.out; omega
          have hcc : ¬ c0' = i := by have := Hn.out; omega
          have hcn : n ≤ c0' := by have := Hn.out; omega
          have hmdb : md.length ≤ 4 := by omega
          have HL := Lib.hid hL2; have HN := Lib.hid hN
          obtain ⟨p, hp⟩ : ∃ p, p = wa.heap.size := ⟨_, rfl⟩
          rw [← hp] at HB ⊢
          have HBx := Lib.hid (fun w' (x : Ext wb w') => (HB.out.ext x).at)
          have HX2 := Lib.hid (Ext.refl wb)
          have hb1 := HBx.out _ (Ext.refl wb)
          obtain ⟨c0, c1, c2, c3, c4⟩ := hb1
          simp only [Nat.zero_add] at c0 c1 c2 c3 c4
          have hval : s.val = .agg #[.int .u8 s.k, .int .u8 s.y, .int .i64 s.a, .int .i64 s.b, .bool s.f] := rfl
          rw [hval] at *
          clear hsk hnb2 hmb2 hml hndI hnd hN hL hL2 hIS hle0 hmd hcap ht2 H1 H2 H3 H4 hcs hp hval HB
          have y0 := Lib.hid (Ext.refl wb)
          have r1 : IntKind.i64.wrap ((i : Int) + (nd : Int)) = (i : Int) + (nd : Int) := IntWalk.i64_in _ ⟨by omega, by omega⟩
          go_wp2_with fail
          refine ((HN.out _)).mono ?_
          rintro e wn ⟨rfl, x⟩
          have Xn := Lib.hid (y0.out.trans x)
          clear c0 c1 c2 c3 c4
          clear x
          have hb1 := HBx.out _ Xn.out
          obtain ⟨q0_1, q0_2, q0_3, q0_4, q0_5⟩ := hb1
          simp only [Nat.zero_add] at q0_1 q0_2 q0_3 q0_4 q0_5
          have rc : ¬ c0' ≤ i := by omega
          have hsl := fun w' => slice_mid b0 o0 n c0' i nd (by omega) hcc w'
          have hsl2 : ∀ w', (Instr.sliceAt 55 (.slice (some ⟨b0, o0, none⟩) n c0') (some (.int .i64 (i : Int))) (some (.int .i64 ((i : Int) + (nd : Int)))) none).run Try.prog w' = .ok (.slice (some ⟨b0, o0 + i, none⟩) nd (c0' - i)) w' := fun w' => by
            rw [run_sliceAt_slice w' 55 _ _ _ _ Try.underlying55]; exact hsl w'
          have rd : ¬ c0' - i = 0 := by omega
          have re' : i + nd - i = nd := by omega
          have rf : i < c0' := by omega
          have rg : ((i : Int) + (nd : Int)).toNat ≤ c0' := by omega
          have rh : ¬ c0' < i + nd := by omega
          have ri' : ¬ i + nd < i := by omega
          go_wp2
          refine wp_region_held_drew (S := fun w' => w'.cell? ⟨p, 0, Option.none⟩ = some (.int .u8 s.k) ∧ w'.cell? ⟨p, 1, Option.none⟩ = some (.int .u8 s.y) ∧ w'.cell? ⟨p, 2, Option.none⟩ = some (.int .i64 s.a) ∧ w'.cell? ⟨p, 3, Option.none⟩ = some (.int .i64 s.b) ∧ w'.cell? ⟨p, 4, Option.none⟩ = some (.bool s.f)) (by kernel_rfl) ?_ (fun hHeld => ?_)
          · exact ⟨q0_1, q0_2, q0_3, q0_4, q0_5⟩
          refine wpAnyH_take (i := 0) (v := ?va397_0) rfl (by kernel_rfl) (by kernel_rfl) (by kernel_rfl) (fun _ _ _ h => h) (Or.inl ⟨by rfl, fun w hSw => ?ti397_0⟩) (by assumption) ?rest397_0
          case ti397_0 => ((try dsimp only at hSw); go_simp; (first | done | with_reducible rfl))
          try simp only [Act.put, List.getElem_toArray, List.getElem_cons_zero, List.getElem_cons_succ, List.setIfInBounds_toArray, List.set_cons_zero, List.set_cons_succ]
          refine wpAnyH_take (i := 1) (v := ?va400_1) rfl (by kernel_rfl) (by kernel_rfl) (by kernel_rfl) (fun _ _ _ h => h) (Or.inl ⟨by rfl, fun w hSw => ?ti400_1⟩) (by assumption) ?rest400_1
          case ti400_1 => ((try dsimp only at hSw); go_simp; (first | done | with_reducible rfl))
          try simp only [Act.put, List.getElem_toArray, List.getElem_cons_zero, List.getElem_cons_succ, List.setIfInBounds_toArray, List.set_cons_zero, List.set_cons_succ]
          refine wpAnyH_take (i := 2) (v := ?va403_2) rfl (by kernel_rfl) (by kernel_rfl) (by kernel_rfl) (fun _ _ _ h => h) (Or.inl ⟨by rfl, fun w hSw => ?ti403_2⟩) (by assumption) ?rest403_2
          case ti403_2 => ((try dsimp only at hSw); go_simp; (first | done | with_reducible rfl))
          try simp only [Act.put, List.getElem_toArray, List.getElem_cons_zero, List.getElem_cons_succ, List.setIfInBounds_toArray, List.set_cons_zero, List.set_cons_succ]
          refine wpAnyH_take (i := 3) (v := ?va406_3) rfl (by kernel_rfl) (by kernel_rfl) (by kernel_rfl) (fun _ _ _ h => h) (Or.inl ⟨by rfl, fun w hSw => ?ti406_3⟩) (by assumption) ?rest406_3
          case ti406_3 => ((try dsimp only at hSw); go_simp; (first | done | with_reducible rfl))
          try simp only [Act.put, List.getElem_toArray, List.getElem_cons_zero, List.getElem_cons_succ, List.setIfInBounds_toArray, List.set_cons_zero, List.set_cons_succ]
          refine wpAnyH_take (i := 4) (v := ?va409_4) rfl (by kernel_rfl) (by kernel_rfl) (by kernel_rfl) (fun _ _ _ h => h) (Or.inl ⟨by rfl, fun w hSw => ?ti409_4⟩) (by assumption) ?rest409_4
          case ti409_4 => ((try dsimp only at hSw); go_simp; (first | done | with_reducible rfl))
          try simp only [Act.put, List.getElem_toArray, List.getElem_cons_zero, List.getElem_cons_succ, List.setIfInBounds_toArray, List.set_cons_zero, List.set_cons_succ]
          refine wpAnyH_take (i := 5) (v := ?va412_5) rfl (by kernel_rfl) (by kernel_rfl) (by kernel_rfl) (fun _ _ _ h => h) (Or.inl ⟨by rfl, fun w hSw => ?ti412_5⟩) (by assumption) ?rest412_5
          case ti412_5 => ((try dsimp only at hSw); go_simp; (first | done | with_reducible rfl))
          try simp only [Act.put, List.getElem_toArray, List.getElem_cons_zero, List.getElem_cons_succ, List.setIfInBounds_toArray, List.set_cons_zero, List.set_cons_succ]
          refine wpAnyH_take (i := 6) (v := ?va415_6) rfl (by kernel_rfl) (by kernel_rfl) (by kernel_rfl) (fun _ _ _ h => h) (Or.inl ⟨by rfl, fun w hSw => ?ti415_6⟩) (by assumption) ?rest415_6
          case ti415_6 => ((try dsimp only at hSw); go_simp; (first | done | with_reducible rfl))
          try simp only [Act.put, List.getElem_toArray, List.getElem_cons_zero, List.getElem_cons_succ, List.setIfInBounds_toArray, List.set_cons_zero, List.set_cons_succ]
          refine wpAnyH_ready (rs := [7]) (by kernel_rfl) (by simp) ?_
          refine AllReadyH.cons rfl (fun K hK => ?_) AllReadyH.nil
          go_simp
          refine ((HL.out _ ?_)).mono ?_
          · (refine Ext.trans (XA.out.trans Xn.out) ?_; (repeat (first | (with_reducible exact Ext.refl _) | (with_reducible apply Ext.drew) | (with_reducible apply Ext.drewN) | (with_reducible apply Ext.alloc))))
          intro e wl hh
          obtain ⟨vl, rfl, il, x⟩ := hh
          have Xl : Hid (Ext wn wl) := Lib.hid (Ext.trans (by (repeat (first | (with_reducible exact Ext.refl _) | (with_reducible apply Ext.drew) | (with_reducible apply Ext.drewN) | (with_reducible apply Ext.alloc)))) x)
          have q1_1 := Xl.out.cell q0_1
          have q1_2 := Xl.out.cell q0_2
          have q1_3 := Xl.out.cell q0_3
          have q1_4 := Xl.out.cell q0_4
          have q1_5 := Xl.out.cell q0_5
          obtain ⟨al, nl, cl, rfl, hnl⟩ := il.form; have Il := Lib.hid il; have Hnl := Lib.hid hnl; clear il hnl
          go_simp
          refine hK.out _ _ ?_ (fun hHeld => ?_)
          · exact ⟨q1_1, q1_2, q1_3, q1_4, q1_5⟩
          clear hK K x
          try simp only [Act.put, List.getElem_toArray, List.getElem_cons_zero, List.getElem_cons_succ, List.setIfInBounds_toArray, List.set_cons_zero, List.set_cons_succ]
          refine wpAnyH_take (i := 8) (v := ?va437_8) rfl (by kernel_rfl) (by kernel_rfl) (by kernel_rfl) (fun _ _ _ h => h) (Or.inl ⟨by rfl, fun w hSw => ?ti437_8⟩) (by assumption) ?rest437_8
          case ti437_8 => ((try dsimp only at hSw); go_simp; (first | done | with_reducible rfl))
          try simp only [Act.put, List.getElem_toArray, List.getElem_cons_zero, List.getElem_cons_succ, List.setIfInBounds_toArray, List.set_cons_zero, List.set_cons_succ]
          refine wpAnyH_take (i := 9) (v := ?va440_9) rfl (by kernel_rfl) (by kernel_rfl) (by kernel_rfl) (fun _ _ _ h => h) (Or.inl ⟨by rfl, fun w hSw => ?ti440_9⟩) (by assumption) ?rest440_9
          case ti440_9 => ((try dsimp only at hSw); go_simp; (first | done | with_reducible rfl))
          try simp only [Act.put, List.getElem_toArray, List.getElem_cons_zero, List.getElem_cons_succ, List.setIfInBounds_toArray, List.set_cons_zero, List.set_cons_succ]
          refine wpAnyH_take (i := 10) (v := ?va443_10) rfl (by kernel_rfl) (by kernel_rfl) (by kernel_rfl) (fun _ _ _ h => h) (Or.inl ⟨by rfl, fun w hSw => ?ti443_10⟩) (by assumption) ?rest443_10
          case ti443_10 => ((try dsimp only at hSw); go_simp; (first | done | with_reducible rfl))
          try simp only [Act.put, List.getElem_toArray, List.getElem_cons_zero, List.getElem_cons_succ, List.setIfInBounds_toArray, List.set_cons_zero, List.set_cons_succ]
          refine wpAnyH_take (i := 11) (v := ?va446_11) rfl (by kernel_rfl) (by kernel_rfl) (by kernel_rfl) (fun _ _ _ h => h) (Or.inl ⟨by rfl, fun w hSw => ?ti446_11⟩) (by assumption) ?rest446_11
          case ti446_11 => ((try dsimp only at hSw); go_simp; (first | done | with_reducible rfl))
          try simp only [Act.put, List.getElem_toArray, List.getElem_cons_zero, List.getElem_cons_succ, List.setIfInBounds_toArray, List.set_cons_zero, List.set_cons_succ]
          refine wpAnyH_take (i := 12) (v := ?va449_12) rfl (by kernel_rfl) (by kernel_rfl) (by kernel_rfl) (fun _ _ _ h => h) (Or.inl ⟨by rfl, fun w hSw => ?ti449_12⟩) (by assumption) ?rest449_12
          case ti449_12 => ((try dsimp only at hSw); go_simp; (first | done | with_reducible rfl))
          try simp only [Act.put, List.getElem_toArray, List.getElem_cons_zero, List.getElem_cons_succ, List.setIfInBounds_toArray, List.set_cons_zero, List.set_cons_succ]
          refine wpAnyH_done (by kernel_rfl) ?_ _
          have X3 := Lib.hid (XA.out.trans (Xn.out.trans Xl.out))
          have HS1' := Lib.hid (own_zext HS1.out (Xn.out.trans Xl.out)); have HS2' := Lib.hid (own_zext HS2.out (Xn.out.trans Xl.out))
          have hsz := X3.out.size
          have hKl : out.length ≤ 8 := by have := HK.out; omega
          have hNl : nx.length ≤ 8 := by have := Hnn.out; omega
          clear hsl hsl2 rc rd re' rf rg rh ri' hcc q0_1 q0_2 q0_3 q0_4 q0_5
          obtain ⟨W5, hW5⟩ : ∃ W5, W5 = wl.alloc (.cells #[.int .u8 s.k, .int .u8 s.y, .int .i64 s.a, .int .i64 s.b, .bool s.f] 67) := ⟨_, rfl⟩
          have x5 : Ext wl W5 := by rw [hW5]; exact (Ext.refl wl).alloc _
          have hRO : RO W5 wl.heap.size 1 [s] := by rw [hW5]; exact RO.lit (l := [s]) rfl (by simp)
          have HRO := Lib.hid hRO; have HS15 := Lib.hid (own_zext HS1'.out x5); have HS25 := Lib.hid (own_zext HS2'.out x5); have X5 := Lib.hid (X3.out.trans x5); have X55 := Lib.hid x5; have HW5 := Lib.hid hW5
          clear hW5 hRO x5
          go_wp2_with (at_builtin; rw [← HW5.out]; refine app_st1 rfl _ _ rfl w.heap.size _ out.length _ rfl HS15.out wl.heap.size 1 1 [s] rfl rfl HRO.out ?d1 ?d2 ?_)
          case d1 => omega
          case d2 => exact X5.out.size
          intro v' w6 hown hgr
          have G2 := Lib.hid (own_grown2 HS25.out HS15.out hgr (by decide)); have X6 := Lib.hid (ext_grown2 X5.out HS15.out hgr)
          obtain ⟨cI, hI⟩ := ((Il.out.ext X55.out).grown HS15.out hgr (by decide)).is
          have HI := Lib.hid hI
          have hmdl : (md.map (Value.int .i64)).length = md.length := List.length_map _
          have HO6 := Lib.hid hown
          clear hgr hI hown
          obtain ⟨_, hcI, _⟩ := HI.out.len
          obtain rfl : cl = cI := hcI
          go_wp2_with (at_builtin; refine app_own_g eiInt rfl _ _ rfl w.heap.size _ nx.length _ rfl G2.out _ _ _ rfl HI.out (onesI _) ?d1 ?d2 ?d3 ?_)
          case d1 => rw [hmdl]; omega
          case d2 => rw [hmdl]; omega
          case d3 => exact X6.out.size
          intro v2 w7 hown2 hgr2
          have HO7 := Lib.hid (show RowI w w7 xs (i + nd) (out ++ [s]) (nx ++ md) v' v2 from ⟨by
            have := own_grown2 HO6.out G2.out hgr2 (by decide)
            rw [List.length_append, cells_app]; exact this, by rw [List.length_append, List.map_append]; exact hown2, ext_grown2 X6.out G2.out hgr2, HMid.out⟩)
          clear hown2 hgr2 hmdl
          have hkw : IntKind.i64.wrap ((K : Int) + 1) = (K : Int) + 1 := IntWalk.i64_in _ ⟨by omega, by omega⟩
          go_wp2
          go_roundg (far9 n (i + nd) (nx ++ md).length)
          case measure =>
            have := HFar.out
            rw [← Hn.out, ← Hnn.out] at this
            have h2 := Hg.out
            omega
          case rel => exact ⟨i + nd, out ++ [s], nx ++ md, rfl, by go_num, by rw [List.length_append, ← HK.out]; rfl, by omega, HO7⟩
    · obtain rfl : n = i := by omega
      have HF := Lib.hid (show RetRow w xs (.returned (.tuple #[u6, .slice an nn cn])) wr from by
        obtain ⟨H1, H2, H3, H4⟩ := H.out
        have hd := H4
        rw [Hn.out] at hd
        exact ⟨out, nx, _, _, rfl, hd.done (by have := Hn.out; omega) HV.out, (RV.of_own H1).1, (IV.of_own H2).1, H3⟩)
      clear H
      go_wp2
      go_ret2
      exact HF.out
end Go.Proofs.Ytlmkcojimhbmiaa
/- Charts of plain data in plain Lean: rows that follow one another make a valid chart. -/
namespace Go.Proofs.Ytlmkcojimhbmiaa
set_option linter.unusedVariables false
set_option linter.unusedSimpArgs false
set_option maxRecDepth 8000
open Go Go.RowKit

/-- Numbers of loops of slots. -/
def Ln (xs : List Int) : Prop := 1 ≤ xs.length ∧ xs.length ≤ 8 ∧ Vl xs
/-- Rows that follow one another: what the first one stands on, and what the last one makes. -/
inductive Chn : List Int → List (List St) → List Int → Prop
  | nil (xs : List Int) : Chn xs [] xs
  | cons {xs nx ys : List Int} {r : List St} {rs : List (List St)} : Ln xs → RowOf xs r nx → Chn nx rs ys → Chn xs (r :: rs) ys
theorem Chn.snoc {xs ys nx : List Int} {rows : List (List St)} {r : List St} (h : Chn xs rows ys) (hl : Ln ys) (hr : RowOf ys r nx) : Chn xs (rows ++ [r]) nx := by
  induction h with
  | nil xs => exact .cons hl hr (.nil _)
  | cons a b c ih => exact .cons a b (ih hl hr)
theorem RowOf.ln {xs nx : List Int} {r : List St} (h : RowOf xs r nx) : Ln nx := by
  obtain ⟨_, _, _, h4, h5, h6, h7, _⟩ := h
  exact ⟨by omega, h4, h6⟩
theorem Chn.lr {xs ys : List Int} {rows : List (List St)} (h : Chn xs rows ys) : lr rows xs = true := by
  induction h with
  | nil xs => rfl
  | cons a b c ih => rw [_root_.Go.Proofs.Ytlmkcojimhbmiaa.lr, b.2.2.1]; exact ih
theorem RowOf.rchk {xs nx : List Int} {r : List St} (hl : Ln xs) (h : RowOf xs r nx) : rchk r = 0 := by
  obtain ⟨h1, h2, h3, h4, h5, h6, h7, h8⟩ := h
  rw [rchk_sum (by omega) (by omega) (fun i hi => h1 _ (si_mem hi)), if_neg]
  have := hl.1; have := hl.2.1
  omega
theorem Chn.good {xs ys : List Int} {rows : List (List St)} (h : Chn xs rows ys) : (∀ i, i < rows.length → _root_.Go.Proofs.Ytlmkcojimhbmiaa.rchk (sw rows i) = 0) ∧ (∀ k, k + 1 < rows.length → rneed (sw rows (k + 1)) = rmake (sw rows k)) ∧ (0 < rows.length → rneed (sw rows 0) = xs.length) := by
  induction h with
  | nil xs => exact ⟨fun i hi => by simp at hi, fun i hi => by simp at hi, fun hi => by simp at hi⟩
  | @cons xs nx ys r rs a b c ih =>
    obtain ⟨i1, i2, i3⟩ := ih
    refine ⟨fun i hi => ?_, fun k hk => ?_, fun _ => b.2.1⟩
    · cases i with
      | zero => exact b.rchk a
      | succ i => exact i1 i (by simpa using hi)
    · cases k with
      | zero =>
        have h0 : 0 < rs.length := by simpa using hk
        show rneed (sw rs 0) = rmake r
        rw [i3 h0, b.2.2.2.2.2.2.2]
      | succ k => exact i2 k (by simpa using hk)
/-- Such a chart is valid. -/
theorem Chn.ok {n : Nat} {ys : List Int} {rows : List (List St)} (h : Chn (List.replicate n 1) rows ys) (h1 : rows.length ≤ 31) (h2 : rows.length % 2 = 1) : (cloads rows).1 = 0 := by
  obtain ⟨g1, g2, g3⟩ := h.good
  have hc : cerr rows = 0 := cerr_ok h1 h2 g1 g2
  have hf : first rows = List.replicate n 1 := by
    unfold first
    rw [g3 (by omega)]; simp
  rw [cloads_lr hc, hf, if_pos h.lr]
/-- How many rows a chart of plain data has. -/
def many (n : Nat) : Nat := if min n 9 % 2 = 0 then min n 9 + 1 else min n 9
theorem many_bd (n : Nat) : many n ≤ 9 ∧ many n % 2 = 1 := by unfold many; split <;> omega
end Go.Proofs.Ytlmkcojimhbmiaa
/- More for walks: blocks of two cells (a struct of two fields that lies in memory). -/
namespace Go.Proofs.Ytlmkcojimhbmiaa
set_option linter.unusedVariables false
set_option linter.unusedSimpArgs false
open Go Go.RowKit

/-- Block b holds a struct of two fields. -/
def B2 (w : World) (b : Nat) (x y : Value) (t : TypeId) : Prop := w.heap[b]? = some (.cells #[x, y] t (0, 0))
theorem B2.c0 {w : World} {b : Nat} {x y : Value} {t : TypeId} (h : B2 w b x y t) : w.cell? ⟨b, 0, none⟩ = some x := by unfold B2 at h; simp [World.cell?, h]
theorem B2.c1 {w : World} {b : Nat} {x y : Value} {t : TypeId} (h : B2 w b x y t) : w.cell? ⟨b, 1, none⟩ = some y := by unfold B2 at h; simp [World.cell?, h]
theorem B2.f0 {w : World} {b : Nat} {x y : Value} {t : TypeId} (h : B2 w b x y t) : w.frozen? ⟨b, 0, none⟩ = false := by unfold B2 at h; simp [World.frozen?, h]
theorem B2.f1 {w : World} {b : Nat} {x y : Value} {t : TypeId} (h : B2 w b x y t) : w.frozen? ⟨b, 1, none⟩ = false := by unfold B2 at h; simp [World.frozen?, h]
theorem B2.ext {w w' : World} {b : Nat} {x y : Value} {t : TypeId} (h : B2 w b x y t) (e : Ext w w') : B2 w' b x y t := Ext.block e h
theorem B2.new (w : World) (x y : Value) (t : TypeId) : B2 (w.alloc (.cells #[x, y] t)) w.heap.size x y t := Deep.blk_alloc_new _ _
theorem B2.lt {w : World} {b : Nat} {x y : Value} {t : TypeId} (h : B2 w b x y t) : b < w.heap.size := World.block_lt_of_cell? w _ h.c0
theorem B2.alloc {w : World} {b : Nat} {x y : Value} {t : TypeId} (h : B2 w b x y t) (o : Obj) : B2 (w.alloc o) b x y t := h.ext ((Ext.refl w).alloc o)
theorem B2.set0 {w : World} {b : Nat} {x y u : Value} {t : TypeId} (h : B2 w b x y t) : B2 (w.setCell ⟨b, 0, none⟩ u) b u y t := by
  unfold B2 at *
  have hlt := lt_of_block h
  have h' : w.heap[b] = .cells #[x, y] t (0, 0) := by simpa [Array.getElem?_eq_getElem hlt] using h
  show (w.heap.modify b _)[b]? = _
  rw [Array.getElem?_eq_getElem (by simpa using hlt), Array.getElem_modify_self, h']
  rfl
theorem B2.set1 {w : World} {b : Nat} {x y u : Value} {t : TypeId} (h : B2 w b x y t) : B2 (w.setCell ⟨b, 1, none⟩ u) b x u t := by
  unfold B2 at *
  have hlt := lt_of_block h
  have h' : w.heap[b] = .cells #[x, y] t (0, 0) := by simpa [Array.getElem?_eq_getElem hlt] using h
  show (w.heap.modify b _)[b]? = _
  rw [Array.getElem?_eq_getElem (by simpa using hlt), Array.getElem_modify_self, h']
  rfl
theorem B2.set2 {w : World} {b : Nat} {x y : Value} {t : TypeId} (h : B2 w b x y t) (u v : Value) : B2 ((w.setCell ⟨b, 0, none⟩ u).setCell ⟨b, 1, none⟩ v) b u v t := h.set0.set1
theorem B2.setOther {w : World} {b : Nat} {x y u : Value} {t : TypeId} {a : Addr} (h : B2 w b x y t) (hn : b ≠ a.block) : B2 (w.setCell a u) b x y t := by
  unfold B2 at *
  rw [Deep.blk_setCell_other _ _ _ _ hn]; exact h
theorem B2.setOther2 {w : World} {b : Nat} {x y : Value} {t : TypeId} (h : B2 w b x y t) (c : Nat) (hn : b ≠ c) (u v : Value) : B2 ((w.setCell ⟨c, 0, none⟩ u).setCell ⟨c, 1, none⟩ v) b x y t := (h.setOther hn).setOther hn
theorem Ext.set2 {w w' : World} (h : Ext w w') (c : Nat) (hc : w.heap.size ≤ c) (u v : Value) : Ext w ((w'.setCell ⟨c, 0, none⟩ u).setCell ⟨c, 1, none⟩ v) := (h.setCell hc _).setCell hc _

/-- Strings: equal or not, in the walk's words. -/
theorem str_eq {a b : ByteArray} (h : a = b) : (a.toList == b.toList) = true := by rw [h]; simp
theorem str_ne {a b : ByteArray} (h : a ≠ b) : (a.toList == b.toList) = false := by
  rw [beq_eq_false_iff_ne]
  intro e
  rw [ByteArray.toList_eq, ByteArray.toList_eq] at e
  exact h (ByteArray.ext (Array.toList_inj.1 e))
theorem str_nonempty {a : ByteArray} (h : 0 < a.size) : a.toList.isEmpty = false := by
  rw [ByteArray.toList_eq, List.isEmpty_eq_false_iff]
  intro e
  have : a.data.toList.length = 0 := by rw [e]; rfl
  rw [Array.length_toList] at this
  have h2 : a.data.size = a.size := rfl
  omega
end Go.Proofs.Ytlmkcojimhbmiaa
