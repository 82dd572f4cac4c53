/- Texts of this claim in one file: libraries and walks. -/
import Derived.Deep.CutRange
import Derived.Deep.CutBlock
import Derived.Test.YtlmkcojimhbmiaaL1
import Derived.Test.YtlmkcojimhbmiaaL3
import Derived.Test.YtlmkcojimhbmiaaL4
import Derived.Test.YtlmkcojimhbmiaaL8
/- ganseylaw13.C.Of: the walk. -/
namespace Go.Proofs.Ytlmkcojimhbmiaa
set_option linter.unusedVariables false
set_option linter.unusedSimpArgs false
set_option maxRecDepth 8000
open Go Go.RowKit

/-- A list of lists that lies in memory, opened. -/
theorem ISV.outs {k : IntKind} {w : World} {v : Value} {c : Nat} {vs : Nat → Value} {caps : Nat → Nat} {rows : List (List Int)} (h : ISV k w v c vs caps rows) : ∃ ao n, v = .slice ao n c ∧ n = rows.length ∧ n ≤ c ∧ c ≤ maxLen ∧
    ∀ i, i < n → ∃ b o a m d, ao = some ⟨b, o, none⟩ ∧ w.cell? ⟨b, o + i, none⟩ = some (.slice a m d) ∧ IS k w (.slice a m d) d (ri rows i) := by
  obtain ⟨h1, h2, ao, hv, h3⟩ := h.open
  refine ⟨ao, _, hv, rfl, h1, h2, fun i hi => ?_⟩
  rcases h3 with ⟨_, h4, _⟩ | ⟨b, o, h5, h6⟩
  · omega
  · obtain ⟨a, m, c', hvi, hm, hc, his⟩ := (h.2 i hi).out
    exact ⟨b, o, a, m, c', h5, by rw [h6 i hi, hvi], his⟩
theorem own_base' {w : World} {B B' n z : Nat} {e : TypeId} {v : Value} {xs : List Value} (h : w.ownsRow B e z v n xs) (hb : B' ≤ B) : w.ownsRow B' e z v n xs := by
  obtain ⟨h1, h2 | ⟨g, cap, cur, h3, h4, h5⟩⟩ := h
  · exact ⟨h1, .inl h2⟩
  · exact ⟨h1, .inr ⟨g, cap, cur, h3, Nat.le_trans hb h4, h5⟩⟩
theorem CO.base {w W wr : World} {v : Value} {rows : List (List St)} (h : CO W wr v rows) (x : Ext w W) : CO w wr v rows := by
  obtain ⟨h1, vs, h2, h3⟩ := h
  exact ⟨x.trans h1, vs, own_base' h2 x.size, h3⟩
/-- What C.Of returns. -/
def RetC0 (w0 : World) (n : Nat) (e : Ending) (w' : World) : Prop := ∃ v rows, e = .returned (.agg #[v]) ∧ CO w0 w' v rows ∧ (cloads rows).1 = 0 ∧ rows.length = many n
/-- What a round of C.Of keeps. -/
def ROf (W wr : World) (q : Nat) (x0 : List Int) (k : Nat) (vl : Value) (rows : List (List St)) (xs : List Int) (vr : Value) : Prop :=
  CO W wr vr rows ∧ wr.heap[q]? = some (.cells #[vr] 24 (0, 0)) ∧ IV wr vl xs ∧ Ln xs ∧ Chn x0 rows xs ∧ rows.length = k
theorem IV.kept {w w' : World} {u : Value} {l : List Int} (h : IV w u l) (hk : ∀ (b : Nat) (cs : Array Value) (q : Nat × Nat), w.heap[b]? = some (Obj.cells cs 3 q) → w'.heap[b]? = some (Obj.cells cs 3 q)) : IV w' u l := by
  rcases h with h | ⟨q, c, f, h1, h2, h3, h4, h5⟩
  · exact .inl h
  · obtain ⟨cur, hb, _⟩ := id h4
    exact .inr ⟨q, c, f, h1, h2, h3, h4.of_block ((hk _ _ _ hb).trans hb.symm), h5⟩
theorem blk_setOther {w : World} {a : Addr} {u : Value} {b : Nat} {cs cs' : Array Value} {t t' : TypeId} {q q' : Nat × Nat} (hb : w.heap[b]? = some (Obj.cells cs t q)) (ha : w.heap[a.block]? = some (Obj.cells cs' t' q')) (ht : t ≠ t') : (w.setCell a u).heap[b]? = some (Obj.cells cs t q) := by
  rw [Deep.blk_setCell_other _ _ _ _ (fun e => ?_)]
  · exact hb
  · rw [e, ha] at hb
    simp only [Option.some.injEq, Obj.cells.injEq] at hb
    exact ht hb.2.1.symm
theorem blk_one {w : World} {b : Nat} {x : Value} {t : TypeId} (h : w.heap[b]? = some (.cells #[x] t (0, 0))) (u : Value) : (w.setCell ⟨b, 0, none⟩ u).heap[b]? = some (.cells #[u] t (0, 0)) := by
  have hlt := lt_of_block h
  have h' : w.heap[b] = .cells #[x] t (0, 0) := by simpa [Array.getElem?_eq_getElem hlt] using h
  show (w.heap.modify b _)[b]? = _
  rw [Array.getElem?_eq_getElem (by simpa using hlt), Array.getElem_modify_self, h']
  rfl
theorem ROf.step {W w6 : World} {q k : Nat} {x0 xs nx : List Int} {rows : List (List St)} {r : List St} {vr vn v6 : Value} (h1 : CO W w6 v6 (rows ++ [r])) (h2 : w6.heap[q]? = some (.cells #[vr] 24 (0, 0))) (h3 : IV w6 vn nx) (hr : RowOf xs r nx) (hl : Ln xs) (hc : Chn x0 rows xs) (hk : rows.length = k) (hq : W.heap.size ≤ q) :
    ROf W (w6.setCell ⟨q, 0, none⟩ v6) q x0 (k + 1) vn (rows ++ [r]) nx v6 :=
  ⟨h1.setOther (a := ⟨q, 0, none⟩) h2 (by decide) (by decide) hq, blk_one h2 v6, h3.kept fun b cs q' hb => blk_setOther hb (a := ⟨q, 0, none⟩) h2 (by decide), hr.ln, hc.snoc hl hr, by simp [hk]⟩
set_option maxHeartbeats 4000000 in
theorem COf_calls (wd : Int) (v : Value) (c : Nat) (chs : List (List Int)) (w : World) (h : ISS .u8 w v c chs) (hw : 0 ≤ wd ∧ wd ≤ 255) (hb : ∀ k, k < chs.length → ∀ i, i < (ri chs k).length → 0 ≤ gi (ri chs k) i ∧ gi (ri chs k) i ≤ 255) :
    Calls Try.prog 54 #[.agg #[.int .u8 wd, v]] w (RetC0 w chs.length) := by
  obtain ⟨vs, caps, hV⟩ := h
  obtain ⟨ao, n, rfl, hn, hc, hcm, hat⟩ := hV.outs
  unfold maxLen at hcm
  obtain ⟨W, hW⟩ : ∃ W, W = w.alloc (.cells #[.int .u8 wd, .slice ao n c] 46) := ⟨_, rfl⟩
  have xW : Ext w W := by rw [hW]; exact (Ext.refl w).alloc _
  have hB := B2.new w (.int .u8 wd) (.slice ao n c) 46
  rw [← hW] at hB
  have hWs : W.heap.size = w.heap.size + 1 := by rw [hW]; simp
  obtain ⟨W2, hW2⟩ : ∃ W2, W2 = W.alloc (.cells #[.slice none 0 0] 24) := ⟨_, rfl⟩
  have x2 : Ext W W2 := by rw [hW2]; exact (Ext.refl W).alloc _
  have hres : W2.heap[w.heap.size + 1]? = some (.cells #[.slice none 0 0] 24 (0, 0)) := by rw [hW2]; exact blk_at hWs.symm
  have hWs2 : W2.heap.size = w.heap.size + 2 := by rw [hW2]; simp [hWs]
  have HB := Lib.hid (fun w' (x : Ext W2 w') => (hB.ext x2).ext x)
  have HRes := Lib.hid hres; have XW := Lib.hid (xW.trans x2)
  obtain ⟨N, hN⟩ : ∃ N : Nat, (N : Int) = wd % 8 := ⟨(wd % 8).toNat, by omega⟩
  have hN7 : N ≤ 7 := by omega
  have hNw : wd % 8 = (N : Int) := hN.symm
  have w2 : IntKind.i64.wrap (N : Int) = (N : Int) := IntWalk.i64_in _ ⟨by omega, by omega⟩
  have HN := Lib.hid hN; have HA := Lib.hid hat; have Hb := Lib.hid hb; have Hn := Lib.hid hn; have HW := Lib.hid hW; have HW2 := Lib.hid hW2; have HWs2 := Lib.hid hWs2
  have hb2 := HB.out _ (Ext.refl _)
  have e0 := hb2.c0; have e1 := hb2.c1
  rw [hW2, hW] at e0 e1
  obtain ⟨hw1, hw2⟩ := hw
  clear hat hb hn hW hW2 xW x2 hB hWs hres hN hb2 hV hWs2
  go_enter Try.func54, Try.ntmps54
  go_wp2
  rw [← HW.out, ← HW2.out]
  clear e0 e1
  go_loopw [3, 4] (fun l i wr => ∃ k : Nat, k ≤ N + 1 ∧ i = .int .i64 k ∧ Hid (wr.ownsRow W2.heap.size 3 1 l k ((List.replicate k (1 : Int)).map (Value.int .i64)) ∧ Ext W2 wr)) (fun _ i _ => N + 1 - (intOf i).toNat)
  case atStart => exact ⟨0, by omega, rfl, Lib.hid ⟨World.ownsRow_nil _ _ _ _, Ext.refl _⟩⟩
  case round =>
    obtain ⟨k, hk, rfl, H⟩ := hrel
    have hb2 := HB.out _ H.out.2
    have e0 := hb2.c0; have e1 := hb2.c1
    clear hb2
    by_cases hlt : k < N + 1
    · have t1 : (k : Int) ≤ (N : Int) := by omega
      have hsz := H.out.2.size
      go_wp2_with (at_builtin; refine app_own eiInt rfl _ _ rfl W2.heap.size _ k _ rfl (H.out.1.alloc _) _ _ _ rfl (VS.one _ _ _) (one1 _) ?d1 ?d2 ?d3 ?_)
      any_goals (first | omega | (simp; done) | (simp only [List.length_cons, List.length_nil]; omega) | (simp; omega))
      intro v' w' hown hbel
      have HO := Lib.hid (show w'.ownsRow W2.heap.size 3 1 v' (k + 1) ((List.replicate (k + 1) (1 : Int)).map (Value.int .i64)) ∧ Ext W2 w' from ⟨by rw [rep_snoc, List.map_replicate]; exact hown, Below.trans (H.out.2.alloc _) hbel⟩)
      clear hown hbel
      go_wp2
      go_roundw
      case rel => exact ⟨k + 1, by omega, by go_num, HO⟩
      case measure => simp [intOf]; omega
    · obtain rfl : k = N + 1 := by omega
      have t1 : ¬ ((N + 1 : Nat) : Int) ≤ (N : Int) := by omega
      have hiv := (IV.of_own H.out.1).1
      have X1 := Lib.hid H.out.2
      have HIV := Lib.hid hiv
      have hlnx : Ln (List.replicate (N + 1) (1 : Int)) := ⟨by simp, by simp; omega, fun x hx => by rw [List.eq_of_mem_replicate hx]; omega⟩
      have HLn := Lib.hid hlnx
      obtain ⟨x0, hx0⟩ : ∃ x0, x0 = List.replicate (N + 1) (1 : Int) := ⟨_, rfl⟩
      rw [← hx0] at HIV HLn
      have HX0 := Lib.hid hx0
      clear hiv hlnx hx0 hlt hk H
      obtain ⟨wl, hwl⟩ : ∃ wl : World, wl = wr := ⟨_, rfl⟩
      rw [← hwl] at HIV X1 e0 e1 ⊢
      clear hwl
      obtain ⟨M, hM⟩ : ∃ M : Nat, M = min n 9 := ⟨_, rfl⟩
      have hmin : (if (9 : Int) < n then (9 : Int) else (n : Int)) = (M : Int) := by split <;> omega
      have hmin2 : min (n : Int) 9 = (M : Int) := by omega
      have hM9 : M ≤ 9 := by omega
      have hmm : many n = if M % 2 = 0 then M + 1 else M := by unfold many; rw [hM]
      have t2 : IntKind.i64.wrap ((M : Int) % 2) = (M : Int) % 2 := IntWalk.i64_in _ ⟨by omega, by omega⟩
      have t3 : IntKind.i64.wrap ((M : Int) + 1) = (M : Int) + 1 := IntWalk.i64_in _ ⟨by omega, by omega⟩
      have Hmm := Lib.hid hmm
      clear hM hmm
      go_upto_if 28 with fail
      go_cut [5] from 4 to 58 (fun x wx => x = .int .i64 (many n : Nat) ∧ wx = wl)
      case first =>
        by_cases he : M % 2 = 0
        · have he' : ((M : Int) % 2 == 0) = true := by rw [beq_iff_eq]; omega
          have hz := Hmm.out
          rw [if_pos he] at hz
          have Hz := Lib.hid hz
          clear hz he
          go_wp2_with fail
          go_meet
          case rel => exact ⟨by rw [Hz.out]; congr 1, rfl⟩
        · have he' : ((M : Int) % 2 == 0) = false := beq_eq_false_iff_ne.2 (by omega)
          have hz := Hmm.out
          rw [if_neg he] at hz
          have Hz := Lib.hid hz
          clear hz he
          go_wp2_with fail
          go_meet
          case rel => exact ⟨by rw [Hz.out], rfl⟩
      case rest =>
        obtain ⟨rfl, rfl⟩ := hcut
        have hmb := many_bd n
        obtain ⟨MM, hMM⟩ : ∃ MM, MM = many n := ⟨_, rfl⟩
        rw [← hMM] at hmb ⊢
        have HMM := Lib.hid hMM
        obtain ⟨hmb1, hmb2⟩ := hmb
        clear hMM hmin hmin2 hM9 t1 t2 t3 Hmm w2 hNw
        have hq0 : CO W2 (wc.alloc (.cells #[.slice none 0 0] 24)) (.slice none 0 0) [] := CO.nil (X1.out.alloc _)
        have HStart := Lib.hid (show ROf W2 (wc.alloc (.cells #[.slice none 0 0] 24)) wc.heap.size x0 0 u3 [] x0 (.slice none 0 0) from ⟨hq0, blk_at rfl, HIV.out.ext ((Ext.refl wc).alloc _), HLn.out, .nil _, rfl⟩)
        have hqs := X1.out.size
        clear hq0
        go_wp2
        clear e0 e1
        obtain ⟨q, hq⟩ : ∃ q, q = wc.heap.size := ⟨_, rfl⟩
        rw [← hq] at HStart hqs ⊢
        clear hq
        go_loopw [3, 7, 8, 9, 10] (fun s3 i _ _ _ wr => ∃ (k : Nat) (rows : List (List St)) (xs : List Int) (vr : Value), k ≤ MM ∧ i = .int .i64 k ∧ Hid (ROf W2 wr q x0 k s3 rows xs vr)) (fun _ i _ _ _ _ => MM - (intOf i).toNat)
        case atStart => exact ⟨0, _, _, _, by omega, rfl, HStart⟩
        case round =>
          obtain ⟨k, rows, xs, vr, hk, rfl, H⟩ := hrel
          have hb2 := HB.out _ H.out.1.1
          have e0 := hb2.c0; have e1 := hb2.c1
          clear hb2
          by_cases hlt : k < MM
          · have t1 : (k : Int) < (MM : Int) := by omega
            go_upto_if 40 with fail
            go_cut [8] from 31 to 58 (fun x wx => (∃ c ch, Hid (IS .u8 wr x c ch) ∧ Hid (∀ i, i < ch.length → 0 ≤ gi ch i ∧ gi ch i ≤ 255)) ∧ wx = wr)
            case first =>
              by_cases hkn : k < n
              · have t2 : (k : Int) < (n : Int) := by omega
                obtain ⟨b, o, a, m, d, rfl, y1, y2⟩ := HA.out k hkn
                have xx := XW.out.trans H.out.1.1
                replace y1 := xx.cell y1
                have HI := Lib.hid (y2.ext xx)
                have HBd := Lib.hid (Hb.out k (by rw [← Hn.out]; exact hkn))
                clear y2 xx
                go_wp2_with fail
                go_meet
                case rel => exact ⟨⟨_, _, HI, HBd⟩, rfl⟩
              · have t2 : ¬ (k : Int) < (n : Int) := by omega
                go_wp2_with fail
                go_meet
                case rel => exact ⟨⟨0, [], Lib.hid (IS.nil _ _), Lib.hid (fun i hi => by simp at hi)⟩, rfl⟩
            case rest =>
              obtain ⟨⟨cc, ch, HI, HBd⟩, rfl⟩ := hcut
              obtain ⟨c3, hI3⟩ := H.out.2.2.1.is
              have hrow := row_calls _ _ _ _ xs ch wc hI3 HI.out ⟨H.out.2.2.2.1.1, H.out.2.2.2.1.2.1⟩ H.out.2.2.2.1.2.2 HBd.out
              have HRow := Lib.hid hrow
              clear hI3 hrow
              go_wp2_with fail
              refine HRow.out.mono ?_
              intro e w5 hh
              obtain ⟨r, nx, vr2, vn2, rfl, hro, hrv, hiv, x5⟩ := hh
              obtain ⟨ra, rn, rc, rfl, hrn⟩ := hrv.form
              obtain ⟨ia, in_, ic, rfl, hin⟩ := hiv.form
              have hco := H.out.1.later x5
              obtain ⟨va, vn, vc, hvf, hvn⟩ := hco.form
              subst hvf
              have hA1 := x5.block H.out.2.1
              have a1 : w5.cell? ⟨q, 0, none⟩ = some (.slice va vn vc) := by simp [World.cell?, hA1]
              have hlen : rows.length ≤ 100000 := by have := H.out.2.2.2.2.2; omega
              have HU := Lib.hid (And.intro hco (And.intro hrv (And.intro hA1 (And.intro hiv hro))))
              clear hro hrv hiv hco hA1 hrn hin hvn x5 HRow e0 e1
              go_wp2_with (at_builtin; go_loud (refine app_row rfl _ _ rfl W2 _ rows rfl HU.out.1 _ _ HU.out.2.1 w5.heap.size rfl rfl hlen ?_))
              intro v6 w6 hco6 hkeep
              have hA6 := hkeep _ _ _ _ _ HU.out.2.2.1 (by decide)
              have hI6 := HU.out.2.2.2.1.kept (w' := w6) (fun b cs q' hb => hkeep b _ _ _ _ hb (by decide))
              obtain ⟨a6, n6, c6, rfl, hn6⟩ := hco6.form
              have b1 : w6.cell? ⟨q, 0, none⟩ = some (.slice va vn vc) := by simp [World.cell?, hA6]
              have b2 : w6.frozen? ⟨q, 0, none⟩ = false := by simp [World.frozen?, hA6]
              have HN := Lib.hid (ROf.step hco6 hA6 hI6 HU.out.2.2.2.2 H.out.2.2.2.1 H.out.2.2.2.2.1 H.out.2.2.2.2.2 hqs)
              clear hco6 hkeep hA6 hI6 hn6 a1 HU
              go_wp2
              go_roundw
              case rel => exact ⟨k + 1, _, _, _, by omega, by go_num, HN⟩
              case measure => simp [intOf]; omega
          · obtain rfl : MM = k := by omega
            obtain ⟨va, vn, vc, hvf, hvn⟩ := H.out.1.form
            subst hvf
            have t1 : ¬ (MM : Int) < (MM : Int) := by omega
            have a1 : wr.cell? ⟨q, 0, none⟩ = some (.slice va vn vc) := by simp [World.cell?, H.out.2.1]
            have hR := H.out.1.1.block HRes.out
            have a2 : wr.cell? ⟨w.heap.size + 1, 0, none⟩ = some (.slice none 0 0) := by simp [World.cell?, hR]
            have a3 : wr.frozen? ⟨w.heap.size + 1, 0, none⟩ = false := by simp [World.frozen?, hR]
            have hR2 := blk_one hR (.slice va vn vc)
            have a4 : (wr.setCell ⟨w.heap.size + 1, 0, none⟩ (.slice va vn vc)).cell? ⟨w.heap.size + 1, 0, none⟩ = some (.slice va vn vc) := by simp [World.cell?, hR2]
            have hF : RetC0 w chs.length (.returned (.agg #[.slice va vn vc])) (wr.setCell ⟨w.heap.size + 1, 0, none⟩ (.slice va vn vc)) :=
              ⟨_, rows, rfl, (H.out.1.base XW.out).setOther (a := ⟨w.heap.size + 1, 0, none⟩) hR (by decide) (by decide) (Nat.le_succ _), by
                have hch := H.out.2.2.2.2.1
                rw [HX0.out] at hch
                exact hch.ok (by have := H.out.2.2.2.2.2; omega) (by have := H.out.2.2.2.2.2; omega), by rw [H.out.2.2.2.2.2, HMM.out, Hn.out]⟩
            have HF := Lib.hid hF; have A4 := Lib.hid a4
            clear hR hR2 hF hvn e0 e1 a4
            go_wp2
            have a4 := A4.out
            exact bodyPost_ret (v := .agg #[.slice va vn vc]) (by simp [results, Try.results54, go_sem, a4]) rfl HF.out
end Go.Proofs.Ytlmkcojimhbmiaa
/- ganseylaw15.block. -/
namespace Go.Proofs.Ytlmkcojimhbmiaa
set_option linter.unusedVariables false
set_option linter.unusedSimpArgs false
set_option maxRecDepth 8000
open Go Go.RowKit

/-- The first h lists, empty ones behind the end. -/
def cutF (h : Nat) (chs : List (List Int)) : List (List Int) := (List.range h).map fun i => ri chs i
theorem cutF_len (h : Nat) (chs : List (List Int)) : (cutF h chs).length = h := by simp [cutF]
theorem cutF_at {h i : Nat} (chs : List (List Int)) (hi : i < h) : ri (cutF h chs) i = ri chs i := by unfold cutF; rw [ri_range_map _ hi]
theorem ri_out {chs : List (List Int)} {i : Nat} (h : chs.length ≤ i) : ri chs i = [] := by unfold ri; simp [List.getD, List.getElem?_eq_none h]
theorem spl_eq {h m : Nat} (hm : m ≤ h) (f : Nat → Value) (z : Value) : splice (List.replicate h z) 0 ((List.range m).map f) = (List.range h).map fun i => if i < m then f i else z := by
  unfold splice
  apply List.ext_getElem
  · simp; omega
  · intro i h1 h2
    simp only [List.take_zero, List.nil_append, List.length_map, List.length_range, Nat.zero_add, List.drop_replicate, List.getElem_map, List.getElem_range]
    by_cases e : i < m
    · rw [if_pos e, List.getElem_append_left (by simpa using e)]; simp
    · rw [if_neg e, List.getElem_append_right (by simpa using e)]; simp
theorem made_rep (z : Value) (N : Nat) : madeCells #[z] N = (List.replicate N z).toArray := by
  apply Array.ext'
  rw [toList_madeCells_one]
theorem eiB8 : EI Try.prog 44 62 (.slice Option.none 0 0) 24 := ⟨Try.underlying44, by kernel_rfl, rfl⟩
theorem blk_range_at {w : World} {g h : Nat} {t : TypeId} {f : Nat → Value} (hb : w.heap[g]? = some (.cells ((List.range h).map f).toArray t (0, 0))) {i : Nat} (hi : i < h) : w.cell? ⟨g, 0 + i, none⟩ = some (f i) := by
  simp only [World.cell?, hb, Nat.zero_add]
  simp [hi]
set_option maxHeartbeats 4000000 in
theorem blkC_calls (wd : Int) (v : Value) (c : Nat) (chs : List (List Int)) (h : Nat) (w : World) (hI : ISS .u8 w v c chs) (hw : 0 ≤ wd ∧ wd ≤ 255) (hb : ∀ k, k < chs.length → ∀ i, i < (ri chs k).length → 0 ≤ gi (ri chs k) i ∧ gi (ri chs k) i ≤ 255) (h9 : h ≤ 9) :
    Calls Try.prog 40 #[.agg #[.int .u8 wd, v], .int .i64 h] w (RetC0 w h) := by
  obtain ⟨vs, caps, hV⟩ := hI
  obtain ⟨hc1, hc2, ao, rfl, h3⟩ := hV.open
  have hIS := hV.2
  obtain ⟨n, hn⟩ : ∃ n, n = chs.length := ⟨_, rfl⟩
  rw [← hn] at hc1 h3 hIS hb ⊢
  have hone : ∀ i, i < n → (vs i).oneCell' = true := fun i hi => by
    obtain ⟨a, m, d, he, _⟩ := (hIS i hi).out
    rw [he]; rfl
  have hout : ∀ i, n ≤ i → ri chs i = [] := fun i hi => ri_out (by omega)
  obtain ⟨W, hW⟩ : ∃ W, W = w.alloc (.cells #[.int .u8 wd, .slice ao n c] 46) := ⟨_, rfl⟩
  have xW : Ext w W := by rw [hW]; exact (Ext.refl w).alloc _
  have hB := B2.new w (.int .u8 wd) (.slice ao n c) 46
  rw [← hW] at hB
  have hWs : W.heap.size = w.heap.size + 1 := by rw [hW]; simp
  obtain ⟨W2, hW2⟩ : ∃ W2, W2 = W.alloc (.cells #[.slice none 0 0] 24) := ⟨_, rfl⟩
  have x2 : Ext W W2 := by rw [hW2]; exact (Ext.refl W).alloc _
  have hres : W2.heap[w.heap.size + 1]? = some (.cells #[.slice none 0 0] 24 (0, 0)) := by rw [hW2]; exact blk_at hWs.symm
  have hWs2 : W2.heap.size = w.heap.size + 1 + 1 := by rw [hW2]; simp [hWs]
  have hmk := run_make_lc (P := Try.prog) eiB8 .i64 .i64 h h (by omega) (by omega) (by omega) W2
  obtain ⟨W3, hW3⟩ : ∃ W3, W3 = W2.alloc (.cells (madeCells #[.slice none 0 0] h) 62) := ⟨_, rfl⟩
  have x3 : Ext W2 W3 := by rw [hW3]; exact (Ext.refl W2).alloc _
  have hG : W3.heap[w.heap.size + 1 + 1]? = some (.cells (List.replicate h (.slice none 0 0)).toArray 62 (0, 0)) := by rw [hW3, made_rep]; exact blk_at hWs2.symm
  obtain ⟨m, hm⟩ : ∃ m, m = min n h := ⟨_, rfl⟩
  obtain ⟨U, hU⟩ : ∃ U, U = (List.range m).map vs := ⟨_, rfl⟩
  have hU0 : U.length = m := by rw [hU]; simp
  have hU1 : U.length = Nat.min n h := by rw [hU0, hm]
  have hU2 : ∀ v ∈ U, v.oneCell' = true := fun v hv => by
    rw [hU] at hv
    obtain ⟨i, hi, rfl⟩ := List.mem_map.1 hv
    exact hone i (by have := List.mem_range.1 hi; omega)
  have hsrc : 0 < U.length → ∃ ad, ao = some ad ∧ ∀ j v, U[j]? = some v → W3.cell? (ad.add j) = some v := fun h0 => by
    rw [hU0] at h0
    rcases h3 with ⟨_, e1, _⟩ | ⟨b, o, e1, e2⟩
    · omega
    · refine ⟨_, e1, fun j v hj => ?_⟩
      have hjl := (List.getElem?_eq_some_iff.1 hj).1
      rw [hU] at hj
      have hjm : j < m := by omega
      have : vs j = v := by simpa [hjm] using hj
      rw [Addr.add_lit, ← this]
      exact (xW.trans (x2.trans x3)).cell (e2 j (by omega))
  have hU3 : splice (List.replicate h (.slice none 0 0)) 0 U = (List.range h).map fun i => if i < m then vs i else .slice none 0 0 := by rw [hU]; exact spl_eq (by omega) _ _
  have hlast : ∀ w', Ext w w' → w'.heap[w.heap.size + 1 + 1]? = some (.cells ((List.range h).map fun i => if i < m then vs i else .slice none 0 0).toArray 62 (0, 0)) → ISS .u8 w' (.slice (some ⟨w.heap.size + 1 + 1, 0, none⟩) h h) h (cutF h chs) := fun w' x hb' => by
    refine ⟨fun i => if i < m then vs i else .slice none 0 0, fun i => if i < m then caps i else 0, ISV.mk' (cutF_len h chs).symm (Nat.le_refl _) (by unfold maxLen; omega) (fun i hi => blk_range_at hb' hi) fun i hi => ?_⟩
    rw [cutF_at chs hi]
    show IS .u8 w' (if i < m then vs i else _) (if i < m then caps i else 0) _
    by_cases e : i < m
    · rw [if_pos e, if_pos e]; exact (hIS i (by omega)).ext x
    · rw [if_neg e, if_neg e, hout i (by omega)]; exact IS.nil _ _
  have hbd : ∀ k, k < (cutF h chs).length → ∀ i, i < (ri (cutF h chs) k).length → 0 ≤ gi (ri (cutF h chs) k) i ∧ gi (ri (cutF h chs) k) i ≤ 255 := fun k hk => by
    rw [cutF_len] at hk
    rw [cutF_at chs hk]
    by_cases e : k < n
    · exact hb k e
    · rw [hout k (by omega)]; intro i hi; simp at hi
  obtain ⟨N, hN⟩ : ∃ N : Nat, (N : Int) = wd % 4 := ⟨(wd % 4).toNat, by omega⟩
  have hN7 : N ≤ 3 := by omega
  have hNw : wd % 4 = (N : Int) := hN.symm
  have hCall := fun w' (hi : ISS .u8 w' (.slice (some ⟨w.heap.size + 1 + 1, 0, none⟩) h h) h (cutF h chs)) => COf_calls (N : Int) _ h (cutF h chs) w' hi (by omega) hbd
  rw [cutF_len] at hCall
  have HCall := Lib.hid hCall
  have HB := Lib.hid (fun w' (x : Ext W2 w') => (hB.ext x2).ext x)
  have HRes := Lib.hid (fun w' (x : Ext W2 w') => x.block hres); have XW := Lib.hid (xW.trans x2); have X3 := Lib.hid x3
  have HLast := Lib.hid hlast; have HG := Lib.hid hG; have HU1 := Lib.hid hU1; have HU2 := Lib.hid hU2; have HU3 := Lib.hid hU3; have HSrc := Lib.hid hsrc
  have HFit := Lib.hid (show 0 + U.length ≤ (List.replicate h (Value.slice none 0 0)).length by rw [hU0, List.length_replicate]; omega)
  have HWs2 := Lib.hid hWs2
  have hb2 := HB.out _ x3
  have e0 := hb2.c0; have e1 := hb2.c1
  have HW := Lib.hid hW; have HW2 := Lib.hid hW2; have HW3 := Lib.hid hW3
  rw [hW3, hW2, hW] at e0 e1
  rw [hW2, hW] at hmk
  clear hV h3 hIS hone hout hb hB hres hWs hG hU hU0 hU1 hU2 hU3 hsrc hlast hbd hCall hN hb2 hn hW3 hW2 hW xW x2 x3 hm hWs2
  go_enter Try.func40, Try.ntmps40
  go_wp2_with (rw [← HW.out, ← HW2.out, ← HW3.out]; refine wpList_copy_splice rfl _ _ 44 44 rfl 62 Try.underlying44 (by kernel_rfl) _ _ h h n c rfl rfl (w.heap.size + 1 + 1) 0 (List.replicate h (.slice none 0 0)) 62 HG.out U HU1.out (fun h0 => ⟨rfl, HSrc.out h0⟩) HFit.out HU2.out W2.heap.size W2 X3.out (by rw [HWs2.out]; exact Nat.le_refl _) ?_)
  intro w5 hG5 hB5
  have hx5 : Ext W2 w5 := hB5
  have hg5 := hG5.out
  rw [HU3.out] at hg5
  have X5 := Lib.hid hx5
  have HI := Lib.hid (HLast.out w5 (XW.out.trans hx5) hg5)
  have hb2 := HB.out _ hx5
  have e0 := hb2.c0; have e1 := hb2.c1
  clear hx5 hg5 hG5 hB5 hb2 HG HU1 HU2 HU3 HSrc HFit
  go_wp2_with fail
  refine (HCall.out _ HI.out).mono ?_
  intro e w6 hh
  obtain ⟨v6, rows, rfl, o6, r6, k6⟩ := hh
  obtain ⟨va, vn, vc, hvf, hvn⟩ := o6.form
  subst hvf
  have hR := HRes.out _ (X5.out.trans o6.1)
  have a2 : w6.cell? ⟨w.heap.size + 1, 0, none⟩ = some (.slice none 0 0) := by simp [World.cell?, hR]
  have a3 : w6.frozen? ⟨w.heap.size + 1, 0, none⟩ = false := by simp [World.frozen?, hR]
  have hR2 := blk_one hR (.slice va vn vc)
  have a4 : (w6.setCell ⟨w.heap.size + 1, 0, none⟩ (.slice va vn vc)).cell? ⟨w.heap.size + 1, 0, none⟩ = some (.slice va vn vc) := by simp [World.cell?, hR2]
  have hF : RetC0 w h (.returned (.agg #[.slice va vn vc])) (w6.setCell ⟨w.heap.size + 1, 0, none⟩ (.slice va vn vc)) :=
    ⟨_, rows, rfl, (o6.base (XW.out.trans X5.out)).setOther (a := ⟨w.heap.size + 1, 0, none⟩) hR (by decide) (by decide) (Nat.le_succ _), r6, k6⟩
  have HF := Lib.hid hF; have A4 := Lib.hid a4
  clear hR hR2 hF hvn e0 e1 a4 o6 r6 k6
  go_wp2
  have a4 := A4.out
  exact bodyPost_ret (v := .agg #[.slice va vn vc]) (by simp [results, Try.results40, go_sem, a4]) rfl HF.out
end Go.Proofs.Ytlmkcojimhbmiaa
/- ganseylaw15.M.Of. -/
namespace Go.Proofs.Ytlmkcojimhbmiaa
set_option linter.unusedVariables false
set_option linter.unusedSimpArgs false
set_option maxRecDepth 8000
open Go Go.RowKit

theorem blk3_0 {w : World} {b : Nat} {x y z : Value} {t : TypeId} (h : w.heap[b]? = some (.cells #[x, y, z] t (0, 0))) (u : Value) : (w.setCell ⟨b, 0, none⟩ u).heap[b]? = some (.cells #[u, y, z] t (0, 0)) := by
  have hlt := lt_of_block h
  have h' : w.heap[b] = .cells #[x, y, z] t (0, 0) := by simpa [Array.getElem?_eq_getElem hlt] using h
  show (w.heap.modify b _)[b]? = _
  rw [Array.getElem?_eq_getElem (by simpa using hlt), Array.getElem_modify_self, h']
  rfl
theorem blk3_1 {w : World} {b : Nat} {x y z : Value} {t : TypeId} (h : w.heap[b]? = some (.cells #[x, y, z] t (0, 0))) (u : Value) : (w.setCell ⟨b, 1, none⟩ u).heap[b]? = some (.cells #[x, u, z] t (0, 0)) := by
  have hlt := lt_of_block h
  have h' : w.heap[b] = .cells #[x, y, z] t (0, 0) := by simpa [Array.getElem?_eq_getElem hlt] using h
  show (w.heap.modify b _)[b]? = _
  rw [Array.getElem?_eq_getElem (by simpa using hlt), Array.getElem_modify_self, h']
  rfl
theorem blk3_2 {w : World} {b : Nat} {x y z : Value} {t : TypeId} (h : w.heap[b]? = some (.cells #[x, y, z] t (0, 0))) (u : Value) : (w.setCell ⟨b, 2, none⟩ u).heap[b]? = some (.cells #[x, y, u] t (0, 0)) := by
  have hlt := lt_of_block h
  have h' : w.heap[b] = .cells #[x, y, z] t (0, 0) := by simpa [Array.getElem?_eq_getElem hlt] using h
  show (w.heap.modify b _)[b]? = _
  rw [Array.getElem?_eq_getElem (by simpa using hlt), Array.getElem_modify_self, h']
  rfl
theorem CO.put3 {w wr : World} {v x y z : Value} {rows : List (List St)} {g : Nat} (h : CO w wr v rows) (hb : wr.heap[g]? = some (.cells #[x, y, z] 26 (0, 0))) (hg : w.heap.size ≤ g) (u0 u1 u2 : Value) : CO w (((wr.setCell ⟨g, 0, none⟩ u0).setCell ⟨g, 1, none⟩ u1).setCell ⟨g, 2, none⟩ u2) v rows :=
  ((h.setOther (a := ⟨g, 0, none⟩) hb (by decide) (by decide) hg).setOther (a := ⟨g, 1, none⟩) (blk3_0 hb u0) (by decide) (by decide) hg).setOther (a := ⟨g, 2, none⟩) (blk3_1 (blk3_0 hb u0) u1) (by decide) (by decide) hg
/-- The motif so far. -/
def MS (w0 wr : World) (q : Nat) (vL vT vR : Value) (L T R : List (List St)) : Prop :=
  CO w0 wr vL L ∧ CO w0 wr vT T ∧ CO w0 wr vR R ∧ wr.heap[q]? = some (.cells #[vL, vT, vR] 26 (0, 0)) ∧ w0.heap.size ≤ q
theorem MS.later {w0 wr w' : World} {q : Nat} {vL vT vR : Value} {L T R : List (List St)} (h : MS w0 wr q vL vT vR L T R) (x : Ext wr w') : MS w0 w' q vL vT vR L T R :=
  ⟨h.1.later x, h.2.1.later x, h.2.2.1.later x, x.block h.2.2.2.1, h.2.2.2.2⟩
theorem MS.setL {w0 wr : World} {q : Nat} {vL vT vR v : Value} {L T R L' : List (List St)} (h : MS w0 wr q vL vT vR L T R) (k : CO w0 wr v L') : MS w0 (wr.setCell ⟨q, 0, none⟩ v) q v vT vR L' T R :=
  ⟨k.setOther (a := ⟨q, 0, none⟩) h.2.2.2.1 (by decide) (by decide) h.2.2.2.2, h.2.1.setOther (a := ⟨q, 0, none⟩) h.2.2.2.1 (by decide) (by decide) h.2.2.2.2, h.2.2.1.setOther (a := ⟨q, 0, none⟩) h.2.2.2.1 (by decide) (by decide) h.2.2.2.2, blk3_0 h.2.2.2.1 v, h.2.2.2.2⟩
theorem MS.setR {w0 wr : World} {q : Nat} {vL vT vR v : Value} {L T R R' : List (List St)} (h : MS w0 wr q vL vT vR L T R) (k : CO w0 wr v R') : MS w0 (wr.setCell ⟨q, 2, none⟩ v) q vL vT v L T R' :=
  ⟨h.1.setOther (a := ⟨q, 2, none⟩) h.2.2.2.1 (by decide) (by decide) h.2.2.2.2, h.2.1.setOther (a := ⟨q, 2, none⟩) h.2.2.2.1 (by decide) (by decide) h.2.2.2.2, k.setOther (a := ⟨q, 2, none⟩) h.2.2.2.1 (by decide) (by decide) h.2.2.2.2, blk3_2 h.2.2.2.1 v, h.2.2.2.2⟩
theorem MS.cl {w0 wr : World} {q : Nat} {vL vT vR : Value} {L T R : List (List St)} (h : MS w0 wr q vL vT vR L T R) : wr.cell? ⟨q, 0, none⟩ = some vL ∧ wr.cell? ⟨q, 1, none⟩ = some vT ∧ wr.cell? ⟨q, 2, none⟩ = some vR ∧ ∀ o, wr.frozen? ⟨q, o, none⟩ = false := by
  have hb := h.2.2.2.1
  simp [World.cell?, World.frozen?, hb]
/-- A motif of plain data. -/
def MOK (ht ed : Int) (L T R : List (List St)) : Prop :=
  T.length = 1 + 2 * (ht % 3).toNat ∧ (cloads T).1 = 0 ∧ (if ed % 2 = 1 then (cloads L).1 = 0 ∧ L.length = T.length else L = []) ∧ (if ed / 2 % 2 = 1 then (cloads R).1 = 0 ∧ R.length = T.length else R = [])
def RetMC (w0 : World) (ht ed : Int) (e : Ending) (w' : World) : Prop :=
  ∃ vL vT vR L T R, e = .returned (.agg #[vL, vT, vR]) ∧ CO w0 w' vL L ∧ CO w0 w' vT T ∧ CO w0 w' vR R ∧ MOK ht ed L T R
def RetMO (w0 : World) (ht ed : Int) (e : Ending) (w' : World) : Prop :=
  ∃ vL vT vR cL cT cR L T R, e = .returned (.agg #[vL, vT, vR]) ∧ RR w' vL cL L ∧ RR w' vT cT T ∧ RR w' vR cR R ∧ MOK ht ed L T R ∧ Ext w0 w'
theorem RetMC.mo {w0 : World} {ht ed : Int} {e : Ending} {w' : World} (h : RetMC w0 ht ed e w') : RetMO w0 ht ed e w' := by
  obtain ⟨vL, vT, vR, L, T, R, he, h1, h2, h3, hm⟩ := h
  obtain ⟨cL, k1⟩ := h1.rr
  obtain ⟨cT, k2⟩ := h2.rr
  obtain ⟨cR, k3⟩ := h3.rr
  exact ⟨vL, vT, vR, cL, cT, cR, L, T, R, he, k1, k2, k3, hm, h1.1⟩
theorem MS.ret {w0 wr : World} {q r : Nat} {vL vT vR x y z : Value} {L T R : List (List St)} {ht ed : Int} (h : MS w0 wr q vL vT vR L T R) (hb : wr.heap[r]? = some (.cells #[x, y, z] 26 (0, 0))) (hr : w0.heap.size ≤ r) (hm : MOK ht ed L T R) :
    RetMC w0 ht ed (.returned (.agg #[vL, vT, vR])) (((wr.setCell ⟨r, 0, none⟩ vL).setCell ⟨r, 1, none⟩ vT).setCell ⟨r, 2, none⟩ vR) :=
  ⟨vL, vT, vR, L, T, R, rfl, h.1.put3 hb hr vL vT vR, h.2.1.put3 hb hr vL vT vR, h.2.2.1.put3 hb hr vL vT vR, hm⟩
theorem MS.base2 {w W wr : World} {q r : Nat} {vL vT vR x y z : Value} {L T R : List (List St)} {ht ed : Int} (h : MS W wr q vL vT vR L T R) (xw : Ext w W) (hb : wr.heap[r]? = some (.cells #[x, y, z] 26 (0, 0))) (hr : w.heap.size ≤ r) (hm : MOK ht ed L T R) :
    RetMC w ht ed (.returned (.agg #[vL, vT, vR])) (((wr.setCell ⟨r, 0, none⟩ vL).setCell ⟨r, 1, none⟩ vT).setCell ⟨r, 2, none⟩ vR) :=
  MS.ret ⟨h.1.base xw, h.2.1.base xw, h.2.2.1.base xw, h.2.2.2.1, Nat.le_trans xw.size h.2.2.2.2⟩ hb hr hm
theorem many_odd {m : Nat} (h : m ≤ 2) : many (1 + 2 * m) = 1 + 2 * m := by
  unfold many
  rw [show min (1 + 2 * m) 9 = 1 + 2 * m by omega, if_neg (by omega)]
def bt8 (chs : List (List Int)) : Prop := ∀ k, k < chs.length → ∀ i, i < (ri chs k).length → 0 ≤ gi (ri chs k) i ∧ gi (ri chs k) i ≤ 255
set_option maxHeartbeats 8000000 in
theorem MOf2_calls (ht ed wL wT wR : Int) (uL uT uR : Value) (cL cT cR : Nat) (xL xT xR : List (List Int)) (w : World) (hh : 0 ≤ ht ∧ ht ≤ 255) (he : 0 ≤ ed ∧ ed ≤ 255)
    (hL : ISS .u8 w uL cL xL) (hT : ISS .u8 w uT cT xT) (hR : ISS .u8 w uR cR xR) (bL : 0 ≤ wL ∧ wL ≤ 255) (bT : 0 ≤ wT ∧ wT ≤ 255) (bR : 0 ≤ wR ∧ wR ≤ 255) (yL : bt8 xL) (yT : bt8 xT) (yR : bt8 xR) :
    Calls Try.prog 23 #[.agg #[.int .u8 ht, .int .u8 ed, .int .u8 wL, uL, .int .u8 wT, uT, .int .u8 wR, uR]] w (RetMC w ht ed) := by
  obtain ⟨N, hN⟩ : ∃ N : Nat, (N : Int) = ht % 3 := ⟨(ht % 3).toNat, by omega⟩
  have hN2 : N ≤ 2 := by omega
  obtain ⟨h, hhN⟩ : ∃ h : Nat, h = 1 + 2 * N := ⟨_, rfl⟩
  have hh9 : h ≤ 9 := by omega
  have hNw : ht % 3 = (N : Int) := hN.symm
  have v1 : IntKind.i64.wrap (N : Int) = (N : Int) := IntWalk.i64_in _ ⟨by omega, by omega⟩
  have v2 : IntKind.i64.wrap (2 * (N : Int)) = 2 * (N : Int) := IntWalk.i64_in _ ⟨by omega, by omega⟩
  have v3 : IntKind.i64.wrap (1 + 2 * (N : Int)) = (h : Int) := by rw [IntWalk.i64_in _ ⟨by omega, by omega⟩]; omega
  have hmany : many h = 1 + 2 * (ht % 3).toNat := by rw [hhN, many_odd hN2, ← hN]; rfl
  have kL := fun w' (x : Ext w w') => blkC_calls wL uL cL xL h w' (hL.ext x) bL yL hh9
  have kT := fun w' (x : Ext w w') => blkC_calls wT uT cT xT h w' (hT.ext x) bT yT hh9
  have kR := fun w' (x : Ext w w') => blkC_calls wR uR cR xR h w' (hR.ext x) bR yR hh9
  obtain ⟨vsL, cpL, gL⟩ := hL
  obtain ⟨aL, nL, rfl, j1, j2, j3, j4⟩ := gL.outs
  clear j1 j2 j3 j4
  obtain ⟨vsT, cpT, gT⟩ := hT
  obtain ⟨aT, nT, rfl, j1, j2, j3, j4⟩ := gT.outs
  clear j1 j2 j3 j4
  obtain ⟨vsR, cpR, gR⟩ := hR
  obtain ⟨aR, nR, rfl, j1, j2, j3, j4⟩ := gR.outs
  clear j1 j2 j3 j4
  obtain ⟨W, hW⟩ : ∃ W, W = w.alloc (.cells #[.int .u8 ht, .int .u8 ed, .int .u8 wL, .slice aL nL cL, .int .u8 wT, .slice aT nT cT, .int .u8 wR, .slice aR nR cR] 48) := ⟨_, rfl⟩
  have xW : Ext w W := by rw [hW]; exact (Ext.refl w).alloc _
  have hWs : W.heap.size = w.heap.size + 1 := by rw [hW]; simp
  have hbx : W.heap[w.heap.size]? = some (Obj.cells #[.int .u8 ht, .int .u8 ed, .int .u8 wL, .slice aL nL cL, .int .u8 wT, .slice aT nT cT, .int .u8 wR, .slice aR nR cR] 48 (0, 0)) := by rw [hW]; exact blk_at rfl
  obtain ⟨W2, hW2⟩ : ∃ W2, W2 = W.alloc (.cells #[.slice none 0 0, .slice none 0 0, .slice none 0 0] 26) := ⟨_, rfl⟩
  have x2 : Ext W W2 := by rw [hW2]; exact (Ext.refl W).alloc _
  have hres : W2.heap[w.heap.size + 1]? = some (Obj.cells #[.slice none 0 0, .slice none 0 0, .slice none 0 0] 26 (0, 0)) := by rw [hW2]; exact blk_at hWs.symm
  have hbx2 := x2.block hbx
  have hcl : ∀ w', Ext W2 w' → w'.cell? ⟨w.heap.size, 0, none⟩ = some (.int .u8 ht) ∧ w'.cell? ⟨w.heap.size, 1, none⟩ = some (.int .u8 ed) ∧ w'.cell? ⟨w.heap.size, 2, none⟩ = some (.int .u8 wL) ∧ w'.cell? ⟨w.heap.size, 3, none⟩ = some (.slice aL nL cL) ∧ w'.cell? ⟨w.heap.size, 4, none⟩ = some (.int .u8 wT) ∧ w'.cell? ⟨w.heap.size, 5, none⟩ = some (.slice aT nT cT) ∧ w'.cell? ⟨w.heap.size, 6, none⟩ = some (.int .u8 wR) ∧ w'.cell? ⟨w.heap.size, 7, none⟩ = some (.slice aR nR cR) := fun w' x => by
    have hb := x.block hbx2
    simp [World.cell?, hb]
  have HCl := Lib.hid hcl
  have HRes := Lib.hid (fun w' (x : Ext W2 w') => x.block hres); have XW := Lib.hid (xW.trans x2)
  have KL := Lib.hid (fun w' (x : Ext W2 w') => kL w' ((xW.trans x2).trans x)); have KT := Lib.hid (fun w' (x : Ext W2 w') => kT w' ((xW.trans x2).trans x)); have KR := Lib.hid (fun w' (x : Ext W2 w') => kR w' ((xW.trans x2).trans x))
  have HMany := Lib.hid hmany; have HW := Lib.hid hW; have HW2 := Lib.hid hW2; have HWs := Lib.hid hWs
  obtain ⟨e0, e1, e2, e3, e4, e5, e6, e7⟩ := hcl _ (Ext.refl _)
  rw [hW2, hW] at e0 e1 e2 e3 e4 e5 e6 e7
  clear kL kT kR gL gT gR hbx hbx2 hcl hres xW x2 hmany hN hhN
  clear hW hW2 hWs
  go_enter Try.func23, Try.ntmps23
  go_wp2_with fail
  rw [← HW.out, ← HW2.out]
  refine (KT.out _ (Ext.refl _)).mono ?_
  intro e w3 hh
  obtain ⟨v3, T, rfl, o3, r3, k3⟩ := hh
  obtain ⟨ta, tn, tc, hvf, hvn⟩ := o3.form
  subst hvf
  rw [HMany.out] at k3
  obtain ⟨W4, hW4⟩ : ∃ W4, W4 = w3.alloc (.cells #[.slice none 0 0, .slice ta tn tc, .slice none 0 0] 26) := ⟨_, rfl⟩
  have x4 : Ext w3 W4 := by rw [hW4]; exact (Ext.refl w3).alloc _
  have hms : MS W2 W4 w3.heap.size (.slice none 0 0) (.slice ta tn tc) (.slice none 0 0) [] T [] := ⟨CO.nil (o3.1.trans x4), o3.later x4, CO.nil (o3.1.trans x4), by rw [hW4]; exact blk_at rfl, o3.1.size⟩
  have HT := Lib.hid (And.intro k3 r3); have X4 := Lib.hid (o3.1.trans x4)
  have hne : w3.heap.size ≠ w.heap.size + 1 := by have := lt_of_block (HRes.out _ o3.1); omega
  obtain ⟨q, hq⟩ : ∃ q, q = w3.heap.size := ⟨_, rfl⟩
  rw [← hq] at hms hne
  have HMS := Lib.hid hms; have HW4 := Lib.hid hW4; have Hq := Lib.hid hq; have HNe := Lib.hid hne
  clear hms x4 o3 r3 k3 hvn hne hq
  clear e0 e1 e2 e3 e4 e5 e6 e7
  obtain ⟨e0, e1, e2, e3, e4, e5, e6, e7⟩ := HCl.out _ X4.out
  rw [hW4] at e0 e1 e2 e3 e4 e5 e6 e7
  clear hW4
  by_cases hl : ed % 2 = 1
  · by_cases hr : ed / 2 % 2 = 1
    · have tl : (ed % 2 == 1) = true := by rw [beq_iff_eq]; exact hl
      have tr : (ed / 2 % 2 == 1) = true := by rw [beq_iff_eq]; exact hr
      go_wp2_with fail
      rw [← HW4.out, ← Hq.out]
      refine (KL.out _ X4.out).mono ?_
      intro e wl hh
      obtain ⟨vl, LL, rfl, ol, rl, kl⟩ := hh
      obtain ⟨la, ln, lc, hvf, hvn⟩ := ol.form
      subst hvf
      rw [HMany.out] at kl
      have hold := HMS.out.later ol.1
      have hms := hold.setL (ol.base X4.out)
      have HLL := Lib.hid (And.intro rl kl)
      have hx : Ext W2 (wl.setCell ⟨q, 0, none⟩ (.slice la ln lc)) := (X4.out.trans ol.1).setCell hold.2.2.2.2 _
      obtain ⟨Wl, hWl⟩ : ∃ Wl, Wl = wl.setCell ⟨q, 0, none⟩ (.slice la ln lc) := ⟨_, rfl⟩
      rw [← hWl] at hms hx
      have Ml := Lib.hid hms; have Xl := Lib.hid hx; have HWl := Lib.hid hWl
      obtain ⟨m0, m1, m2, mf⟩ := hold.cl
      have p0 := m0; have pf := mf 0
      clear hms hx hold hWl ol rl kl hvn m0 m1 m2 mf e0 e1 e2 e3 e4 e5 e6 e7
      obtain ⟨e0, e1, e2, e3, e4, e5, e6, e7⟩ := HCl.out _ Xl.out
      rw [HWl.out] at e0 e1 e2 e3 e4 e5 e6 e7
      go_wp2_with fail
      rw [← HWl.out]
      refine (KR.out _ Xl.out).mono ?_
      intro e wr hh
      obtain ⟨vr, RR, rfl, or, rr, kr⟩ := hh
      obtain ⟨ra, rn, rc, hvf, hvn⟩ := or.form
      subst hvf
      rw [HMany.out] at kr
      have hold := Ml.out.later or.1
      have hms := hold.setR (or.base Xl.out)
      have HRR := Lib.hid (And.intro rr kr)
      have hx : Ext W2 (wr.setCell ⟨q, 2, none⟩ (.slice ra rn rc)) := (Xl.out.trans or.1).setCell hold.2.2.2.2 _
      obtain ⟨Wr, hWr⟩ : ∃ Wr, Wr = wr.setCell ⟨q, 2, none⟩ (.slice ra rn rc) := ⟨_, rfl⟩
      rw [← hWr] at hms hx
      have Mr := Lib.hid hms; have Xr := Lib.hid hx; have HWr := Lib.hid hWr
      obtain ⟨m0, m1, m2, mf⟩ := hold.cl
      have p2 := m2; have pf := mf 2
      clear hms hx hold hWr or rr kr hvn m0 m1 m2 mf e0 e1 e2 e3 e4 e5 e6 e7
      obtain ⟨e0, e1, e2, e3, e4, e5, e6, e7⟩ := HCl.out _ Xr.out
      rw [HWr.out] at e0 e1 e2 e3 e4 e5 e6 e7
      obtain ⟨n0, n1, n2, nf⟩ := Mr.out.cl
      have hR := HRes.out _ Xr.out
      have g0 : Wr.cell? ⟨w.heap.size + 1, 0, none⟩ = some (.slice none 0 0) := by simp [World.cell?, hR]
      have g1 : Wr.cell? ⟨w.heap.size + 1, 1, none⟩ = some (.slice none 0 0) := by simp [World.cell?, hR]
      have g2 : Wr.cell? ⟨w.heap.size + 1, 2, none⟩ = some (.slice none 0 0) := by simp [World.cell?, hR]
      have f0 : Wr.frozen? ⟨w.heap.size + 1, 0, none⟩ = false := by simp [World.frozen?, hR]
      have f1 : Wr.frozen? ⟨w.heap.size + 1, 1, none⟩ = false := by simp [World.frozen?, hR]
      have f2 : Wr.frozen? ⟨w.heap.size + 1, 2, none⟩ = false := by simp [World.frozen?, hR]
      rw [HWr.out] at n0 n1 n2
      rw [HWr.out] at g0 g1 g2 f0 f1 f2
      clear nf hR
      have hmok : MOK ht ed LL T RR := ⟨HT.out.1, HT.out.2, by rw [if_pos hl]; exact ⟨HLL.out.1, HLL.out.2.trans HT.out.1.symm⟩, by rw [if_pos hr]; exact ⟨HRR.out.1, HRR.out.2.trans HT.out.1.symm⟩⟩
      have HF := Lib.hid (Mr.out.base2 XW.out (HRes.out _ Xr.out) (Nat.le_succ _) hmok)
      have hB := blk3_2 (blk3_1 (blk3_0 (HRes.out _ Xr.out) (.slice la ln lc)) (.slice ta tn tc)) (.slice ra rn rc)
      have HB := Lib.hid hB
      clear hmok hB
      go_wp2
      rw [← HWr.out]
      have hB := HB.out
      exact bodyPost_ret (v := .agg #[.slice la ln lc, .slice ta tn tc, .slice ra rn rc]) (by simp [results, Try.results23, go_sem, World.cell?, hB]) rfl HF.out
    · have tl : (ed % 2 == 1) = true := by rw [beq_iff_eq]; exact hl
      have tr : (ed / 2 % 2 == 1) = false := by rw [beq_eq_false_iff_ne]; exact hr
      go_wp2_with fail
      rw [← HW4.out, ← Hq.out]
      refine (KL.out _ X4.out).mono ?_
      intro e wl hh
      obtain ⟨vl, LL, rfl, ol, rl, kl⟩ := hh
      obtain ⟨la, ln, lc, hvf, hvn⟩ := ol.form
      subst hvf
      rw [HMany.out] at kl
      have hold := HMS.out.later ol.1
      have hms := hold.setL (ol.base X4.out)
      have HLL := Lib.hid (And.intro rl kl)
      have hx : Ext W2 (wl.setCell ⟨q, 0, none⟩ (.slice la ln lc)) := (X4.out.trans ol.1).setCell hold.2.2.2.2 _
      obtain ⟨Wl, hWl⟩ : ∃ Wl, Wl = wl.setCell ⟨q, 0, none⟩ (.slice la ln lc) := ⟨_, rfl⟩
      rw [← hWl] at hms hx
      have Ml := Lib.hid hms; have Xl := Lib.hid hx; have HWl := Lib.hid hWl
      obtain ⟨m0, m1, m2, mf⟩ := hold.cl
      have p0 := m0; have pf := mf 0
      clear hms hx hold hWl ol rl kl hvn m0 m1 m2 mf e0 e1 e2 e3 e4 e5 e6 e7
      obtain ⟨e0, e1, e2, e3, e4, e5, e6, e7⟩ := HCl.out _ Xl.out
      rw [HWl.out] at e0 e1 e2 e3 e4 e5 e6 e7
      obtain ⟨n0, n1, n2, nf⟩ := Ml.out.cl
      have hR := HRes.out _ Xl.out
      have g0 : Wl.cell? ⟨w.heap.size + 1, 0, none⟩ = some (.slice none 0 0) := by simp [World.cell?, hR]
      have g1 : Wl.cell? ⟨w.heap.size + 1, 1, none⟩ = some (.slice none 0 0) := by simp [World.cell?, hR]
      have g2 : Wl.cell? ⟨w.heap.size + 1, 2, none⟩ = some (.slice none 0 0) := by simp [World.cell?, hR]
      have f0 : Wl.frozen? ⟨w.heap.size + 1, 0, none⟩ = false := by simp [World.frozen?, hR]
      have f1 : Wl.frozen? ⟨w.heap.size + 1, 1, none⟩ = false := by simp [World.frozen?, hR]
      have f2 : Wl.frozen? ⟨w.heap.size + 1, 2, none⟩ = false := by simp [World.frozen?, hR]
      rw [HWl.out] at n0 n1 n2
      rw [HWl.out] at g0 g1 g2 f0 f1 f2
      clear nf hR
      have hmok : MOK ht ed LL T [] := ⟨HT.out.1, HT.out.2, by rw [if_pos hl]; exact ⟨HLL.out.1, HLL.out.2.trans HT.out.1.symm⟩, by rw [if_neg hr]⟩
      have HF := Lib.hid (Ml.out.base2 XW.out (HRes.out _ Xl.out) (Nat.le_succ _) hmok)
      have hB := blk3_2 (blk3_1 (blk3_0 (HRes.out _ Xl.out) (.slice la ln lc)) (.slice ta tn tc)) (.slice none 0 0)
      have HB := Lib.hid hB
      clear hmok hB
      go_wp2
      rw [← HWl.out]
      have hB := HB.out
      exact bodyPost_ret (v := .agg #[.slice la ln lc, .slice ta tn tc, .slice none 0 0]) (by simp [results, Try.results23, go_sem, World.cell?, hB]) rfl HF.out
  · by_cases hr : ed / 2 % 2 = 1
    · have tl : (ed % 2 == 1) = false := by rw [beq_eq_false_iff_ne]; exact hl
      have tr : (ed / 2 % 2 == 1) = true := by rw [beq_iff_eq]; exact hr
      go_wp2_with fail
      rw [← HW4.out, ← Hq.out]
      refine (KR.out _ X4.out).mono ?_
      intro e wr hh
      obtain ⟨vr, RR, rfl, or, rr, kr⟩ := hh
      obtain ⟨ra, rn, rc, hvf, hvn⟩ := or.form
      subst hvf
      rw [HMany.out] at kr
      have hold := HMS.out.later or.1
      have hms := hold.setR (or.base X4.out)
      have HRR := Lib.hid (And.intro rr kr)
      have hx : Ext W2 (wr.setCell ⟨q, 2, none⟩ (.slice ra rn rc)) := (X4.out.trans or.1).setCell hold.2.2.2.2 _
      obtain ⟨Wr, hWr⟩ : ∃ Wr, Wr = wr.setCell ⟨q, 2, none⟩ (.slice ra rn rc) := ⟨_, rfl⟩
      rw [← hWr] at hms hx
      have Mr := Lib.hid hms; have Xr := Lib.hid hx; have HWr := Lib.hid hWr
      obtain ⟨m0, m1, m2, mf⟩ := hold.cl
      have p2 := m2; have pf := mf 2
      clear hms hx hold hWr or rr kr hvn m0 m1 m2 mf e0 e1 e2 e3 e4 e5 e6 e7
      obtain ⟨e0, e1, e2, e3, e4, e5, e6, e7⟩ := HCl.out _ Xr.out
      rw [HWr.out] at e0 e1 e2 e3 e4 e5 e6 e7
      obtain ⟨n0, n1, n2, nf⟩ := Mr.out.cl
      have hR := HRes.out _ Xr.out
      have g0 : Wr.cell? ⟨w.heap.size + 1, 0, none⟩ = some (.slice none 0 0) := by simp [World.cell?, hR]
      have g1 : Wr.cell? ⟨w.heap.size + 1, 1, none⟩ = some (.slice none 0 0) := by simp [World.cell?, hR]
      have g2 : Wr.cell? ⟨w.heap.size + 1, 2, none⟩ = some (.slice none 0 0) := by simp [World.cell?, hR]
      have f0 : Wr.frozen? ⟨w.heap.size + 1, 0, none⟩ = false := by simp [World.frozen?, hR]
      have f1 : Wr.frozen? ⟨w.heap.size + 1, 1, none⟩ = false := by simp [World.frozen?, hR]
      have f2 : Wr.frozen? ⟨w.heap.size + 1, 2, none⟩ = false := by simp [World.frozen?, hR]
      rw [HWr.out] at n0 n1 n2
      rw [HWr.out] at g0 g1 g2 f0 f1 f2
      clear nf hR
      have hmok : MOK ht ed [] T RR := ⟨HT.out.1, HT.out.2, by rw [if_neg hl], by rw [if_pos hr]; exact ⟨HRR.out.1, HRR.out.2.trans HT.out.1.symm⟩⟩
      have HF := Lib.hid (Mr.out.base2 XW.out (HRes.out _ Xr.out) (Nat.le_succ _) hmok)
      have hB := blk3_2 (blk3_1 (blk3_0 (HRes.out _ Xr.out) (.slice none 0 0)) (.slice ta tn tc)) (.slice ra rn rc)
      have HB := Lib.hid hB
      clear hmok hB
      go_wp2
      rw [← HWr.out]
      have hB := HB.out
      exact bodyPost_ret (v := .agg #[.slice none 0 0, .slice ta tn tc, .slice ra rn rc]) (by simp [results, Try.results23, go_sem, World.cell?, hB]) rfl HF.out
    · have tl : (ed % 2 == 1) = false := by rw [beq_eq_false_iff_ne]; exact hl
      have tr : (ed / 2 % 2 == 1) = false := by rw [beq_eq_false_iff_ne]; exact hr
      obtain ⟨n0, n1, n2, nf⟩ := HMS.out.cl
      have hR := HRes.out _ X4.out
      have g0 : W4.cell? ⟨w.heap.size + 1, 0, none⟩ = some (.slice none 0 0) := by simp [World.cell?, hR]
      have g1 : W4.cell? ⟨w.heap.size + 1, 1, none⟩ = some (.slice none 0 0) := by simp [World.cell?, hR]
      have g2 : W4.cell? ⟨w.heap.size + 1, 2, none⟩ = some (.slice none 0 0) := by simp [World.cell?, hR]
      have f0 : W4.frozen? ⟨w.heap.size + 1, 0, none⟩ = false := by simp [World.frozen?, hR]
      have f1 : W4.frozen? ⟨w.heap.size + 1, 1, none⟩ = false := by simp [World.frozen?, hR]
      have f2 : W4.frozen? ⟨w.heap.size + 1, 2, none⟩ = false := by simp [World.frozen?, hR]
      rw [HW4.out, Hq.out] at n0 n1 n2
      rw [HW4.out] at g0 g1 g2 f0 f1 f2
      clear nf hR
      have hmok : MOK ht ed [] T [] := ⟨HT.out.1, HT.out.2, by rw [if_neg hl], by rw [if_neg hr]⟩
      have HF := Lib.hid (HMS.out.base2 XW.out (HRes.out _ X4.out) (Nat.le_succ _) hmok)
      have hB := blk3_2 (blk3_1 (blk3_0 (HRes.out _ X4.out) (.slice none 0 0)) (.slice ta tn tc)) (.slice none 0 0)
      have HB := Lib.hid hB
      clear hmok hB
      go_wp2
      rw [← HW4.out, ← Hq.out]
      have hB := HB.out
      exact bodyPost_ret (v := .agg #[.slice none 0 0, .slice ta tn tc, .slice none 0 0]) (by simp [results, Try.results23, go_sem, World.cell?, hB]) rfl HF.out
theorem MOf_calls (ht ed wL wT wR : Int) (uL uT uR : Value) (cL cT cR : Nat) (xL xT xR : List (List Int)) (w : World) (hh : 0 ≤ ht ∧ ht ≤ 255) (he : 0 ≤ ed ∧ ed ≤ 255)
    (hL : ISS .u8 w uL cL xL) (hT : ISS .u8 w uT cT xT) (hR : ISS .u8 w uR cR xR) (bL : 0 ≤ wL ∧ wL ≤ 255) (bT : 0 ≤ wT ∧ wT ≤ 255) (bR : 0 ≤ wR ∧ wR ≤ 255) (yL : bt8 xL) (yT : bt8 xT) (yR : bt8 xR) :
    Calls Try.prog 23 #[.agg #[.int .u8 ht, .int .u8 ed, .int .u8 wL, uL, .int .u8 wT, uT, .int .u8 wR, uR]] w (RetMO w ht ed) :=
  (MOf2_calls ht ed wL wT wR uL uT uR cL cT cR xL xT xR w hh he hL hT hR bL bT bR yL yT yR).mono fun _ _ h => h.mo
end Go.Proofs.Ytlmkcojimhbmiaa
/- What motifs, lists of charts and motifs as plain data read as. -/
namespace Go.Proofs.Ytlmkcojimhbmiaa
set_option linter.unusedVariables false
set_option linter.unusedSimpArgs false
set_option maxRecDepth 100000
open Go Go.RowKit Go.ChangeShapes Go.WideShapes Go.ChangeAt

/-- Stitches as they come in. -/
def InC (rows : List (List St)) : Prop := ∀ l ∈ rows, ∀ s ∈ l, St.In s
section
variable {H : Type} {enc : TypeId × Value → H} {w : World} {base : Nat} {held : Bool}
theorem chart_in {fuel : Nat} {u : Value} {x : DataW H × List MemPlace} (h : DataW.trod enc Try.prog w base (fun _ => true) held fuel 24 [u] = some x) : ∃ c rows, RR w u c rows ∧ InC rows := by
  obtain ⟨y0, n, _, _, h0⟩ := trod_struct1 Try.underlying24 h
  exact rows_in (by simpa [Value.cells, show Try.prog.cellsOf 22 = 1 by kernel_rfl] using h0)
theorem charts_in {fuel : Nat} {v : Value} {x : DataW H × List MemPlace} (h : DataW.trod enc Try.prog w base (fun _ => true) held fuel 40 [v] = some x) : ∃ c bs, BB w v c bs ∧ ∀ b ∈ bs, InC b := by
  rcases Deep.open_slice Try.underlying40 h with ⟨hcs, _⟩ | ⟨a, len, cap, m, n, D, Pl, hcs, hb, hl, hm, hmm, _, hx⟩
  · obtain rfl : v = .slice none 0 0 := by simpa using hcs
    exact ⟨0, [], BB.nil w, fun s hs => by cases hs⟩
  · obtain rfl : v = .slice (some a) len cap := by simpa using hcs
    simp only [if_true] at hmm
    subst hmm
    rw [show Try.prog.cellsOf 24 = 1 by kernel_rfl] at hx
    have key : ∀ i, i < len → ∃ y : Value × Nat × List (List St), w.cell? (a.add i) = some y.1 ∧ RR w y.1 y.2.1 y.2.2 ∧ InC y.2.2 := fun i hi => by
      obtain ⟨cs', h1, h2⟩ := hx i (by omega)
      obtain ⟨_, h3, h4⟩ := World.cells?_some h1
      rw [Nat.mul_one] at h4
      match cs', h3 with
      | [u], _ =>
        obtain ⟨c, rows, h5, h6⟩ := chart_in h2
        refine ⟨(u, c, rows), ?_, h5, h6⟩
        have := h4 0 (by omega)
        rw [show (a.add i).add 0 = a.add i from by simp [Addr.add]] at this
        simpa using this
    obtain ⟨F, hF⟩ : ∃ F : Nat → Value × Nat × List (List St), ∀ i, i < len → w.cell? (a.add i) = some (F i).1 ∧ RR w (F i).1 (F i).2.1 (F i).2.2 ∧ InC (F i).2.2 :=
      ⟨fun i => if h : i < len then (key i h).choose else (undef, 0, []), fun i hi => by simp only [hi, dif_pos]; exact (key i hi).choose_spec⟩
    have hbw : ∀ i, i < len → bw ((List.range len).map fun i => (F i).2.2) i = (F i).2.2 := fun i hi => by unfold bw; simp [List.getD, hi]
    refine ⟨m, (List.range len).map fun i => (F i).2.2, ⟨some a, fun i => (F i).1, fun i => (F i).2.1, by simp, by simpa using hl, hm, ?_, fun i hi => ?_⟩, fun l hl => ?_⟩
    · by_cases h0 : len = 0
      · subst h0; exact .inl rfl
      · obtain ⟨b, o, hao⟩ : ∃ b o, a = ⟨b, o, none⟩ := by
          have := (hF 0 (by omega)).1
          rw [show a.add 0 = a from by simp [Addr.add]] at this
          exact spot_of this
        subst hao
        refine .inr ⟨b, o, rfl, fun i hi => ?_⟩
        have hi' : i < len := by simpa using hi
        have := (hF i hi').1
        rwa [Addr.add_lit] at this
    · have hi' : i < len := by simpa using hi
      rw [hbw i hi']; exact (hF i hi').2.1
    · obtain ⟨i, hi, rfl⟩ := List.mem_map.1 hl
      exact (hF i (List.mem_range.1 hi)).2.2
theorem motif_in {fuel : Nat} {cs : List Value} {x : DataW H × List MemPlace} (h : DataW.trod enc Try.prog w base (fun _ => true) held fuel 26 cs = some x) : ∃ u0 u1 u2 c0 c1 c2 L T R, cs = [u0, u1, u2] ∧ RR w u0 c0 L ∧ RR w u1 c1 T ∧ RR w u2 c2 R ∧ InC L ∧ InC T ∧ InC R := by
  obtain ⟨xs, n, _, _, hl, hlen, hf⟩ := DataW.trod_struct Try.underlying26 h
  rw [show Try.prog.cellsOf 26 = 3 by kernel_rfl] at hl
  have cc : Try.prog.cellsOf 24 = 1 := by kernel_rfl
  match cs, hl with
  | [c0, c1, c2], _ =>
    match xs, hlen with
    | [y0, y1, y2], _ =>
      have h0 : DataW.trod enc Try.prog w base (fun _ => true) held n 24 (([c0, c1, c2].drop 0).take (Try.prog.cellsOf 24)) = some y0 := hf 0 _ rfl
      have h1 : DataW.trod enc Try.prog w base (fun _ => true) held n 24 (([c0, c1, c2].drop 1).take (Try.prog.cellsOf 24)) = some y1 := hf 1 _ rfl
      have h2 : DataW.trod enc Try.prog w base (fun _ => true) held n 24 (([c0, c1, c2].drop 2).take (Try.prog.cellsOf 24)) = some y2 := hf 2 _ rfl
      rw [cc] at h0 h1 h2
      obtain ⟨d0, L, r0, i0⟩ := chart_in (u := c0) h0
      obtain ⟨d1, T, r1, i1⟩ := chart_in (u := c1) h1
      obtain ⟨d2, R, r2, i2⟩ := chart_in (u := c2) h2
      exact ⟨c0, c1, c2, d0, d1, d2, L, T, R, rfl, r0, r1, r2, i0, i1, i2⟩
theorem C_in {fuel : Nat} {a b : Value} {x : DataW H × List MemPlace} (h : DataW.trod enc Try.prog w base (fun _ => true) held fuel 46 [a, b] = some x) : ∃ f c chs, a = .int .u8 f ∧ ISS .u8 w b c chs ∧ (0 ≤ f ∧ f ≤ 255) ∧ bt8 chs := by
  obtain ⟨xs, n, _, _, hl, hlen, hf⟩ := DataW.trod_struct Try.underlying46 h
  have cu : Try.prog.cellsOf 5 = 1 := by kernel_rfl
  have cs : Try.prog.cellsOf 44 = 1 := by kernel_rfl
  match xs, hlen with
  | [y0, y1], _ =>
    have h0 : DataW.trod enc Try.prog w base (fun _ => true) held n 5 (([a, b].drop 0).take (Try.prog.cellsOf 5)) = some y0 := hf 0 _ rfl
    have h1 : DataW.trod enc Try.prog w base (fun _ => true) held n 44 (([a, b].drop 1).take (Try.prog.cellsOf 44)) = some y1 := hf 1 _ rfl
    rw [cu] at h0
    rw [cs] at h1
    obtain ⟨f, hf, _, wf⟩ := DataW.trod_int Try.underlying5 h0
    obtain rfl : a = .int .u8 f := by simpa using hf
    obtain ⟨c, st, g1, g2⟩ := rows8_in Try.underlying44 Try.underlying62 Try.underlying5 (by kernel_rfl) (by kernel_rfl) h1
    exact ⟨f, c, st, rfl, g1, wf8 wf, g2⟩
end
/-- A motif, as it comes in. -/
def MIn (w : World) (v : Value) : Prop := ∃ u0 u1 u2 c0 c1 c2 L T R, v = .agg #[u0, u1, u2] ∧ RR w u0 c0 L ∧ RR w u1 c1 T ∧ RR w u2 c2 R ∧ InC L ∧ InC T ∧ InC R
theorem open_motif {H : Type} {enc : TypeId × Value → H} {w : World} {b0 : Nat} {v : Value} {d : DataW H} {p : List MemPlace}
    (hv : Value.okWide Try.prog w .any b0 26 v) (h : DataW.Trod enc Try.prog w 0 (fun _ => true) true 26 v d p) : MIn w v := by
  obtain ⟨cs, rfl, hsz⟩ := okWide_struct Try.underlying26 hv
  obtain ⟨l⟩ := cs
  obtain ⟨fuel, hf⟩ := h
  obtain ⟨u0, u1, u2, c0, c1, c2, L, T, R, h0, h1⟩ := motif_in hf
  have h0' : l = [u0, u1, u2] := by simpa [Value.cells] using h0
  subst h0'
  exact ⟨u0, u1, u2, c0, c1, c2, L, T, R, rfl, h1⟩
/-- A list of charts, as it comes in. -/
def BIn (w : World) (v : Value) : Prop := ∃ c bs, BB w v c bs ∧ ∀ b ∈ bs, InC b
theorem open_charts {H : Type} {enc : TypeId × Value → H} {w : World} {b0 : Nat} {v : Value} {d : DataW H} {p : List MemPlace}
    (hv : Value.okWide Try.prog w .any b0 40 v) (h : DataW.Trod enc Try.prog w 0 (fun _ => true) true 40 v d p) : BIn w v := by
  obtain ⟨a, n, c, rfl⟩ := okWide_slice Try.underlying40 hv
  obtain ⟨fuel, hf⟩ := h
  exact charts_in (by simpa [Value.cells] using hf)
/-- A motif of plain data, as it comes in. -/
def XIn (w : World) (v : Value) : Prop := ∃ ht ed wL wT wR uL uT uR cL cT cR xL xT xR, v = .agg #[.int .u8 ht, .int .u8 ed, .int .u8 wL, uL, .int .u8 wT, uT, .int .u8 wR, uR] ∧ (0 ≤ ht ∧ ht ≤ 255) ∧ (0 ≤ ed ∧ ed ≤ 255) ∧
  ISS .u8 w uL cL xL ∧ ISS .u8 w uT cT xT ∧ ISS .u8 w uR cR xR ∧ (0 ≤ wL ∧ wL ≤ 255) ∧ (0 ≤ wT ∧ wT ≤ 255) ∧ (0 ≤ wR ∧ wR ≤ 255) ∧ bt8 xL ∧ bt8 xT ∧ bt8 xR
theorem open_M {H : Type} {enc : TypeId × Value → H} {w : World} {b0 : Nat} {v : Value} {d : DataW H} {p : List MemPlace}
    (hv : Value.okWide Try.prog w .any b0 48 v) (h : DataW.Trod enc Try.prog w 0 (fun _ => true) true 48 v d p) : XIn w v := by
  obtain ⟨cs, rfl, hsz⟩ := okWide_struct Try.underlying48 hv
  obtain ⟨l⟩ := cs
  obtain ⟨fuel, hf⟩ := h
  obtain ⟨xs, n, _, _, hl, hlen, hf⟩ := DataW.trod_struct Try.underlying48 hf
  have cu : Try.prog.cellsOf 5 = 1 := by kernel_rfl
  have cc : Try.prog.cellsOf 46 = 2 := by kernel_rfl
  match l, hsz.trans (show Try.prog.cellsOf 48 = 8 by kernel_rfl) with
  | [a0, a1, a2, a3, a4, a5, a6, a7], _ =>
    match xs, hlen with
    | [y0, y1, y2, y3, y4], _ =>
      have h0 : DataW.trod enc Try.prog w 0 (fun _ => true) true n 5 (([a0, a1, a2, a3, a4, a5, a6, a7].drop 0).take (Try.prog.cellsOf 5)) = some y0 := hf 0 _ rfl
      have h1 : DataW.trod enc Try.prog w 0 (fun _ => true) true n 5 (([a0, a1, a2, a3, a4, a5, a6, a7].drop 1).take (Try.prog.cellsOf 5)) = some y1 := hf 1 _ rfl
      have h2 : DataW.trod enc Try.prog w 0 (fun _ => true) true n 46 (([a0, a1, a2, a3, a4, a5, a6, a7].drop 2).take (Try.prog.cellsOf 46)) = some y2 := hf 2 _ rfl
      have h3 : DataW.trod enc Try.prog w 0 (fun _ => true) true n 46 (([a0, a1, a2, a3, a4, a5, a6, a7].drop 4).take (Try.prog.cellsOf 46)) = some y3 := hf 3 _ rfl
      have h4 : DataW.trod enc Try.prog w 0 (fun _ => true) true n 46 (([a0, a1, a2, a3, a4, a5, a6, a7].drop 6).take (Try.prog.cellsOf 46)) = some y4 := hf 4 _ rfl
      rw [cu] at h0 h1
      rw [cc] at h2 h3 h4
      obtain ⟨k0, hk0, _, w0⟩ := DataW.trod_int Try.underlying5 h0
      obtain rfl : a0 = .int .u8 k0 := by simpa using hk0
      obtain ⟨k1, hk1, _, w1⟩ := DataW.trod_int Try.underlying5 h1
      obtain rfl : a1 = .int .u8 k1 := by simpa using hk1
      obtain ⟨f2, c2, x2, rfl, i2, b2, t2⟩ := C_in (a := a2) (b := a3) h2
      obtain ⟨f3, c3, x3, rfl, i3, b3, t3⟩ := C_in (a := a4) (b := a5) h3
      obtain ⟨f4, c4, x4, rfl, i4, b4, t4⟩ := C_in (a := a6) (b := a7) h4
      exact ⟨k0, k1, f2, f3, f4, a3, a5, a7, c2, c3, c4, x2, x3, x4, rfl, wf8 w0, wf8 w1, i2, i3, i4, b2, b3, b4, t2, t3, t4⟩
end Go.Proofs.Ytlmkcojimhbmiaa
