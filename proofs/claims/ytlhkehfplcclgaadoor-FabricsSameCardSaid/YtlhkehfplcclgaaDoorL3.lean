/- Texts of this claim in one file: libraries and walks. -/
import Derived.Laws.EntriesVeiled
import Derived.Test.YtlhkehfplcclgaaDoorL2
/- checkPlaces. -/
namespace Go.Proofs.YtlhkehfplcclgaaDoor
set_option linter.unusedVariables false
set_option linter.unusedSimpArgs false
set_option maxRecDepth 8000
open Go Go.RowKit

/-- The loops that others go through. -/
def thrR (ls : List Lp) : List Nm := (ls.map Lp.thr).flatten
def thrT (t : Tab) : List Nm := (t.map thrR).flatten
theorem take_li {ls : List Lp} {k : Nat} (h : k < ls.length) : thrR (ls.take (k + 1)) = thrR (ls.take k) ++ (li ls k).thr := by
  unfold thrR
  rw [li_of h, List.take_succ_eq_append_getElem h, List.map_append, List.flatten_append]; simp only [List.map_cons, List.map_nil, List.flatten_cons, List.flatten_nil, List.append_nil]
theorem take_yi {t : Tab} {k : Nat} (h : k < t.length) : thrT (t.take (k + 1)) = thrT (t.take k) ++ thrR (yi t k) := by
  unfold thrT
  rw [yi_of h, List.take_succ_eq_append_getElem h, List.map_append, List.flatten_append]; simp only [List.map_cons, List.map_nil, List.flatten_cons, List.flatten_nil, List.append_nil]
/-- How often each name is held, has fallen, or has another one on it. -/
def tms (f : Fab) : Nm → Int := addN (fun _ => 0) (f.held ++ f.fallen ++ thrT f.ys)
def srtB (l : List Nm) (i : Nat) : Bool := decide (i = 0) || decide (cmpN (ni l (i - 1)) (ni l i) < 0)
def onceB (f : Fab) (y n : Nat) : Bool := decide (tms f ⟨(y : Int) + 1, n⟩ = 1)
def pchk (f : Fab) : Int :=
  if (f.held ++ f.fallen).all (hasB f.ys) then
    if (List.range f.fallen.length).all (srtB f.fallen) then
      if (List.range f.ys.length).all (fun y => (List.range (yi f.ys y).length).all (onceB f y)) then 0 else 6
    else 6
  else 7
theorem pchk7 {f : Fab} {a : Nm} (ha : a ∈ f.held ++ f.fallen) (h : hasB f.ys a = false) : pchk f = 7 := if_neg fun hh => by
  have := List.all_eq_true.1 hh a ha
  rw [h] at this; cases this
theorem pchk6 {f : Fab} {i : Nat} (h0 : ∀ a ∈ f.held ++ f.fallen, hasB f.ys a = true) (hi : i < f.fallen.length) (h : srtB f.fallen i = false) : pchk f = 6 := by
  unfold pchk
  rw [if_pos (List.all_eq_true.2 h0), if_neg fun hh => by
    have := List.all_eq_true.1 hh i (List.mem_range.2 hi)
    rw [h] at this; cases this]
theorem pchk66 {f : Fab} {y n : Nat} (h0 : ∀ a ∈ f.held ++ f.fallen, hasB f.ys a = true) (h1 : ∀ i, i < f.fallen.length → srtB f.fallen i = true) (hy : y < f.ys.length) (hn : n < (yi f.ys y).length) (h : onceB f y n = false) : pchk f = 6 := by
  unfold pchk
  rw [if_pos (List.all_eq_true.2 h0), if_pos (List.all_eq_true.2 fun i hi => h1 i (List.mem_range.1 hi)), if_neg fun hh => by
    have := List.all_eq_true.1 (List.all_eq_true.1 hh y (List.mem_range.2 hy)) n (List.mem_range.2 hn)
    rw [h] at this; cases this]
theorem pchk0 {f : Fab} (h0 : ∀ a ∈ f.held ++ f.fallen, hasB f.ys a = true) (h1 : ∀ i, i < f.fallen.length → srtB f.fallen i = true) (h2 : ∀ y, y < f.ys.length → ∀ n, n < (yi f.ys y).length → onceB f y n = true) : pchk f = 0 := by
  unfold pchk
  rw [if_pos (List.all_eq_true.2 h0), if_pos (List.all_eq_true.2 fun i hi => h1 i (List.mem_range.1 hi)), if_pos (List.all_eq_true.2 fun y hy => List.all_eq_true.2 fun n hn => h2 y (List.mem_range.1 hy) n (List.mem_range.1 hn))]
/-- The bounds of a fabric. -/
structure FIn (f : Fab) : Prop where
  held : ∀ a ∈ f.held, a.In
  fallen : ∀ a ∈ f.fallen, a.In
  cr : ∀ c ∈ f.cr, c.In
  ys : ∀ r ∈ f.ys, ∀ l ∈ r, l.In
  n1 : f.held.length ≤ 1000
  n2 : f.fallen.length ≤ 1000
  n3 : f.cr.length ≤ 1000
  n4 : f.ys.length ≤ 100
  n5 : ∀ r ∈ f.ys, r.length ≤ 1000
  n6 : ∀ r ∈ f.ys, ∀ l ∈ r, l.thr.length ≤ 100 ∧ l.past.length ≤ 1000
theorem addN_bd (l : List Nm) (a : Nm) : 0 ≤ addN (fun _ => 0) l a ∧ addN (fun _ => 0) l a ≤ l.length := by
  have h := List.count_le_length (l := l) (a := a)
  show (0 : Int) ≤ 0 + ((l.count a : Nat) : Int) ∧ (0 : Int) + ((l.count a : Nat) : Int) ≤ l.length
  omega
theorem thrR_len {ls : List Lp} (h : ∀ l ∈ ls, l.thr.length ≤ 100) : (thrR ls).length ≤ ls.length * 100 := by
  induction ls with
  | nil => simp [thrR]
  | cons l ls ih =>
    have h1 := ih fun x hx => h x (by simp [hx])
    have h2 := h l (by simp)
    unfold thrR at h1 ⊢
    rw [List.map_cons, List.flatten_cons, List.length_append, List.length_cons, Nat.add_mul]; omega
theorem thrT_len {t : Tab} (h5 : ∀ r ∈ t, r.length ≤ 1000) (h6 : ∀ r ∈ t, ∀ l ∈ r, l.thr.length ≤ 100) : (thrT t).length ≤ t.length * 100000 := by
  induction t with
  | nil => simp [thrT]
  | cons r t ih =>
    have h1 := ih (fun x hx => h5 x (by simp [hx])) fun x hx => h6 x (by simp [hx])
    have h2 := thrR_len (h6 r (by simp))
    have h3 := h5 r (by simp)
    unfold thrT at h1 ⊢
    rw [List.map_cons, List.flatten_cons, List.length_append, List.length_cons, Nat.add_mul]; omega
theorem MB.look {w : World} {b : Nat} {f : Nm → Int} (h : MB w b f) {a : Nm} (ha : a.In) : (Instr.lookup 117 (.map (some b)) a.val false).run Tryd.prog w = .ok (.int .i64 (f a)) w := by
  obtain ⟨es, clock, hb, hm⟩ := h
  exact hm.look hb ha
set_option maxHeartbeats 16000000 in
theorem ChkP_calls (tv cv hv fv : Value) (f : Fab) (w : World) (h : FB w tv cv hv fv f) (hin : FIn f) :
    Calls Tryd.prog 46 #[.agg #[tv, cv, hv, fv]] w fun e w' => e = .returned (.int .i64 (pchk f)) ∧ Ext w w' := by
  obtain ⟨ct, hT⟩ := h.t
  obtain ⟨ch, hH⟩ := h.h
  obtain ⟨cf, hF⟩ := h.f
  obtain ⟨ta, tn, rfl, htn, htc, ht9, hTat⟩ := hT.open
  obtain ⟨ha, hn, rfl, hhn, hhc, hh9, hHat⟩ := hH.open
  obtain ⟨fa, fn, rfl, hfn, hfc, hf9, hFat⟩ := hF.open
  obtain ⟨W, hW⟩ : ∃ W, W = w.alloc (.cells #[.slice ta tn ct, cv, .slice ha hn ch, .slice fa fn cf] 35) := ⟨_, rfl⟩
  have xW : Ext w W := by rw [hW]; exact (Ext.refl _).alloc _
  have b4 : B4 W w.heap.size (.slice ta tn ct) cv (.slice ha hn ch) (.slice fa fn cf) 35 := by rw [hW]; exact B4.new _ _ _ _ _ _
  have hHas := fun w' a (x : Ext W w') (ha : Nm.In a) => Has_calls (.slice ta tn ct) ct f.ys a w' (hT.ext (xW.trans x)) ha
  have hsel : ∀ k : Nat, k < 2 → ∃ la ln lc L, (∀ w', (Instr.index 116 (.agg #[.slice ha hn ch, .slice fa fn cf]) (.int .i64 (k : Int))).run Tryd.prog w' = .ok (.slice la ln lc) w') ∧ (∀ i, i < ln → ∃ b o, la = some ⟨b, o, none⟩ ∧ At2 W b (o + i * 2) (ni L i)) ∧ ln = L.length ∧ (∀ a ∈ L, a.In) ∧ (∀ a ∈ L, a ∈ f.held ++ f.fallen) ∧ (k = 0 → L = f.held) ∧ (k = 1 → L = f.fallen) ∧ ln ≤ 1000 := fun k hk => by
    rcases (show k = 0 ∨ k = 1 by omega) with rfl | rfl
    · exact ⟨ha, hn, ch, f.held, fun w' => by kernel_rfl, fun i hi => (by obtain ⟨b, o, e, h2⟩ := hHat i hi; exact ⟨b, o, e, h2.ext xW⟩), hhn, hin.held, fun a h2 => by simp [h2], fun _ => rfl, fun h2 => by omega, by have := hin.n1; omega⟩
    · exact ⟨fa, fn, cf, f.fallen, fun w' => by kernel_rfl, fun i hi => (by obtain ⟨b, o, e, h2⟩ := hFat i hi; exact ⟨b, o, e, h2.ext xW⟩), hfn, hin.fallen, fun a h2 => by simp [h2], fun h2 => by omega, fun _ => rfl, by have := hin.n2; omega⟩
  obtain ⟨R, hR⟩ : ∃ R, R = pchk f := ⟨_, rfl⟩
  have H7 := Lib.hid (show ∀ a ∈ f.held ++ f.fallen, hasB f.ys a = false → R = 7 from fun a h1 h2 => by rw [hR]; exact pchk7 h1 h2)
  have HHas := Lib.hid hHas; have HSel := Lib.hid hsel; have HB := Lib.hid b4; have HW := Lib.hid hW; have XW := Lib.hid xW
  rw [← hR]
  have Hhn := Lib.hid hhn; have Hfn := Lib.hid hfn; have Htn := Lib.hid htn; have HR := Lib.hid hR; have HIn := Lib.hid hin
  have HT := Lib.hid (hT.ext xW); have HF := Lib.hid (hF.ext xW); have HH := Lib.hid (hH.ext xW)
  have tn9 : tn ≤ 100 := by have := hin.n4; omega
  have fn9 : fn ≤ 1000 := by have := hin.n2; omega
  have hn9 : hn ≤ 1000 := by have := hin.n1; omega
  have hwl : w.heap.size < W.heap.size := by rw [hW]; simp
  clear hHas hsel b4 hW xW hR hhn hfn htn hin hT hF hH h hTat hHat hFat
  have hmm := @run_makeMap Tryd.prog
  go_enter Tryd.func46, Tryd.ntmps46
  go_wp2
  rw [← HW.out]
  go_loopw [4, 6, 23] (fun _ _ i wr => ∃ k : Nat, k ≤ 2 ∧ i = .int .i64 k ∧ Hid (Ext W wr ∧ (0 < k → ∀ a ∈ f.held, hasB f.ys a = true) ∧ (1 < k → ∀ a ∈ f.fallen, hasB f.ys a = true))) (fun _ _ i _ => 2 - (intOf i).toNat)
  case atStart => exact ⟨0, Nat.zero_le _, rfl, Lib.hid ⟨Ext.refl _, by omega, by omega⟩⟩
  case round =>
    obtain ⟨k, hk, rfl, G⟩ := hrel
    by_cases hlt : k < 2
    · obtain ⟨la, ln, lc, L, hix, hat, hln, hIn, hmem, hk0, hk1, hl9⟩ := HSel.out k hlt
      have e1 : (k : Int) < 2 := by omega
      have e2 : (0 : Int) ≤ k := by omega
      have Hat := Lib.hid hat; have Hln := Lib.hid hln; have HLin := Lib.hid hIn; have Hmem := Lib.hid hmem; have HK0 := Lib.hid hk0; have HK1 := Lib.hid hk1
      clear hat hln hIn hmem hk0 hk1
      go_wp2
      obtain ⟨wo, hwo⟩ : ∃ wo, wo = wr := ⟨_, rfl⟩
      subst hwo
      go_loopw [6, 28] (fun _ i wq => ∃ j : Nat, j ≤ ln ∧ i = .int .i64 j ∧ Hid (Ext W wq ∧ ∀ x, x < j → hasB f.ys (ni L x) = true)) (fun _ i _ => ln - (intOf i).toNat)
      case atStart => exact ⟨0, Nat.zero_le _, rfl, Lib.hid ⟨G.out.1, fun x hx => by omega⟩⟩
      case round =>
        obtain ⟨j, hj, rfl, G2⟩ := hrel
        by_cases hjt : j < ln
        · obtain ⟨b, o, rfl, hA⟩ := Hat.out j hjt
          have f1 : (j : Int) < ln := by omega
          have f2 : (0 : Int) ≤ j := by omega
          have hA2 := hA.ext G2.out.1
          have hni := HLin.out (ni L j) (ni_mem (by rw [← Hln.out]; exact hjt))
          have hmm := Hmem.out (ni L j) (ni_mem (by rw [← Hln.out]; exact hjt))
          have hst := fun (hh : hasB f.ys (ni L j) = true) x (hx : x < j + 1) => (by
            rcases Nat.lt_or_ge x j with h1 | h1
            · exact G2.out.2 x h1
            · obtain rfl : x = j := by omega
              exact hh : hasB f.ys (ni L x) = true)
          obtain ⟨a, ha2⟩ : ∃ a, a = ni L j := ⟨_, rfl⟩
          rw [← ha2] at hA2 hni hmm hst
          have Hni := Lib.hid hni; have Hmm := Lib.hid hmm; have Hst := Lib.hid hst
          obtain ⟨x0, x1⟩ := hA2
          obtain ⟨W1, hW1⟩ : ∃ W1, W1 = wr.alloc (.cells #[.int .u8 a.y, .int .i64 a.n] 41) := ⟨_, rfl⟩
          have Y1 := Lib.hid (show Ext W W1 by rw [hW1]; exact G2.out.1.trans ((Ext.refl _).alloc _))
          have HW1 := Lib.hid hW1
          have t0 := cell_alloc (G2.out.1.cell HB.out.c0) (.cells #[.int .u8 a.y, .int .i64 a.n] 41)
          have t1 : w.heap.size < wr.heap.size := by have := G2.out.1.size; omega
          clear hA hni hmm hst ha2 hW1
          go_wp2_with fail
          rw [← HW1.out]
          clear t0 x0 x1
          refine (HHas.out W1 a Y1.out Hni.out).mono ?_
          rintro e w2 ⟨rfl, x⟩
          have Y2 := Lib.hid (Y1.out.trans x)
          clear x
          rcases hb : hasB f.ys a with _ | _
          · have hbad := H7.out a Hmm.out hb
            go_wp2
            go_ret
            exact ⟨ret_int (by first | rfl | rw [hbad]), XW.out.trans Y2.out⟩
          · have HN := Lib.hid (Hst.out hb)
            go_wp2
            go_roundw
            case rel => exact ⟨j + 1, by omega, by go_num, Lib.hid ⟨Y2.out, HN.out⟩⟩
            case measure => simp [intOf]; omega
        · obtain rfl : j = ln := by omega
          have f1 : ¬ (j : Int) < j := by omega
          have HL := Lib.hid (show ∀ a ∈ L, hasB f.ys a = true from fun a ha => by
            obtain ⟨x, hx, rfl⟩ := List.mem_iff_getElem.1 ha
            rw [← ni_of hx]; exact G2.out.2 x (by rw [Hln.out]; exact hx))
          go_wp2
          go_roundw
          case rel =>
            refine ⟨k + 1, by omega, by go_num, Lib.hid ⟨G2.out.1, fun _ => ?_, fun h1 => ?_⟩⟩
            · by_cases h0 : k = 0
              · rw [← HK0.out h0]; exact HL.out
              · exact G.out.2.1 (by omega)
            · rw [← HK1.out (by omega)]; exact HL.out
          case measure => simp [intOf]; omega
    · obtain rfl : k = 2 := by omega
      have e1 : ¬ ((2 : Nat) : Int) < 2 := by omega
      have hall : ∀ a ∈ f.held ++ f.fallen, hasB f.ys a = true := fun a ha => by
        rcases List.mem_append.1 ha with h1 | h1
        · exact G.out.2.1 (by omega) a h1
        · exact G.out.2.2 (by omega) a h1
      have HAll := Lib.hid hall
      have GX := Lib.hid G.out.1
      have c3 := GX.out.cell HB.out.c3
      clear hall G
      go_wp2
      have H6 := Lib.hid (show ∀ i, i < fn → srtB f.fallen i = false → R = 6 from fun i h1 h2 => by rw [HR.out]; exact pchk6 HAll.out (by rw [← Hfn.out]; exact h1) h2)
      obtain ⟨C, hC⟩ : ∃ C, C = ni f.fallen := ⟨_, rfl⟩
      have HFat := Lib.hid (show ∀ i, i < fn → (∃ b o, fa = some ⟨b, o, none⟩ ∧ At2 W b (o + i * 2) (C i)) from fun i hi => by
        obtain ⟨a', n', e, hn', _, _, hat⟩ := HF.out.open
        have e2 : fa = a' ∧ fn = n' := by simpa using e
        rw [hC, e2.1]; exact hat i (by omega))
      have HS := Lib.hid (show ∀ i, srtB f.fallen i = (decide (i = 0) || decide (cmpN (C (i - 1)) (C i) < 0)) from fun i => by rw [hC]; rfl)
      obtain ⟨SB, hSB⟩ : ∃ SB, SB = srtB f.fallen := ⟨_, rfl⟩
      rw [← hSB] at H6 HS
      have HSB := Lib.hid hSB
      clear hC hSB
      obtain ⟨w3, hw3⟩ : ∃ w3, w3 = wr := ⟨_, rfl⟩
      subst hw3
      go_loopw [7, 8, 42] (fun _ _ i wr => ∃ k : Nat, k ≤ fn ∧ i = .int .i64 k ∧ Hid (Ext W wr ∧ ∀ j, j < k → SB j = true)) (fun _ _ i _ => fn - (intOf i).toNat)
      case atStart => exact ⟨0, Nat.zero_le _, rfl, Lib.hid ⟨GX.out, fun j hj => by omega⟩⟩
      case round =>
        obtain ⟨k, hk, rfl, G⟩ := hrel
        clear c3
        by_cases hlt : k < fn
        · obtain ⟨b, o, rfl, hA⟩ := HFat.out k hlt
          have e1 : (k : Int) < fn := by omega
          have e2 : (0 : Int) ≤ k := by omega
          have hA0 := hA.ext G.out.1
          have hCk := HS.out k
          obtain ⟨c, hc⟩ : ∃ c, c = C k := ⟨_, rfl⟩
          obtain ⟨p, hp⟩ : ∃ p, p = C (k - 1) := ⟨_, rfl⟩
          have hpA : 0 < k → At2 wr b (o + (k - 1) * 2) p := fun h0 => by
            obtain ⟨b', o', e, h2⟩ := HFat.out (k - 1) (by omega)
            obtain ⟨rfl, rfl⟩ : b = b' ∧ o = o' := by simpa using e
            rw [hp]; exact h2.ext G.out.1
          rw [← hc] at hA0 hCk
          rw [← hp] at hCk
          have HCk := Lib.hid hCk
          obtain ⟨x0, x1⟩ := hA0
          obtain ⟨W1, hW1⟩ : ∃ W1, W1 = wr.alloc (.cells #[.int .u8 c.y, .int .i64 c.n] 41) := ⟨_, rfl⟩
          have Y1 := Lib.hid (show Ext W W1 by rw [hW1]; exact G.out.1.trans ((Ext.refl _).alloc _))
          have N1 := Lib.hid (show BN W1 wr.heap.size c by rw [hW1]; exact BN.new wr c)
          have HW1 := Lib.hid hW1
          have HP := Lib.hid (fun h0 => (hpA h0).ext (show Ext wr W1 by rw [hW1]; exact (Ext.refl _).alloc _))
          have t1 : w.heap.size < wr.heap.size := by have := G.out.1.size; omega
          clear hA hp hc hCk hpA hW1
          by_cases hk0 : k = 0
          · have hok : SB k = true := by rw [HCk.out, decide_eq_true hk0]; rfl
            have HN := Lib.hid (show ∀ j, j < k + 1 → SB j = true from fun j hj => by
              rcases Nat.lt_or_ge j k with h1 | h1
              · exact G.out.2 j h1
              · obtain rfl : j = k := by omega
                exact hok)
            have e7 : ¬ (0 : Int) < k := by omega
            have e8 : decide ((0 : Int) < k) = false := decide_eq_false e7
            have e7n : ¬ 0 < k := by omega
            have e8n : decide (0 < k) = false := decide_eq_false e7n
            clear hok hk0
            go_wp2
            rw [← HW1.out]
            go_quiet (fail)
            go_wp2
            go_roundw
            case rel => exact ⟨k + 1, by omega, by go_num, Lib.hid ⟨Y1.out.trans (by (focus (repeat (first | (with_reducible exact Ext.refl _) | (with_reducible apply Ext.drew) | (with_reducible apply Ext.drewN) | (with_reducible apply Ext.alloc))))), HN.out⟩⟩
            case measure => simp [intOf]; omega
          · have e7 : (0 : Int) < k := by omega
            have e7n : 0 < k := by omega
            have e8 : decide ((0 : Int) < k) = true := decide_eq_true e7
            have e8n : decide (0 < k) = true := decide_eq_true e7n
            have e9 : IntKind.i64.wrap ((k : Int) - 1) = (k : Int) - 1 := IntWalk.i64_in _ ⟨by omega, by omega⟩
            have e10 : ((k : Int) - 1).toNat = k - 1 := by omega
            have e11 : (0 : Int) ≤ (k : Int) - 1 := by omega
            have e13 : (1 : Int) ≤ k := by omega
            have e14 : 1 ≤ k := by omega
            have e12 : (k : Int) - 1 < fn := by omega
            go_wp2
            rw [← HW1.out]
            clear x0 x1
            have q0_1 := Y1.out.cell HB.out.c3
            obtain ⟨q0_2, q0_3⟩ := N1.out.at
            simp only [Nat.zero_add] at q0_3
            obtain ⟨q0_4, q0_5⟩ := HP.out e7n
            go_region_held3 (fun w' => w'.cell? ⟨w.heap.size, 3, Option.none⟩ = some (.slice (some ⟨b, o, none⟩) fn cf) ∧ w'.cell? ⟨wr.heap.size, 0, Option.none⟩ = some (.int .u8 c.y) ∧ w'.cell? ⟨wr.heap.size, 1, Option.none⟩ = some (.int .i64 c.n) ∧ w'.cell? ⟨b, o + (k - 1) * 2, Option.none⟩ = some (.int .u8 p.y) ∧ w'.cell? ⟨b, o + (k - 1) * 2 + 1, Option.none⟩ = some (.int .i64 p.n)) (first | (with_reducible exact ⟨q0_1, q0_2, q0_3, q0_4, q0_5⟩) | (with_reducible exact ⟨q1_1, q1_2, q1_3, q1_4, q1_5⟩) | go_keep) (first
              | (go_at_call 22; (refine (Compare_calls p c _).mono ?_); intro e w5 hh; obtain ⟨rfl, x⟩ := hh; have Xa : Hid (Ext W1 w5) := Lib.hid (Ext.trans (by ((repeat (first | (with_reducible exact Ext.refl _) | (with_reducible apply Ext.drew) | (with_reducible apply Ext.drewN) | (with_reducible apply Ext.alloc))); done)) x); have q1_1 := Xa.out.cell q0_1; have q1_2 := Xa.out.cell q0_2; have q1_3 := Xa.out.cell q0_3; have q1_4 := Xa.out.cell q0_4; have q1_5 := Xa.out.cell q0_5; clear x))
            obtain ⟨cx, hcx⟩ : ∃ cx, cx = cmpN p c := ⟨_, rfl⟩
            rw [← hcx]
            have Hcx := Lib.hid hcx
            clear hcx
            by_cases hb7 : cx < 0
            · have e15 : ¬ (0 : Int) ≤ cx := by omega
              have hok : SB k = true := by rw [HCk.out, ← Hcx.out, decide_eq_true hb7]; simp
              have HN := Lib.hid (show ∀ j, j < k + 1 → SB j = true from fun j hj => by
                rcases Nat.lt_or_ge j k with h1 | h1
                · exact G.out.2 j h1
                · obtain rfl : j = k := by omega
                  exact hok)
              clear hok
              go_wp2
              go_roundw
              case rel => exact ⟨k + 1, by omega, by go_num, Lib.hid ⟨Y1.out.trans Xa.out, HN.out⟩⟩
              case measure => simp [intOf]; omega
            · have e15 : (0 : Int) ≤ cx := by omega
              have hbad := H6.out k hlt (by rw [HCk.out, ← Hcx.out, decide_eq_false hb7, decide_eq_false hk0]; rfl)
              go_wp2
              go_ret
              exact ⟨ret_int (by first | rfl | rw [hbad]), XW.out.trans (Y1.out.trans Xa.out)⟩
        · obtain rfl : k = fn := by omega
          have e1 : ¬ (k : Int) < k := by omega
          have HSrt := Lib.hid (show ∀ i, i < f.fallen.length → srtB f.fallen i = true from fun i hi => by rw [← HSB.out]; exact G.out.2 i (by rw [Hfn.out]; exact hi))
          have X4 := Lib.hid G.out.1
          have t1 : w.heap.size < wr.heap.size := by have := X4.out.size; omega
          obtain ⟨W4, hW4⟩ : ∃ W4, W4 = (wr.alloc (.map #[] 0)).alloc (.cells #[.map (some wr.heap.size)] 117) := ⟨_, rfl⟩
          have xx4 : Ext wr W4 := by rw [hW4]; exact ((Ext.refl _).alloc _).alloc _
          have Z4 := Lib.hid (X4.out.trans xx4)
          have c2 := Z4.out.cell HB.out.c2
          rw [hW4] at c2
          have M4 := Lib.hid (show MB W4 wr.heap.size (fun _ => 0) by rw [hW4]; exact (MB.made wr).ext ((Ext.refl _).alloc _))
          have P4 := Lib.hid (show W4.cell? ⟨wr.heap.size + 1, 0, none⟩ = some (.map (some wr.heap.size)) by rw [hW4]; simp)
          have HW4 := Lib.hid hW4
          have hWs := Lib.hid (show W.heap.size ≤ wr.heap.size from X4.out.size)
          clear G xx4 hW4
          go_wp2_with fail
          rw [← HW4.out]
          clear c2
          refine (Count_calls (.slice ha hn ch) ch (wr.heap.size + 1) wr.heap.size f.held (fun _ => 0) W4 (HH.out.ext Z4.out) (by have := HIn.out.n1; omega) HIn.out.held P4.out (by omega) M4.out (fun _ => by omega)).mono ?_
          rintro e w5 ⟨rfl, hm5, hg5⟩
          have Z5 := Lib.hid (Ext.grown Z4.out hg5 fun j hj => by cases hj; exact hWs.out)
          have M5 := Lib.hid hm5
          have P5 := Lib.hid (World.grownBy.cell hg5 P4.out (by simp))
          clear hm5 hg5
          have c3 := Z5.out.cell HB.out.c3
          go_wp2_with fail
          clear c3
          refine (Count_calls (.slice fa k cf) cf (wr.heap.size + 1) wr.heap.size f.fallen _ w5 (HF.out.ext Z5.out) (by have := HIn.out.n2; omega) HIn.out.fallen P5.out (by omega) M5.out (fun a => by have := addN_bd f.held a; have := HIn.out.n1; omega)).mono ?_
          rintro e w6 ⟨rfl, hm6, hg6⟩
          rw [← addN_app] at hm6
          have Z6 := Lib.hid (Ext.grown Z5.out hg6 fun j hj => by cases hj; exact hWs.out)
          have M6 := Lib.hid (show MB w6 wr.heap.size (addN (fun _ => 0) (f.held ++ f.fallen ++ thrT (f.ys.take 0))) by rw [List.take_zero, show thrT [] = [] from rfl, List.append_nil]; exact hm6)
          have P6 := Lib.hid (World.grownBy.cell hg6 P5.out (by simp))
          clear hm6 hg6
          have HTo := Lib.hid (show ∀ i, i < tn → ∃ b o a m d, ta = some ⟨b, o, none⟩ ∧ W.cell? ⟨b, o + i, none⟩ = some (.slice a m d) ∧ m = (yi f.ys i).length ∧ LR W (.slice a m d) d (yi f.ys i) from fun i hi => by
            obtain ⟨a', n', e, hn', _, _, hat⟩ := HT.out.open
            have e2 : ta = a' ∧ tn = n' := by simpa using e
            rw [e2.1]; exact hat i (by omega))
          have hms := Lib.hid (show W.heap.size ≤ wr.heap.size from hWs.out)
          obtain ⟨mb, hmb⟩ : ∃ mb, mb = wr.heap.size := ⟨_, rfl⟩
          have c0 := Z6.out.cell HB.out.c0
          go_wp2
          rw [← hmb] at M6 P6 hms ⊢
          clear hmb c0
          obtain ⟨w7, hw7⟩ : ∃ w7, w7 = wr := ⟨_, rfl⟩
          subst hw7
          go_loopw [12, 14, 74] (fun _ _ i wq => ∃ y : Nat, y ≤ tn ∧ i = .int .i64 y ∧ Hid (Ext W wq ∧ MB wq mb (addN (fun _ => 0) (f.held ++ f.fallen ++ thrT (f.ys.take y))) ∧ wq.cell? ⟨mb + 1, 0, none⟩ = some (.map (some mb)))) (fun _ _ i _ => tn - (intOf i).toNat)
          case atStart => exact ⟨0, Nat.zero_le _, rfl, Lib.hid ⟨Z6.out, M6.out, P6.out⟩⟩
          case round =>
            obtain ⟨y, hy, rfl, G⟩ := hrel
            by_cases hlt : y < tn
            · obtain ⟨b1, o1, ra, rm, rd, rfl, hc, hrm, hLR⟩ := HTo.out y hlt
              have e1 : (y : Int) < tn := by omega
              have e2 : (0 : Int) ≤ y := by omega
              have cr := G.out.1.cell hc
              have hyin : yi f.ys y ∈ f.ys := yi_mem (by rw [← Htn.out]; exact hlt)
              have rm9 : rm ≤ 1000 := by rw [hrm]; exact HIn.out.n5 _ hyin
              have HLo := Lib.hid (show ∀ i, i < rm → ∃ b o a1 n1 d1 a2 n2 d2, ra = some ⟨b, o, none⟩ ∧ AtL W b (o + i * 4) (li (yi f.ys y) i) (.slice a1 n1 d1) (.slice a2 n2 d2) ∧ NL W (.slice a1 n1 d1) d1 (li (yi f.ys y) i).thr from fun i hi => by
                obtain ⟨a', n', e, hn', _, _, hat⟩ := hLR.open
                have e2 : ra = a' ∧ rm = n' := by simpa using e
                obtain ⟨b, o, a1, n1, d1, a2, n2, d2, h1, h2, _, _, h3, _⟩ := hat i (by omega)
                exact ⟨b, o, a1, n1, d1, a2, n2, d2, by rw [e2.1]; exact h1, h2, h3⟩)
              have HLin := Lib.hid (show ∀ i, i < rm → (∀ a ∈ (li (yi f.ys y) i).thr, a.In) ∧ (li (yi f.ys y) i).thr.length ≤ 100 from fun i hi => ⟨(HIn.out.ys _ hyin _ (li_mem (by rw [← hrm]; exact hi))).2.1, (HIn.out.n6 _ hyin _ (li_mem (by rw [← hrm]; exact hi))).1⟩)
              have Hb0 := Lib.hid (show (f.held ++ f.fallen ++ thrT (f.ys.take y)).length ≤ 20000000 by
                have h1 := thrT_len (t := f.ys.take y) (fun r hr => HIn.out.n5 r (List.mem_of_mem_take hr)) (fun r hr l hl => (HIn.out.n6 r (List.mem_of_mem_take hr) l hl).1)
                have h2 := HIn.out.n1; have h3 := HIn.out.n2; have h4 := HIn.out.n4
                have h5 : (f.ys.take y).length ≤ 100 := by simp; omega
                have h6 := Nat.mul_le_mul_right 100000 h5
                rw [List.length_append, List.length_append]; omega)
              have Hty := Lib.hid (take_yi (t := f.ys) (k := y) (by rw [← Htn.out]; exact hlt))
              obtain ⟨BS, hBS⟩ : ∃ BS, BS = f.held ++ f.fallen ++ thrT (f.ys.take y) := ⟨_, rfl⟩
              have HBS := Lib.hid hBS
              obtain ⟨RW, hRW⟩ : ∃ RW, RW = yi f.ys y := ⟨_, rfl⟩
              rw [← hRW] at HLo HLin hrm hyin Hty
              rw [← hBS] at Hb0
              have Hrm := Lib.hid hrm
              have GM := Lib.hid (show MB wr mb (addN (fun _ => 0) (BS ++ thrR (RW.take 0))) by rw [List.take_zero, show thrR [] = [] from rfl, List.append_nil, hBS]; exact G.out.2.1)
              clear hc hrm hLR hyin hBS hRW
              go_wp2
              obtain ⟨w8, hw8⟩ : ∃ w8, w8 = wr := ⟨_, rfl⟩
              subst hw8
              go_loopw [14, 80] (fun _ i wq => ∃ n : Nat, n ≤ rm ∧ i = .int .i64 n ∧ Hid (Ext W wq ∧ MB wq mb (addN (fun _ => 0) (BS ++ thrR (RW.take n))) ∧ wq.cell? ⟨mb + 1, 0, none⟩ = some (.map (some mb)))) (fun _ i _ => rm - (intOf i).toNat)
              case atStart => exact ⟨0, Nat.zero_le _, rfl, Lib.hid ⟨G.out.1, GM.out, G.out.2.2⟩⟩
              case round =>
                obtain ⟨n, hn0, rfl, G2⟩ := hrel
                clear cr
                by_cases hnt : n < rm
                · obtain ⟨b2, o2, a1, n1, d1, a2, n2, d2, rfl, hAL, hNL⟩ := HLo.out n hnt
                  have f1 : (n : Int) < rm := by omega
                  have f2 : (0 : Int) ≤ n := by omega
                  obtain ⟨x0, x1, x2, x3⟩ := hAL.ext G2.out.1
                  have Hin2 := Lib.hid (HLin.out n hnt)
                  have Htk := Lib.hid (take_li (ls := RW) (k := n) (by rw [← Hrm.out]; exact hnt))
                  obtain ⟨l, hl⟩ : ∃ l, l = li RW n := ⟨_, rfl⟩
                  rw [← hl] at x0 x1 Hin2 Htk hNL
                  have HNL := Lib.hid hNL
                  obtain ⟨W1, hW1⟩ : ∃ W1, W1 = wr.alloc (.cells #[.int .u8 l.bed, .bool l.new, .slice a1 n1 d1, .slice a2 n2 d2] 46) := ⟨_, rfl⟩
                  have xx : Ext wr W1 := by rw [hW1]; exact (Ext.refl _).alloc _
                  have Y1 := Lib.hid (G2.out.1.trans xx)
                  have M1 := Lib.hid (G2.out.2.1.ext xx)
                  have P1 := Lib.hid (xx.cell G2.out.2.2)
                  have HW1 := Lib.hid hW1
                  have Hbd := Lib.hid (show ∀ a, 0 ≤ addN (fun _ => 0) (BS ++ thrR (RW.take n)) a ∧ addN (fun _ => 0) (BS ++ thrR (RW.take n)) a ≤ 1000000000 from fun a => by
                    have h1 := addN_bd (BS ++ thrR (RW.take n)) a
                    have h2 := Hb0.out
                    have h3 := thrR_len (ls := RW.take n) (fun x hx => by
                      obtain ⟨i, hi, rfl⟩ := List.mem_iff_getElem.1 (List.mem_of_mem_take hx)
                      rw [← li_of hi]; exact (HLin.out i (by rw [Hrm.out]; exact hi)).2)
                    have h4 : (RW.take n).length ≤ 1000 := by simp; omega
                    have h5 := Nat.mul_le_mul_right 100 h4
                    rw [List.length_append] at h1; omega)
                  clear hAL hNL hl hW1 xx
                  go_wp2_with fail
                  rw [← HW1.out]
                  clear x0 x1 x2 x3
                  refine (Count_calls (.slice a1 n1 d1) d1 (mb + 1) mb l.thr _ W1 (HNL.out.ext Y1.out) (by have := Hin2.out.2; omega) Hin2.out.1 P1.out (by omega) M1.out Hbd.out).mono ?_
                  rintro e w9 ⟨rfl, hm9, hg9⟩
                  rw [← addN_app, List.append_assoc, ← Htk.out] at hm9
                  have HN := Lib.hid (show Ext W w9 ∧ MB w9 mb (addN (fun _ => 0) (BS ++ thrR (RW.take (n + 1)))) ∧ w9.cell? ⟨mb + 1, 0, none⟩ = some (.map (some mb)) from ⟨Ext.grown Y1.out hg9 (fun j hj => by cases hj; exact hms.out), hm9, World.grownBy.cell hg9 P1.out (by simp)⟩)
                  clear hm9 hg9
                  go_wp2
                  go_roundw
                  case rel => exact ⟨n + 1, by omega, by go_num, HN⟩
                  case measure => simp [intOf]; omega
                · obtain rfl : n = rm := by omega
                  have f1 : ¬ (n : Int) < n := by omega
                  have HN := Lib.hid (show Ext W wr ∧ MB wr mb (addN (fun _ => 0) (f.held ++ f.fallen ++ thrT (f.ys.take (y + 1)))) ∧ wr.cell? ⟨mb + 1, 0, none⟩ = some (.map (some mb)) from ⟨G2.out.1, by
                    have h1 := G2.out.2.1
                    rw [Hrm.out, List.take_length, HBS.out, List.append_assoc, ← Hty.out] at h1
                    exact h1, G2.out.2.2⟩)
                  go_wp2
                  go_roundw
                  case rel => exact ⟨y + 1, by omega, by go_num, HN⟩
                  case measure => simp [intOf]; omega
            · obtain rfl : y = tn := by omega
              have e1 : ¬ (y : Int) < y := by omega
              have MF := Lib.hid (show MB wr mb (tms f) by
                have h1 := G.out.2.1
                rw [Htn.out, List.take_length] at h1
                exact h1)
              have X9 := Lib.hid G.out.1
              have P9 := Lib.hid G.out.2.2
              have H66 := Lib.hid (show ∀ i, i < y → ∀ n, n < (yi f.ys i).length → onceB f i n = false → R = 6 from fun i h1 n h2 h3 => by rw [HR.out]; exact pchk66 HAll.out HSrt.out (by rw [← Htn.out]; exact h1) h2 h3)
              have H0 := Lib.hid (show (∀ i, i < y → ∀ n, n < (yi f.ys i).length → onceB f i n = true) → R = 0 from fun hh => by rw [HR.out]; exact pchk0 HAll.out HSrt.out fun i h1 n h2 => hh i (by rw [Htn.out]; exact h1) n h2)
              have c0 := X9.out.cell HB.out.c0
              clear G
              go_wp2
              clear c0
              obtain ⟨w9, hw9⟩ : ∃ w9, w9 = wr := ⟨_, rfl⟩
              subst hw9
              go_loopw [15, 16, 93] (fun _ _ i wq => ∃ x : Nat, x ≤ y ∧ i = .int .i64 x ∧ wq = w9 ∧ Hid (∀ i, i < x → ∀ n, n < (yi f.ys i).length → onceB f i n = true)) (fun _ _ i _ => y - (intOf i).toNat)
              case atStart => exact ⟨0, Nat.zero_le _, rfl, rfl, Lib.hid fun i hi => by omega⟩
              case round =>
                obtain ⟨x, hx, rfl, rfl, G⟩ := hrel
                by_cases hxt : x < y
                · obtain ⟨b1, o1, ra, rm, rd, rfl, hc, hrm, _⟩ := HTo.out x hxt
                  have f1 : (x : Int) < y := by omega
                  have f2 : (0 : Int) ≤ x := by omega
                  have cr := X9.out.cell hc
                  have rm9 : rm ≤ 1000 := by rw [hrm]; exact HIn.out.n5 _ (yi_mem (by rw [← Htn.out]; exact hxt))
                  have Hrm := Lib.hid hrm
                  have g1 : IntKind.i64.wrap ((x : Int) + 1) = (x : Int) + 1 := IntWalk.i64_in _ ⟨by omega, by omega⟩
                  have g2 : IntKind.u8.wrap ((x : Int) + 1) = (x : Int) + 1 := IntWalk.u8_in _ ⟨by omega, by omega⟩
                  clear hc hrm
                  go_wp2
                  obtain ⟨wa, hwa⟩ : ∃ wa, wa = wr := ⟨_, rfl⟩
                  subst hwa
                  go_loopw [17, 100] (fun _ i wq => ∃ n : Nat, n ≤ rm ∧ i = .int .i64 n ∧ wq = wa ∧ Hid (∀ j, j < n → onceB f x j = true)) (fun _ i _ => rm - (intOf i).toNat)
                  case atStart => exact ⟨0, Nat.zero_le _, rfl, rfl, Lib.hid fun j hj => by omega⟩
                  case round =>
                    obtain ⟨n, hn0, rfl, rfl, G2⟩ := hrel
                    clear cr
                    by_cases hnt : n < rm
                    · have i1 : (n : Int) < rm := by omega
                      have i2 : (0 : Int) ≤ n := by omega
                      have p0 := P9.out
                      have hlk := MF.out.look (a := ⟨(x : Int) + 1, n⟩) ⟨⟨by dsimp only; omega, by dsimp only; omega⟩, by dsimp only; omega, by dsimp only; omega⟩
                      unfold Nm.val at hlk
                      dsimp only at hlk
                      obtain ⟨T, hT⟩ : ∃ T, T = tms f ⟨(x : Int) + 1, n⟩ := ⟨_, rfl⟩
                      rw [← hT] at hlk
                      have HTT := Lib.hid hT
                      clear hT
                      by_cases h1 : T = 1
                      · have q1 : (T != 1) = false := by simp [h1]
                        have HN := Lib.hid (show ∀ j, j < n + 1 → onceB f x j = true from fun j hj => by
                          rcases Nat.lt_or_ge j n with h2 | h2
                          · exact G2.out j h2
                          · obtain rfl : j = n := by omega
                            exact decide_eq_true (by rw [← HTT.out]; exact h1))
                        clear h1
                        go_wp2
                        go_roundw
                        case rel => exact ⟨n + 1, by omega, by go_num, by first | rfl | trivial, HN⟩
                        case measure => simp [intOf]; omega
                      · have q1 : (T != 1) = true := by simp [h1]
                        have hbad := H66.out x hxt n (by rw [← Hrm.out]; exact hnt) (decide_eq_false (by rw [← HTT.out]; exact h1))
                        go_wp2
                        go_ret
                        exact ⟨ret_int (by first | rfl | rw [hbad]), XW.out.trans X9.out⟩
                    · obtain rfl : n = rm := by omega
                      have i1 : ¬ (n : Int) < n := by omega
                      have HN := Lib.hid (show ∀ i, i < x + 1 → ∀ n, n < (yi f.ys i).length → onceB f i n = true from fun i hi m hm => by
                        rcases Nat.lt_or_ge i x with h2 | h2
                        · exact G.out i h2 m hm
                        · obtain rfl : i = x := by omega
                          exact G2.out m (by rw [Hrm.out]; exact hm))
                      go_wp2
                      go_roundw
                      case rel => exact ⟨x + 1, by omega, by go_num, by first | rfl | trivial, HN⟩
                      case measure => simp [intOf]; omega
                · obtain rfl : x = y := by omega
                  have f1 : ¬ (x : Int) < x := by omega
                  have hok := H0.out G.out
                  go_wp2
                  go_ret
                  exact ⟨ret_int (by first | rfl | rw [hok]), XW.out.trans X9.out⟩
end Go.Proofs.YtlhkehfplcclgaaDoor
/- yarns.sided, cancel (of passes in one direction); loops.Count. -/
namespace Go.Proofs.YtlhkehfplcclgaaDoor
set_option linter.unusedVariables false
set_option linter.unusedSimpArgs false
set_option maxRecDepth 8000
open Go Go.RowKit

theorem Sided_calls (d : Int) (w : World) (h : d = 0 ∨ d = 1) : Calls Tryd.prog 96 #[.int .u8 d] w fun e w' => e = .returned (.bool true) ∧ w' = w := by
  go_enter Tryd.func96, Tryd.ntmps96
  rcases h with rfl | rfl
  · go_wp2
    go_ret
    exact ⟨rfl, rfl⟩
  · go_wp2
    go_ret
    exact ⟨rfl, rfl⟩
set_option maxHeartbeats 4000000 in
theorem Cancel_calls (p q : Ps) (w : World) (h : p.d = 0 ∨ p.d = 1) (hq : q.d = p.d) : Calls Tryd.prog 95 #[p.val, q.val] w fun e w' => e = .returned (.bool false) ∧ Ext w w' := by
  obtain ⟨⟨y1, n1⟩, f1, d1⟩ := p
  obtain ⟨⟨y2, n2⟩, f2, d2⟩ := q
  dsimp only at h hq
  subst hq
  unfold Ps.val
  dsimp only
  have X := Lib.hid (show Ext w ((w.alloc (.cells #[.int .u8 y1, .int .i64 n1, .bool f1, .int .u8 d2] 50)).alloc (.cells #[.int .u8 y2, .int .i64 n2, .bool f2, .int .u8 d2] 50)) from ((Ext.refl _).alloc _).alloc _)
  have hS := Lib.hid (fun w' => Sided_calls d2 w' h)
  clear h
  go_enter Tryd.func95, Tryd.ntmps95
  go_wp2_with fail
  refine (hS.out _).mono ?_
  rintro e w1 ⟨rfl, rfl⟩
  go_wp2_with fail
  refine (hS.out _).mono ?_
  rintro e w1 ⟨rfl, rfl⟩
  go_wp2
  go_ret
  exact ⟨rfl, X.out⟩
/-- How many loops. -/
def cntT (t : Tab) : Int := ((t.map List.length).sum : Nat)
theorem cntT_take {t : Tab} {k : Nat} (h : k < t.length) : cntT (t.take (k + 1)) = cntT (t.take k) + ((yi t k).length : Nat) := by
  unfold cntT
  rw [yi_of h, List.take_succ_eq_append_getElem h, List.map_append, List.sum_append]; simp
theorem cntT_bd {t : Tab} (h5 : ∀ r ∈ t, r.length ≤ 1000) : 0 ≤ cntT t ∧ cntT t ≤ (t.length * 1000 : Nat) := by
  unfold cntT
  refine ⟨by omega, ?_⟩
  have : (t.map List.length).sum ≤ t.length * 1000 := by
    induction t with
    | nil => simp
    | cons r t ih =>
      have h1 := ih fun x hx => h5 x (by simp [hx])
      have h2 := h5 r (by simp)
      rw [List.map_cons, List.sum_cons, List.length_cons, Nat.add_mul]; omega
  omega
set_option maxHeartbeats 4000000 in
theorem CountL_calls (tv : Value) (ct : Nat) (t : Tab) (w : World) (h : TB w tv ct t) (h4 : t.length ≤ 100) (h5 : ∀ r ∈ t, r.length ≤ 1000) : Calls Tryd.prog 72 #[tv] w fun e w' => e = .returned (.int .i64 (cntT t)) ∧ w' = w := by
  obtain ⟨ta, tn, rfl, htn, htc, ht9, hat⟩ := h.open
  have hS : ∀ k, k < tn → cntT (t.take (k + 1)) = cntT (t.take k) + ((yi t k).length : Nat) := fun k hk => cntT_take (by omega)
  have hB : ∀ k, k ≤ tn → 0 ≤ cntT (t.take k) ∧ cntT (t.take k) ≤ 100000 := fun k hk => by
    have h1 := cntT_bd (t := t.take k) fun r hr => h5 r (List.mem_of_mem_take hr)
    have h2 : (t.take k).length ≤ 100 := by simp; omega
    have h3 := Nat.mul_le_mul_right 1000 h2
    omega
  have hE : cntT t = cntT (t.take tn) := by rw [htn, List.take_length]
  have tn9 : tn ≤ 100 := by omega
  rw [hE]
  have h0 : (0 : Int) = cntT (t.take 0) := rfl
  obtain ⟨F, hF⟩ : ∃ F : Nat → Int, F = fun k => cntT (t.take k) := ⟨_, rfl⟩
  have HS := Lib.hid (show ∀ k, k < tn → F (k + 1) = F k + ((yi t k).length : Nat) by rw [hF]; exact hS)
  have HB := Lib.hid (show ∀ k, k ≤ tn → 0 ≤ F k ∧ F k ≤ 100000 by rw [hF]; exact hB)
  have H0 := Lib.hid (show (0 : Int) = F 0 by rw [hF]; rfl)
  have HF := Lib.hid (show F tn = cntT (t.take tn) by rw [hF])
  have Hat := Lib.hid hat
  rw [← HF.out]
  clear hS hB hE h0 hF hat htn h h4 h5
  go_enter Tryd.func72, Tryd.ntmps72
  go_wp2
  go_loopw [3, 5, 8] (fun s _ i wr => ∃ k : Nat, k ≤ tn ∧ i = .int .i64 k ∧ s = .int .i64 (F k) ∧ wr = w) (fun _ _ i _ => tn - (intOf i).toNat)
  case atStart => exact ⟨0, Nat.zero_le _, rfl, by rw [← H0.out], rfl⟩
  case round =>
    obtain ⟨k, hk, rfl, rfl, rfl⟩ := hrel
    by_cases hlt : k < tn
    · obtain ⟨b, o, av, m, d, rfl, hc, hm, _⟩ := Hat.out k hlt
      have e1 : (k : Int) < tn := by omega
      have e2 : (0 : Int) ≤ k := by omega
      have h1 := HS.out k hlt
      have h2 := HB.out (k + 1) (by omega)
      rw [← hm] at h1
      have g1 : IntKind.i64.wrap (F k + (m : Int)) = F (k + 1) := by rw [← h1]; exact IntWalk.i64_in _ ⟨by omega, by omega⟩
      clear h1 h2 hm
      go_wp2
      go_roundw
      case rel => exact ⟨k + 1, by omega, by go_num, rfl, by first | rfl | trivial⟩
      case measure => simp [intOf]; omega
    · obtain rfl : k = tn := by omega
      have e1 : ¬ (k : Int) < k := by omega
      go_wp2
      go_ret
      exact ⟨rfl, rfl⟩
end Go.Proofs.YtlhkehfplcclgaaDoor
/- yarns.push and Reduce, of passes in one direction: nothing cancels. -/
namespace Go.Proofs.YtlhkehfplcclgaaDoor
set_option linter.unusedVariables false
set_option linter.unusedSimpArgs false
set_option maxRecDepth 8000
open Go Go.RowKit

/-- All in one direction. -/
def OneD (l : List Ps) : Prop := ∃ d, (d = 0 ∨ d = 1) ∧ ∀ p ∈ l, p.d = d
theorem one_ck (w : World) (p : Ps) : CK 4 (w.alloc (.cells #[.int .u8 p.id.y, .int .i64 p.id.n, .bool p.f, .int .u8 p.d] 50)) (.slice (some ⟨w.heap.size, 0, none⟩) 1 1) 1 [p.cs] :=
  CK.of_blk (Deep.blk_alloc_new _ _) (Ks.ps [p]) rfl (Nat.le_refl _) (by omega) rfl
theorem own_slice {w : World} {B k n : Nat} {e : TypeId} {v : Value} {xs : List Value} (h : w.ownsRow B e k v n xs) : ∃ ao c, v = .slice ao n c ∧ n ≤ c := by
  obtain ⟨_, ⟨rfl, rfl⟩ | ⟨g, cap, _, rfl, _, _, h4, _⟩⟩ := h
  · exact ⟨_, _, rfl, Nat.le_refl _⟩
  · exact ⟨_, _, rfl, h4⟩
theorem own_extk {w w' : World} {B k n : Nat} {e : TypeId} {v : Value} {xs : List Value} (h : w.ownsRow B e k v n xs) (x : Ext w w') : w'.ownsRow B e k v n xs := by
  obtain ⟨h1, h2 | ⟨g, cap, cur, h3, h4, h5, h6⟩⟩ := h
  · exact ⟨h1, .inl h2⟩
  · exact ⟨h1, .inr ⟨g, cap, cur, h3, h4, x.block h5, h6⟩⟩
theorem qi_take {l : List Ps} {k i : Nat} (h : i < k) : qi (l.take k) i = qi l i := by unfold qi; simp [List.getD, List.getElem?_take_of_lt h]
set_option maxHeartbeats 8000000 in
theorem Push_calls (sv lv : Value) (c : Nat) (l : List Ps) (w0 w : World) (hl : PL w0 lv c l) (h9 : l.length ≤ 1000) (hd : OneD l) (hb : Ext w0 w) (ho : w.ownsRow w0.heap.size 50 4 sv 0 ([] : List Value)) :
    Calls Tryd.prog 94 #[sv, lv] w fun e w' => ∃ v, e = .returned v ∧ w'.ownsRow w0.heap.size 50 4 v l.length (l.map Ps.cs).flatten ∧ Ext w0 w' := by
  obtain ⟨la, n, rfl, hn, hnc, hc9, hat⟩ := hl.open
  obtain ⟨d, hd0, hd⟩ := hd
  have n9 : n ≤ 1000 := by omega
  have Hat := Lib.hid hat
  have Hd := Lib.hid (show ∀ i, i < n → (qi l i).d = d from fun i hi => hd _ (qi_mem (by omega)))
  have Hd0 := Lib.hid hd0
  have Htk := Lib.hid (show ∀ k, k < n → ((l.take (k + 1)).map Ps.cs) = ((l.take k).map Ps.cs) ++ [(qi l k).cs] from fun k hk => by rw [qi_of (by omega), List.take_succ_eq_append_getElem (by omega), List.map_append]; rfl)
  have HN := Lib.hid hn
  have HO := Lib.hid ho
  have HX := Lib.hid hb
  obtain ⟨a0, c0, rfl, _⟩ := own_slice ho
  clear hat hd hd0 hn hl h9 ho hb
  go_enter Tryd.func94, Tryd.ntmps94
  go_wp2
  go_loopw [0, 6, 7, 10] (fun s _ _ i wr => ∃ k : Nat, k ≤ n ∧ i = .int .i64 k ∧ Hid (Ext w0 wr ∧ wr.ownsRow w0.heap.size 50 4 s k ((l.take k).map Ps.cs).flatten)) (fun _ _ _ i _ => n - (intOf i).toNat)
  case atStart => exact ⟨0, Nat.zero_le _, rfl, Lib.hid ⟨HX.out, by rw [List.take_zero]; exact HO.out⟩⟩
  case round =>
    obtain ⟨k, hk, rfl, G⟩ := hrel
    by_cases hlt : k < n
    · obtain ⟨b, o, rfl, hA⟩ := Hat.out k hlt
      obtain ⟨a1, c1, rfl, hk1⟩ := own_slice G.out.2
      have e1 : (k : Int) < n := by omega
      have e2 : (0 : Int) ≤ k := by omega
      have hAx := hA.ext G.out.1
      have hdk := Hd.out k hlt
      have htk := Htk.out k hlt
      obtain ⟨c, hc⟩ : ∃ c, c = qi l k := ⟨_, rfl⟩
      have hpr : 0 < k → ∃ p b' o', a1 = some ⟨b', o', none⟩ ∧ At4 wr b' (o' + (k - 1) * 4) p ∧ p.d = d := fun h0 => by
        obtain ⟨cc, hck⟩ := CK.of_own G.out.2 (Ks.ps (l.take k)) (by rw [List.length_map, List.length_take, ← HN.out]; omega) (by decide)
        obtain ⟨a', n', e, hn', _, _, hat⟩ := PL.open (show PL wr _ cc (l.take k) from hck)
        have e3 : a1 = a' ∧ k = n' := by simp at e; exact ⟨e.1, e.2.1⟩
        obtain ⟨b', o', e4, h5⟩ := hat (k - 1) (by omega)
        rw [qi_take (by omega)] at h5
        exact ⟨_, b', o', by rw [e3.1]; exact e4, h5, Hd.out (k - 1) (by omega)⟩
      rw [← hc] at hAx hdk htk
      have Htk2 := Lib.hid htk; have HPr := Lib.hid hpr; have Hdk := Lib.hid hdk
      obtain ⟨x0, x1, x2, x3⟩ := hAx
      obtain ⟨W1, hW1⟩ : ∃ W1, W1 = wr.alloc (.cells #[.int .u8 c.id.y, .int .i64 c.id.n, .bool c.f, .int .u8 c.d] 50) := ⟨_, rfl⟩
      have hbx : W1.heap[wr.heap.size]? = some (.cells #[.int .u8 c.id.y, .int .i64 c.id.n, .bool c.f, .int .u8 c.d] 50 (0, 0)) := by rw [hW1]; exact Deep.blk_alloc_new _ _
      have Y1 := Lib.hid (show Ext wr W1 by rw [hW1]; exact (Ext.refl _).alloc _)
      have HBx := Lib.hid hbx
      have HW1 := Lib.hid hW1
      have q0_1 : W1.cell? ⟨wr.heap.size, 0, none⟩ = some (.int .u8 c.id.y) := by simp [World.cell?, hbx]
      have q0_2 : W1.cell? ⟨wr.heap.size, 1, none⟩ = some (.int .i64 c.id.n) := by simp [World.cell?, hbx]
      have q0_3 : W1.cell? ⟨wr.heap.size, 2, none⟩ = some (.bool c.f) := by simp [World.cell?, hbx]
      have q0_4 : W1.cell? ⟨wr.heap.size, 3, none⟩ = some (.int .u8 c.d) := by simp [World.cell?, hbx]
      clear hA hc hdk htk hpr hW1 hbx
      by_cases hk0 : k = 0
      · have e7 : ¬ (0 : Int) < k := by omega
        have e7n : ¬ 0 < k := by omega
        have e8 : decide ((0 : Int) < k) = false := decide_eq_false e7
        have e8n : decide (0 < k) = false := decide_eq_false e7n
        clear hk0
        go_wp2
        rw [← HW1.out]
        clear x0 x1 x2 x3
        go_quiet (fail)
        have hob := own_extk G.out.2 (Y1.out.drewN nq)
        have HOB := Lib.hid hob
        clear hob
        go_wp2_with (at_builtin; refine app_k ekP rfl _ _ rfl w0.heap.size _ k ((l.take k).map Ps.cs) rfl (own_extk HOB.out ((Ext.refl _).alloc _)) _ 1 [c.cs] rfl (one_ck _ c) (Ks.ps [c]) ?c1 ?c2 ?c3 ?_)
        case c1 => simp; omega
        case c2 => simp; omega
        case c3 => have h1 := G.out.1.size; have h2 := Y1.out.size; have h3 := Nat.le_refl 0; simp; omega
        intro v' w' hown hgr
        have HNx := Lib.hid (show Ext w0 w' ∧ w'.ownsRow w0.heap.size 50 4 v' (k + 1) ((l.take (k + 1)).map Ps.cs).flatten from ⟨Ext.grown (G.out.1.trans ((Y1.out.drewN nq).trans ((Ext.refl _).alloc _))) hgr fun j hj => (HOB.out.lt j hj).1, by rw [Htk2.out]; simpa using hown⟩)
        clear hown hgr
        go_wp2
        go_roundw
        case rel => exact ⟨k + 1, by omega, by go_num, HNx⟩
        case measure => simp [intOf]; omega
      · have e7 : (0 : Int) < k := by omega
        have e7n : 0 < k := by omega
        have e8 : decide ((0 : Int) < k) = true := decide_eq_true e7
        have e8n : decide (0 < k) = true := decide_eq_true e7n
        have e9 : IntKind.i64.wrap ((k : Int) - 1) = (k : Int) - 1 := IntWalk.i64_in _ ⟨by omega, by omega⟩
        have e10 : ((k : Int) - 1).toNat = k - 1 := by omega
        have e11 : (0 : Int) ≤ (k : Int) - 1 := by omega
        have e13 : (1 : Int) ≤ k := by omega
        have e14 : 1 ≤ k := by omega
        have e12 : (k : Int) - 1 < k := by omega
        obtain ⟨p, b', o', rfl, hpA, hpd⟩ := HPr.out e7n
        have HCa := Lib.hid (fun w' => Cancel_calls p c w' (by rw [hpd]; exact Hd0.out) (by rw [hpd, Hdk.out]))
        obtain ⟨q0_5, q0_6, q0_7, q0_8⟩ := hpA.ext Y1.out
        clear hk0 hpA hpd
        go_wp2
        rw [← HW1.out]
        clear x0 x1 x2 x3
        go_region_held3 (fun w' => w'.cell? ⟨wr.heap.size, 0, Option.none⟩ = some (.int .u8 c.id.y) ∧ w'.cell? ⟨wr.heap.size, 1, Option.none⟩ = some (.int .i64 c.id.n) ∧ w'.cell? ⟨wr.heap.size, 2, Option.none⟩ = some (.bool c.f) ∧ w'.cell? ⟨wr.heap.size, 3, Option.none⟩ = some (.int .u8 c.d) ∧ w'.cell? ⟨b', o' + (k - 1) * 4, Option.none⟩ = some (.int .u8 p.id.y) ∧ w'.cell? ⟨b', o' + (k - 1) * 4 + 1, Option.none⟩ = some (.int .i64 p.id.n) ∧ w'.cell? ⟨b', o' + (k - 1) * 4 + 2, Option.none⟩ = some (.bool p.f) ∧ w'.cell? ⟨b', o' + (k - 1) * 4 + 3, Option.none⟩ = some (.int .u8 p.d)) (first | (with_reducible exact ⟨q0_1, q0_2, q0_3, q0_4, q0_5, q0_6, q0_7, q0_8⟩) | (with_reducible exact ⟨q1_1, q1_2, q1_3, q1_4, q1_5, q1_6, q1_7, q1_8⟩) | go_keep) (first
          | (go_at_call 95; (refine (HCa.out _).mono ?_); intro e w5 hh; obtain ⟨rfl, x⟩ := hh; have Xa : Hid (Ext W1 w5) := Lib.hid (Ext.trans (by ((repeat (first | (with_reducible exact Ext.refl _) | (with_reducible apply Ext.drew) | (with_reducible apply Ext.drewN) | (with_reducible apply Ext.alloc))); done)) x); have q1_1 := Xa.out.cell q0_1; have q1_2 := Xa.out.cell q0_2; have q1_3 := Xa.out.cell q0_3; have q1_4 := Xa.out.cell q0_4; have q1_5 := Xa.out.cell q0_5; have q1_6 := Xa.out.cell q0_6; have q1_7 := Xa.out.cell q0_7; have q1_8 := Xa.out.cell q0_8; clear x))
        have hob := own_extk G.out.2 (Y1.out.trans Xa.out)
        have HOB := Lib.hid hob
        clear hob
        go_wp2_with (at_builtin; refine app_k ekP rfl _ _ rfl w0.heap.size _ k ((l.take k).map Ps.cs) rfl (own_extk HOB.out ((Ext.refl _).alloc _)) _ 1 [c.cs] rfl (one_ck _ c) (Ks.ps [c]) ?d1 ?d2 ?d3 ?_)
        case d1 => simp; omega
        case d2 => simp; omega
        case d3 => have h1 := G.out.1.size; have h2 := Y1.out.size; have h3 := Xa.out.size; simp; omega
        intro v' w' hown hgr
        have HNx := Lib.hid (show Ext w0 w' ∧ w'.ownsRow w0.heap.size 50 4 v' (k + 1) ((l.take (k + 1)).map Ps.cs).flatten from ⟨Ext.grown (G.out.1.trans ((Y1.out.trans Xa.out).trans ((Ext.refl _).alloc _))) hgr fun j hj => (HOB.out.lt j hj).1, by rw [Htk2.out]; simpa using hown⟩)
        clear hown hgr
        go_wp2
        go_roundw
        case rel => exact ⟨k + 1, by omega, by go_num, HNx⟩
        case measure => simp [intOf]; omega
    · obtain rfl : k = n := by omega
      have e1 : ¬ (k : Int) < k := by omega
      go_wp2
      go_ret
      have h1 := G.out.2
      rw [HN.out, List.take_length] at h1
      exact ⟨_, rfl, h1, G.out.1⟩
end Go.Proofs.YtlhkehfplcclgaaDoor
/- yarns.Reduce, of passes in one direction. -/
namespace Go.Proofs.YtlhkehfplcclgaaDoor
set_option linter.unusedVariables false
set_option linter.unusedSimpArgs false
set_option maxRecDepth 8000
open Go Go.RowKit

theorem make_k0 {P : Program} {t e : TypeId} {z : Value} {k bytes : Nat} (ek : EK P t e z k bytes) (hb : bytes ≤ 1000) (n : Nat) (hn : n ≤ 1000000) (kl kc : IntKind) (w : World) :
    (Instr.makeSlice t (.int kl 0) (.int kc (n : Int))).run P w = .ok (.slice (some ⟨w.heap.size, 0, none⟩) 0 n) (w.alloc (.cells (madeCells z.cells (n * k)) e)) := by
  obtain ⟨i, hi, hz0, hz1, hz2⟩ := info_parts ek.info
  have h2 : bytes * n ≤ 1000 * 1000000 := Nat.mul_le_mul hb hn
  have h3 : ((bytes * n : Nat) : Int) = (bytes : Int) * (n : Int) := Int.natCast_mul _ _
  have hr := run_make (P := P) w t e i z ek.und hi hz0 kl kc 0 n (Int.le_refl _) (by omega) (by rw [hz2]; omega) (by omega)
  simp only [Int.toNat_natCast, hz1] at hr
  exact hr
theorem own_made {w : World} {e : TypeId} {k n : Nat} {z : Array Value} (hn : n ≤ maxLen) : (w.alloc (.cells (madeCells z (n * k)) e)).ownsRow w.heap.size e k (.slice (some ⟨w.heap.size, 0, none⟩) 0 n) 0 ([] : List Value) :=
  ⟨by simp, .inr ⟨_, n, _, rfl, Nat.le_refl _, Deep.blk_alloc_new _ _, Nat.zero_le _, hn, size_madeCells _ _, by simp⟩⟩
set_option maxHeartbeats 4000000 in
theorem Reduce_calls (lv : Value) (c : Nat) (l : List Ps) (w : World) (hl : PL w lv c l) (h9 : l.length ≤ 1000) (hd : OneD l) :
    Calls Tryd.prog 90 #[lv] w fun e w' => ∃ g n, n = l.length ∧ e = .returned (.slice (some ⟨g, 0, none⟩) n n) ∧ Ext w w' := by
  obtain ⟨la, n, rfl, hn, hnc, hc9, hat⟩ := hl.open
  have n9 : n ≤ 1000 := by omega
  have hmk : ∀ w, (Instr.makeSlice 44 (.int .i64 0) (.int .i64 (n : Int))).run Tryd.prog w = .ok (.slice (some ⟨w.heap.size, 0, none⟩) 0 n) (w.alloc (.cells (madeCells #[.int .u8 0, .int .i64 0, .bool false, .int .u8 0] (n * 4)) 50)) := fun w => make_k0 ekP (by decide) n (by omega) .i64 .i64 w
  have HP := Lib.hid (fun sv w' hb ho => Push_calls sv (.slice la n c) c l w w' hl h9 hd hb ho)
  have HC := Lib.hid (fun (v : Value) (w' : World) (ho : w'.ownsRow w.heap.size 50 4 v l.length (l.map Ps.cs).flatten) => (by
    obtain ⟨cc, hck⟩ := CK.of_own ho (Ks.ps l) (by simp) (by decide)
    exact YCopP_calls v cc (l.map Ps.cs) w' hck (Ks.ps l) (by simp; omega) : Calls Tryd.prog 93 #[v] w' (RetK w' 50 (l.map Ps.cs))))
  obtain ⟨W, hW⟩ : ∃ W, W = w.alloc (.cells (madeCells #[.int .u8 0, .int .i64 0, .bool false, .int .u8 0] (n * 4)) 50) := ⟨_, rfl⟩
  have HO := Lib.hid (show W.ownsRow w.heap.size 50 4 (.slice (some ⟨w.heap.size, 0, none⟩) 0 n) 0 ([] : List Value) by rw [hW]; exact own_made (by unfold maxLen; omega))
  have X := Lib.hid (show Ext w W by rw [hW]; exact (Ext.refl _).alloc _)
  have HW := Lib.hid hW
  have HN := Lib.hid hn
  clear hat hn hl h9 hd hW
  go_enter Tryd.func90, Tryd.ntmps90
  go_wp2_with fail
  rw [← HW.out]
  refine (HP.out _ W X.out HO.out).mono ?_
  rintro e w2 ⟨v, rfl, ho, x2⟩
  have H2 := Lib.hid ho
  have X2 := Lib.hid x2
  clear ho x2
  obtain ⟨a1, c1, rfl, _⟩ := own_slice H2.out
  go_wp2_with fail
  refine (HC.out _ w2 H2.out).mono ?_
  rintro e w3 ⟨g, m, hm, rfl, _, _, x3⟩
  have X3 := Lib.hid (X2.out.trans x3)
  have HM := Lib.hid (show m = l.length by rw [hm]; simp)
  clear hm x3
  go_wp2
  go_ret
  exact ⟨g, m, HM.out, rfl, X3.out⟩
end Go.Proofs.YtlhkehfplcclgaaDoor
