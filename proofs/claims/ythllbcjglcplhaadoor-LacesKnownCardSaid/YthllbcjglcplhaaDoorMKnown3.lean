/- Texts of this claim in one file: libraries and walks. -/
import Derived.Deep.CutRange
import Derived.Deep.CutBlock
import Derived.Deep.LoopGhost
import Derived.Test.YthllbcjglcplhaaDoorL3
import Derived.Test.YthllbcjglcplhaaDoorL5
import Derived.Test.YthllbcjglcplhaaDoorL11
import Derived.Test.YthllbcjglcplhaaDoorL15
import Derived.Test.YthllbcjglcplhaaDoorL16
import Derived.Test.YthllbcjglcplhaaDoorL17
import Derived.Test.YthllbcjglcplhaaDoorL18
import Derived.Test.YthllbcjglcplhaaDoorL19
import Derived.Test.YthllbcjglcplhaaDoorMKnown0
import Derived.Test.YthllbcjglcplhaaDoorMKnown1
import Derived.Test.YthllbcjglcplhaaDoorMKnown2
/- LacesText. -/
namespace Go.Proofs.YthllbcjglcplhaaDoor
set_option linter.unusedVariables false
set_option linter.unusedSimpArgs false
set_option maxRecDepth 8000
open Go Go.RowKit

set_option maxHeartbeats 16000000 in
theorem LacesText_walk (wd : Int) (v : Value) (c : Nat) (chs : List (List Int)) (s : ByteArray) (w : World) (h : ISS .u8 w v c chs) (hw : 0 ≤ wd ∧ wd ≤ 255) (hb : ∀ k, k < chs.length → ∀ i, i < (ri chs k).length → 0 ≤ gi (ri chs k) i ∧ gi (ri chs k) i ≤ 255) (hy : Sy w) (hm : Mx w) :
    Calls Tryd.prog 9 #[.agg #[.int .u8 wd, v], .string s] w (RetT w) := by
  have hof := fun w' (x : Ext w w') => AOf_calls wd v c chs w' (h.ext x) hw hb
  have hlv := fun w' (x : Ext w w') => lives20_calls w' (hy.ext x)
  have HMx := Lib.hid (fun w' (x : Ext w w') => hm.ext x)
  obtain ⟨vs, caps, hV⟩ := h
  obtain ⟨ao, n0, rfl, hn, hc, hcm, hat⟩ := hV.outs2
  obtain ⟨B, hB⟩ : ∃ B, B = w.alloc (.cells #[.int .u8 wd, .slice ao n0 c] 56) := ⟨_, rfl⟩
  have xB : Ext w B := by rw [hB]; exact (Ext.refl w).alloc _
  have hB1 := B2.new w (.int .u8 wd) (.slice ao n0 c) 56
  rw [← hB] at hB1
  have e0 := hB1.c0; have e1 := hB1.c1
  have HOf := Lib.hid (hof B xB); have HLv := Lib.hid hlv; have XB := Lib.hid xB; have HB := Lib.hid hB
  rw [hB] at e0 e1
  clear hV hn hc hcm hat hB xB hB1 hof hlv hw hb hy hm
  go_enter Tryd.func9, Tryd.ntmps9
  by_cases h6 : 600 < s.size
  · have t0 : (600 : Int) < s.size := by omega
    clear h6
    go_wp2
    go_ret
    exact ⟨rfl, (Ext.refl w).alloc _⟩
  have t0 : ¬ (600 : Int) < s.size := by omega
  have Hs6 := Lib.hid (show s.size ≤ 600 by omega)
  clear h6
  go_wp2_with fail
  rw [← HB.out]
  refine HOf.out.mono ?_
  rintro e w1 ⟨V, v1, c1, rows, rfl, hr, hk, hr9, x1⟩
  obtain ⟨⟨hV2, hV16⟩, hrl, hbl, hbp⟩ := lace_bd hk
  obtain ⟨a1, N, rfl, hN, o1, o2, o3⟩ := hr.open
  obtain ⟨W1, hW1⟩ : ∃ W1, W1 = w1.alloc (.cells #[.int .i64 (V : Int), .slice a1 N c1] 24) := ⟨_, rfl⟩
  have xW1 : Ext w1 W1 := by rw [hW1]; exact (Ext.refl w1).alloc _
  have hb3 : B2 W1 w1.heap.size (.int .i64 (V : Int)) (.slice a1 N c1) 24 := by rw [hW1]; exact B2.new _ _ _ _
  obtain ⟨S, hS⟩ : ∃ S, S = bstr (ltx V rows) := ⟨_, rfl⟩
  have hT1 := RText20_calls V _ _ rows W1 (hr.ext xW1) hk
  have hT2 := fun w' (x : Ext W1 w') => LText_calls V _ _ rows w' (hr.ext (xW1.trans x))
  rw [← hS] at hT1 hT2
  have hSs : S.size ≤ 100000 := by
    rw [hS, bstr_size]
    unfold ltx
    rw [if_pos hk, Int.toNat_natCast, rT_len]
    have : (V + 1) * rows.length ≤ 17 * 9 := Nat.mul_le_mul (by omega) hr9
    omega
  have hpS : pR S.data.toList = some (V, rows) := by rw [hS]; exact text_pR hk
  have hP1 := fun w' (m : Mx w') => Parse_calls S w' hSs m
  rw [hpS] at hP1
  have HT1 := Lib.hid hT1; have HT2 := Lib.hid hT2; have HP1 := Lib.hid hP1
  have HW1 := Lib.hid hW1; have HB3 := Lib.hid (fun w' (x : Ext W1 w') => hb3.ext x); have X1 := Lib.hid (XB.out.trans (x1.trans xW1))
  have HR1 := Lib.hid (fun w' (x : Ext W1 w') => hr.ext (xW1.trans x)); have Hk := Lib.hid hk; have HN := Lib.hid hN
  have f0 := hb3.c0; have f1 := hb3.c1
  rw [hW1] at f0 f1
  clear hr hk x1 xW1 hb3 hW1 hbl hbp hr9 hrl e0 e1 HOf o1 o2 o3 hN hT1 hT2 hP1 hSs hpS hS
  go_wp2_with fail
  rw [← HW1.out]
  refine HT1.out.mono ?_
  rintro e w2 ⟨rfl, x2⟩
  have X2 := Lib.hid (X1.out.trans x2); have Y2 := Lib.hid x2
  clear f0 f1
  have f0 := (HB3.out _ x2).c0; have f1 := (HB3.out _ x2).c1
  clear x2 HT1
  go_wp2_with fail
  refine (HP1.out _ (HMx.out _ X2.out)).mono ?_
  intro e w3 hp3
  obtain ⟨x3, v3, rfl, hr3⟩ := hp3
  rw [← HN.out] at hr3
  obtain ⟨a3, n3, rfl, hn3, o2, o3, o4⟩ := hr3.open
  obtain rfl : N = n3 := by rw [HN.out, hn3]
  obtain ⟨W3, hW3⟩ : ∃ W3, W3 = w3.alloc (.cells #[.int .i64 (V : Int), .slice a3 N N] 24) := ⟨_, rfl⟩
  have xW3 : Ext w3 W3 := by rw [hW3]; exact (Ext.refl w3).alloc _
  have hb7 : B2 W3 w3.heap.size (.int .i64 (V : Int)) (.slice a3 N N) 24 := by rw [hW3]; exact B2.new _ _ _ _
  have HW3 := Lib.hid hW3; have HB7 := Lib.hid (fun w' (x : Ext W3 w') => hb7.ext x); have Y3 := Lib.hid (Y2.out.trans (x3.trans xW3)); have X3 := Lib.hid (X2.out.trans (x3.trans xW3))
  have HR3 := Lib.hid (fun w' (x : Ext W3 w') => hr3.ext (xW3.trans x))
  clear f0 f1
  have f0 := (HB3.out _ Y3.out).c0; have f1 := (HB3.out _ Y3.out).c1
  have f2 := hb7.c0; have f3 := hb7.c1
  rw [hW3] at f0 f1 f2 f3
  clear hr3 x3 xW3 hb7 hW3 HP1 o2 o3 o4 hn3
  have tS : (S.toList == S.toList) = true := str_eq rfl
  have tS2 : (S.toList != S.toList) = false := by rw [bne, tS]; rfl
  go_wp2_with fail
  rw [← HW3.out]
  refine (HT2.out _ Y3.out).mono ?_
  rintro e w4 ⟨rfl, x4⟩
  have X4 := Lib.hid (X3.out.trans x4); have Y4 := Lib.hid (Y3.out.trans x4); have Z4 := Lib.hid x4
  clear f0 f1 f2 f3
  have f0 := (HB3.out _ Y4.out).c0; have f1 := (HB3.out _ Y4.out).c1
  have f2 := (HB7.out _ x4).c0; have f3 := (HB7.out _ x4).c1
  have hdf := HDiffer_calls V V _ _ _ _ rows rows w4 (HR3.out _ x4) (HR1.out _ Y4.out)
  rw [hdif_same] at hdf
  have HDf := Lib.hid hdf
  clear x4 HT2 hdf
  go_wp2_with fail
  refine HDf.out.mono ?_
  rintro e w5 ⟨rfl, x5⟩
  have X5 := Lib.hid (X4.out.trans x5); have Y5 := Lib.hid (Y4.out.trans x5); have Z5 := Lib.hid (Z4.out.trans x5)
  clear f2 f3
  have f2 := (HB7.out _ Z5.out).c0; have f3 := (HB7.out _ Z5.out).c1
  obtain ⟨PR, hPR⟩ : ∃ PR, PR = pR s.data.toList := ⟨_, rfl⟩
  have hps := Parse_calls s w5 (by have := Hs6.out; omega) (HMx.out _ X5.out)
  rw [← hPR] at hps
  have HPs := Lib.hid hps; have HPR := Lib.hid hPR
  clear x5 HDf f0 f1 tS tS2 hps hPR
  go_wp2_with fail
  refine HPs.out.mono ?_
  intro e w6 hp6
  obtain ⟨x6, WW, au, nu, cu, EE, rfl, hres⟩ : Ext w5 w6 ∧ ∃ (WW : Int) (au : Option Addr) (nu cu : Nat) (EE : Int), e = .returned (.tuple #[.agg #[.int .i64 WW, .slice au nu cu], .int .i64 EE]) ∧ ((PR = none ∧ EE = 4 ∧ nu = 0) ∨ (∃ (W : Nat) (rr : List (List Ho)), PR = some (W, rr) ∧ EE = 0 ∧ WW = (W : Int) ∧ HR w6 (.slice au nu cu) cu rr)) := by
    unfold RetP at hp6
    obtain ⟨x6, hp⟩ := hp6
    refine ⟨x6, ?_⟩
    rcases PR with _ | ⟨W, rr⟩
    · exact ⟨0, none, 0, 0, 4, hp, .inl ⟨rfl, rfl, rfl⟩⟩
    · obtain ⟨v, h1, h2⟩ := hp
      obtain ⟨au, nu, rfl, _⟩ := h2.open
      exact ⟨_, au, nu, _, 0, h1, .inr ⟨W, rr, rfl, rfl, rfl, h2⟩⟩
  clear hp6
  have Hres := Lib.hid hres
  obtain ⟨WB, hWB⟩ : ∃ WB, WB = w6.alloc (.cells #[.int .i64 WW, .slice au nu cu] 24) := ⟨_, rfl⟩
  have xWB : Ext w6 WB := by rw [hWB]; exact (Ext.refl _).alloc _
  have hszB : WB.heap.size = w6.heap.size + 1 := by rw [hWB]; simp
  have hb9 : B2 WB w6.heap.size (.int .i64 WW) (.slice au nu cu) 24 := by rw [hWB]; exact B2.new _ _ _ _
  obtain ⟨W7, hW7⟩ : ∃ W7, W7 = WB.alloc (.cells #[.int .i64 0, .slice none 0 0] 24) := ⟨_, rfl⟩
  have xW7 : Ext WB W7 := by rw [hW7]; exact (Ext.refl _).alloc _
  have hb11 : B2 W7 (w6.heap.size + 1) (.int .i64 0) (.slice none 0 0) 24 := by rw [← hszB, hW7]; exact B2.new _ _ _ _
  have HC0 := Lib.hid (show HC WB W7 (.slice none 0 0) [] from HC.nil xW7); have HB11 := Lib.hid hb11
  have HB9 := Lib.hid (fun w' (x : Ext WB w') => hb9.ext x); have XWB := Lib.hid (fun w' (x : Ext WB w') => xWB.trans x); have XS := Lib.hid (fun w' (x : Ext WB w') => X5.out.trans (x6.trans (xWB.trans x)))
  have HszB := Lib.hid hszB
  have HW7 := Lib.hid (show W7 = (w6.alloc (.cells #[.int .i64 WW, .slice au nu cu] 24)).alloc (.cells #[.int .i64 0, .slice none 0 0] 24) from by rw [hW7, hWB])
  have HXW7 := Lib.hid xW7
  clear x6 hres hWB xWB hb9 hW7 xW7 hb11 f2 f3 HPs hszB
  by_cases hs0 : s.size = 0
  · obtain rfl : s = { data := #[] } := by
      apply bytes_eq
      have : (s.data.toList).length = 0 := by rw [Array.length_toList]; exact hs0
      exact List.eq_nil_of_length_eq_zero this
    have hPn : PR = none := HPR.out.trans pR_nil
    rcases Hres.out with ⟨_, rfl, rfl⟩ | ⟨W, rr, h, _⟩
    case inr => rw [hPn] at h; cases h
    clear hs0 hPn t0
    go_wp2
    rw [← HW7.out]
    go_loopw [12, 13, 14, 15, 16] (fun bd _ i _ _ wr => bd = .bool true ∧ i = .int .i64 0 ∧ Hid (Ext WB wr)) (fun _ _ _ _ _ _ => 0)
    case atStart => exact ⟨rfl, rfl, Lib.hid HXW7.out⟩
    case round =>
      obtain ⟨rfl, rfl, HX⟩ := hrel
      have f2 := (HB9.out _ HX.out).c0; have f3 := (HB9.out _ HX.out).c1
      go_wp2_with fail
      refine (HLv.out _ (XS.out _ HX.out)).mono ?_
      rintro e w8 ⟨rfl, x8⟩
      have X8 := Lib.hid ((XS.out _ HX.out).trans x8)
      clear x8 f2 f3
      go_wp2
      go_ret
      exact ⟨rfl, X8.out⟩
  obtain ⟨m0, hm0⟩ : ∃ m0, s.size = m0 + 1 := ⟨s.size - 1, by omega⟩
  have Hm0 := Lib.hid hm0
  have hlt0 : m0 < s.size := by omega
  have hgm := getD_at hlt0
  have hc0 : ∃ c0 : Int, ((s[m0]'hlt0).toNat : Int) = c0 := ⟨_, rfl⟩
  obtain ⟨c0, hc0⟩ := hc0
  obtain ⟨b0, hb0⟩ : ∃ b0, (c0 != 10) = b0 := ⟨_, rfl⟩
  have hbd : b0 = true ↔ s.data.toList.getD m0 0 ≠ 10 := by
    rw [hgm, ← hb0, bne_iff_ne, ← hc0]
    constructor
    · intro h1 h2; rw [h2] at h1; exact h1 rfl
    · intro h1 h2; exact h1 (UInt8.toNat_inj.1 (by show _ = 10; omega))
  have HTx := Lib.hid (TxR.start (M := w6.heap.size + 1) HC0.out HB11.out b0 hm0 hbd)
  rw [← HPR.out] at HTx
  have Hbd := Lib.hid hbd
  have tnb := str_nonempty (a := s) (by omega)
  have tne : s ≠ { data := #[] } := fun e => by
    have h0 : (0 : Nat) = m0 + 1 := by rw [e] at hm0; exact hm0
    omega
  have w0 : IntKind.i64.wrap ((s.size : Int) - 1) = (m0 : Int) := by rw [hm0]; have := Hs6.out; rw [show ((m0 + 1 : Nat) : Int) - 1 = (m0 : Int) by omega]; exact IntWalk.i64_in _ ⟨by omega, by omega⟩
  have t1 : (0 : Int) ≤ m0 := by omega
  have t2 : (m0 : Int) < s.size := by omega
  clear hs0 hbd hgm hm0
  go_wp2
  rw [← HW7.out]
  clear w0 t1 t2 tnb tne hc0 hb0 hlt0
  go_loopw [12, 13, 14, 15, 16] (fun bd ln i _ _ wr => ∃ (b : Bool) (L : ByteArray) (k : Nat), bd = .bool b ∧ ln = .string L ∧ i = .int .i64 k ∧ k ≤ s.size ∧ L.size ≤ k ∧ Hid (b0 = true → b = true) ∧ Hid (TxR PR s.data.toList WB (w6.heap.size + 1) b L k wr)) (fun _ _ i _ _ _ => s.size - (intOf i).toNat)
  case atStart => exact ⟨b0, ⟨#[]⟩, 0, rfl, rfl, rfl, Nat.zero_le _, Nat.zero_le _, Lib.hid (fun h => h), HTx⟩
  case round =>
    obtain ⟨b, L, k, rfl, rfl, rfl, hk, hL, HB0, HT⟩ := hrel
    have s6 := Hs6.out
    cases b
    case true =>
      have hPn : PR = none := by
        rcases HT.out.2 with ⟨_, h⟩ | ⟨h, _⟩
        · exact h
        · cases h
      have HX := Lib.hid HT.out.1
      rcases Hres.out with ⟨_, rfl, rfl⟩ | ⟨W, rr, h, _⟩
      case inr => rw [hPn] at h; cases h
      have f2 := (HB9.out _ HX.out).c0; have f3 := (HB9.out _ HX.out).c1
      clear hPn
      rcases Nat.lt_or_ge k s.size with h | h
      · have t1 : (k : Int) < s.size := by omega
        clear h hk
        go_wp2_with fail
        refine (HLv.out _ (XS.out _ HX.out)).mono ?_
        rintro e w8 ⟨rfl, x8⟩
        have X8 := Lib.hid ((XS.out _ HX.out).trans x8)
        clear x8 f2 f3
        go_wp2
        go_ret
        exact ⟨rfl, X8.out⟩
      · have t1 : ¬ (k : Int) < s.size := by omega
        clear h hk
        go_wp2_with fail
        refine (HLv.out _ (XS.out _ HX.out)).mono ?_
        rintro e w8 ⟨rfl, x8⟩
        have X8 := Lib.hid ((XS.out _ HX.out).trans x8)
        clear x8 f2 f3
        go_wp2
        go_ret
        exact ⟨rfl, X8.out⟩
    by_cases hlt : k < s.size
    · have t1 : (k : Int) < s.size := by omega
      have t1' : (0 : Int) ≤ k := by omega
      have HX := Lib.hid HT.out.1
      obtain ⟨c8, hc8⟩ : ∃ c8 : Int, ((s[k]'hlt).toNat : Int) = c8 := ⟨_, rfl⟩
      by_cases h10 : c8 = 10
      case neg =>
        have t2 : (c8 != 10) = true := bne_iff_ne.2 h10
        have hne : (s[k]'hlt) ≠ 10 := fun e => h10 (by rw [← hc8, e]; rfl)
        have HN2 := Lib.hid (HT.out.char hlt hne)
        have hsz : (s.extract k (k + 1)).size = 1 := by rw [ByteArray.size_extract]; omega
        have t3 : ¬ 9223372036854775807 < L.size + (s.extract k (k + 1)).size := by omega
        have wk : IntKind.i64.wrap ((k : Int) + 1) = (k : Int) + 1 := IntWalk.i64_in _ ⟨by omega, by omega⟩
        have t4 : (k : Int) + 1 ≤ s.size := by omega
        have t5 : (k : Int) ≤ (k : Int) + 1 := by omega
        have t6 : (0 : Int) ≤ (k : Int) + 1 := by omega
        have Hsz := Lib.hid hsz
        clear h10 hne hsz
        go_wp2
        go_roundw
        case rel => exact ⟨false, L ++ s.extract k (k + 1), k + 1, rfl, rfl, by go_num, by omega, by rw [ByteArray.size_append, Hsz.out]; omega, HB0, HN2⟩
        case measure => simp [intOf]; omega
      have t2 : (c8 != 10) = false := by rw [h10]; rfl
      have hee : (s[k]'hlt) = 10 := UInt8.toNat_inj.1 (by show _ = 10; omega)
      have hdr := drop_at hlt
      rw [hee] at hdr
      obtain ⟨d, v, hc, hb, hpa, hal, _, hdk⟩ : ∃ (d : List (List UInt8)) (v : Value), HC WB wr v (pRw d) ∧ B2 wr (w6.heap.size + 1) (.int .i64 ((d.headD []).length : Nat)) v 24 ∧ pA s.data.toList [] = (pA (s.data.toList.drop k) L.data.toList).map (d ++ ·) ∧ d.all (okL (d.headD []).length) = true ∧ (L.data.toList ≠ [] → s.data.toList.getD (k - 1) 0 ≠ 10) ∧ d.length ≤ k := by
        rcases HT.out.2 with ⟨h, _⟩ | ⟨_, h⟩
        · cases h
        · exact h
      have HPA := Lib.hid (tx_nl hdr hpa); have HAl := Lib.hid hal; have HCo := Lib.hid hc; have HMb := Lib.hid hb
      obtain ⟨al, nl, cl, rfl, hnl⟩ := hc.form
      rw [pRw_len] at hnl
      have Hnl := Lib.hid hnl
      obtain ⟨DL, hDL⟩ : ∃ DL, DL = (d.headD []).length := ⟨_, rfl⟩
      rw [← hDL] at HMb
      have HDL := Lib.hid hDL
      have Hdk := Lib.hid hdk
      have hrd := RRead_calls L wr (by omega)
      rw [bts_bi] at hrd
      have HRd := Lib.hid hrd
      have HLs := Lib.hid (data_size L)
      clear h10 hee hdr hc hb hpa hal hnl hdk hDL hrd
      go_wp2_with fail
      clear hc8 t2
      refine HRd.out.mono ?_
      intro e w8 hrt
      obtain ⟨x8, vh, ok, rfl, hvh, hok⟩ : Ext wr w8 ∧ ∃ (vh : Value) (ok : Int), e = .returned (.tuple #[vh, .int .i64 ok]) ∧ HV w8 vh (hsl L.data.toList) ∧ ((ok = 0 ∧ rdL 0 (bi L.data.toList) = none) ∨ (ok = 1 ∧ (rdL 0 (bi L.data.toList)).isSome = true)) := by
        unfold RetRf at hrt
        obtain ⟨x8, hrt⟩ := hrt
        refine ⟨x8, ?_⟩
        unfold hsl
        rcases hrr : rdL 0 (bi L.data.toList) with _ | r
        · rw [hrr] at hrt
          exact ⟨_, 0, hrt, .inl ⟨rfl, rfl⟩, .inl ⟨rfl, rfl⟩⟩
        · rw [hrr] at hrt
          obtain ⟨v, h1, h2⟩ := hrt
          exact ⟨v, 1, h1, h2, .inr ⟨rfl, rfl⟩⟩
      clear hrt
      have hX8 := HX.out.trans x8
      have hN8 : w6.heap.size + 1 < w8.heap.size := (HMb.out.ext x8).lt
      have hco8 := HCo.out.later x8
      have hwb : WB.heap.size ≤ w6.heap.size + 1 := by rw [HszB.out]; exact Nat.le_refl _
      obtain ⟨W9, hW9⟩ : ∃ W9, W9 = w8.setCell ⟨w6.heap.size + 1, 0, none⟩ (.int .i64 (L.size : Nat)) := ⟨_, rfl⟩
      have hco9 : HC WB W9 (.slice al nl cl) (pRw d) := by rw [hW9]; exact hco8.setOther (a := ⟨w6.heap.size + 1, 0, none⟩) (HMb.out.ext x8) (by decide) (by decide) hwb
      have hvh9 : HV W9 vh (hsl L.data.toList) := by rw [hW9]; exact hvh.setOther (a := ⟨w6.heap.size + 1, 0, none⟩) (HMb.out.ext x8) (by decide)
      have hmb9 : B2 W9 (w6.heap.size + 1) (.int .i64 (L.size : Nat)) (.slice al nl cl) 24 := by rw [hW9]; exact (HMb.out.ext x8).set0
      have HCo9 := Lib.hid hco9; have HV9 := Lib.hid hvh9; have HM9 := Lib.hid hmb9; have HW9 := Lib.hid hW9
      have h9s : W9.heap.size = w8.heap.size := by rw [hW9]; simp
      have H9s := Lib.hid h9s
      have q0 := (HMb.out.ext x8).c0; have q1 := (HMb.out.ext x8).c1; have p0 := (HMb.out.ext x8).f0
      have r1 := hmb9.alloc (.cells #[vh] 37) |>.c1
      rw [hW9] at r1
      obtain ⟨ah, nh, ch, rfl, hnh⟩ := hvh.form
      have Hrl := Lib.hid (show (pRw d).length ≤ 100000 by rw [pRw_len]; have := Hdk.out; omega)
      have Hwb := Lib.hid hwb
      have tdl0 : (0 : Int) ≤ nl := by omega
      clear hX8 hco8 hvh hwb hW9 hco9 hvh9 hmb9 x8 hnh h9s
      have hcs : (∃ b, (b = true ∧ PR = none ∧ ((ok == 0) = true ∨ ((ok == 0) = false ∧ 0 < nl ∧ ((L.size : Int) != (DL : Int)) = true))) ∨ (b = false ∧ (ok == 0) = false ∧ (nl = 0 ∨ (0 < nl ∧ ((L.size : Int) != (DL : Int)) = false)) ∧ (d ++ [L.data.toList]).all (okL ((d ++ [L.data.toList]).headD []).length) = true ∧ ((d ++ [L.data.toList]).headD []).length = L.size)) := by
        have hls := HLs.out
        have hdl := HDL.out
        rcases hok with ⟨rfl, hr⟩ | ⟨rfl, hr⟩
        · exact ⟨true, .inl ⟨rfl, HPR.out.trans (tx_bad HPA.out (.inl hr)), .inl rfl⟩⟩
        · by_cases hn0 : nl = 0
          · have hd : d = [] := List.eq_nil_of_length_eq_zero (by rw [← Hnl.out]; exact hn0)
            obtain ⟨g1, g2⟩ := tx_good HAl.out hr (.inl hd)
            exact ⟨false, .inr ⟨rfl, rfl, .inl hn0, g1, g2.trans hls.symm⟩⟩
          · by_cases hq : L.size = DL
            · obtain ⟨g1, g2⟩ := tx_good HAl.out hr (.inr (by rw [← hdl, ← hq, hls]))
              exact ⟨false, .inr ⟨rfl, rfl, .inr ⟨by omega, by rw [hq]; exact bne_self_eq_false _⟩, g1, g2.trans hls.symm⟩⟩
            · refine ⟨true, .inl ⟨rfl, HPR.out.trans (tx_bad HPA.out (.inr ⟨fun e => hn0 (by rw [Hnl.out, e]; rfl), by rw [← hdl, ← hls]; exact hq⟩)), .inr ⟨rfl, by omega, bne_iff_ne.2 (by omega)⟩⟩⟩
      clear hok
      have Hnx := Lib.hid (show ∀ v' w', HC WB w' v' (hsl L.data.toList :: pRw d) → B2 w' (w6.heap.size + 1) (.int .i64 (L.size : Nat)) (.slice al nl cl) 24 → HC WB (w'.setCell ⟨w6.heap.size + 1, 1, none⟩ v') v' (pRw (d ++ [L.data.toList])) from fun v' w' h1 h3 => by
        rw [pRw_app]
        exact h1.setOther (a := ⟨w6.heap.size + 1, 1, none⟩) h3 (by decide) (by decide) Hwb.out)
      obtain ⟨b, ⟨rfl, hPn, ht⟩ | ⟨rfl, tok, ht, hg1, hg2⟩⟩ := hcs
      · have HPn := Lib.hid hPn
        clear hPn
        rcases ht with tok | ⟨tok, tn, td⟩
        case' inr =>
          have tn' : (0 : Int) < nl := by omega
          clear tn
        all_goals (
          go_wp2_with (at_builtin; rw [← HW9.out]; go_loud (refine app_pre rfl _ _ rfl WB _ _ rfl HCo9.out _ _ HV9.out w8.heap.size rfl H9s.out.symm Hrl.out ?_))
          intro v' w' hco' hkeep
          have hn2 : B2 w' (w6.heap.size + 1) (.int .i64 (L.size : Nat)) (.slice al nl cl) 24 := by first | exact hkeep _ _ _ _ HM9.out (by decide) | exact hkeep _ _ _ _ _ HM9.out (by decide)
          have hn1 := Hnx.out v' w' hco' hn2
          obtain ⟨a2, n2, c2', rfl, hn3⟩ := hco'.form
          have HN := Lib.hid hn1.1
          have g1 := hn2.c1; have g2 := hn2.f1
          clear hco' hkeep hn1 hn2 hn3 q0 q1 p0 r1
          go_wp2
          go_roundw
          case rel => exact ⟨true, ⟨#[]⟩, k + 1, rfl, rfl, by go_num, by omega, Nat.zero_le _, Lib.hid (fun _ => rfl), Lib.hid ⟨HN.out, .inl ⟨rfl, HPn.out⟩⟩⟩
          case measure => simp [intOf]; omega)
      · have Hg1 := Lib.hid hg1; have Hg2 := Lib.hid hg2
        clear hg1 hg2
        rcases ht with tn | ⟨tn, td⟩
        case' inl =>
          have tn' : ¬ (0 : Int) < nl := by omega
        case' inr =>
          have tn' : (0 : Int) < nl := by omega
        all_goals clear tn
        all_goals (
          go_wp2_with (at_builtin; rw [← HW9.out]; go_loud (refine app_pre rfl _ _ rfl WB _ _ rfl HCo9.out _ _ HV9.out w8.heap.size rfl H9s.out.symm Hrl.out ?_))
          intro v' w' hco' hkeep
          have hn2 : B2 w' (w6.heap.size + 1) (.int .i64 (L.size : Nat)) (.slice al nl cl) 24 := by first | exact hkeep _ _ _ _ HM9.out (by decide) | exact hkeep _ _ _ _ _ HM9.out (by decide)
          have hn1 := Hnx.out v' w' hco' hn2
          obtain ⟨a2, n2, c2', rfl, hn3⟩ := hco'.form
          have HN := Lib.hid (show TxR PR s.data.toList WB (w6.heap.size + 1) false ⟨#[]⟩ (k + 1) (w'.setCell ⟨w6.heap.size + 1, 1, none⟩ (.slice a2 n2 c2')) from ⟨hn1.1, .inr ⟨rfl, d ++ [L.data.toList], _, hn1, by rw [Hg2.out]; exact hn2.set1, HPA.out, Hg1.out, fun h => absurd rfl h, by have := Hdk.out; simp; omega⟩⟩)
          have g1 := hn2.c1; have g2 := hn2.f1
          clear hco' hkeep hn1 hn2 hn3 q0 q1 p0 r1
          go_wp2
          go_roundw
          case rel => exact ⟨false, ⟨#[]⟩, k + 1, rfl, rfl, by go_num, by omega, Nat.zero_le _, HB0, HN⟩
          case measure => simp [intOf]; omega)
    · obtain rfl : k = s.size := by omega
      have t1 : ¬ (s.size : Int) < s.size := by omega
      have HX := Lib.hid HT.out.1
      have hb0 : b0 = false := by
        cases b0
        · rfl
        · exact absurd (HB0.out rfl) (by simp)
      have hl10 : s.data.toList.getD m0 0 = 10 := Classical.byContradiction fun e => by
        have := Hbd.out.2 e; rw [hb0] at this; cases this
      obtain ⟨W, vo, ro, hc, hb, hpr⟩ := HT.out.done Hm0.out hl10 HPR.out
      obtain ⟨cc, hro⟩ := hc.rr
      obtain ⟨al, nl, cl, rfl, hnl7⟩ := hc.form
      clear hnl7
      have hck := RCheck20_calls W _ _ ro wr hro
      have hlw := fun (h : lchk W ro = 0) => (pR_text (HPR.out.symm.trans (hpr.trans (if_pos h)))).2
      obtain ⟨LC, hLC⟩ : ∃ LC, LC = lchk W ro := ⟨_, rfl⟩
      rw [← hLC] at hck hpr hlw
      have HCk := Lib.hid hck; have HRo := Lib.hid hro; have HPr := Lib.hid hpr; have HLw := Lib.hid hlw; have HMo := Lib.hid hb
      have q0 := hb.c0; have q1 := hb.c1
      clear hb0 hl10 hc hro hb hpr hck hlw hLC hlt hk hL
      go_wp2_with fail
      refine HCk.out.mono ?_
      rintro e w8 ⟨rfl, x8⟩
      have X8 := Lib.hid (HX.out.trans x8); have Z8 := Lib.hid x8
      have f2 := (HB9.out _ X8.out).c0; have f3 := (HB9.out _ X8.out).c1
      replace q0 := x8.cell q0; replace q1 := x8.cell q1
      clear x8 HCk
      by_cases hL0 : LC = 0
      · have hpr := HPr.out
        rw [if_pos hL0] at hpr
        rcases Hres.out with ⟨h, _⟩ | ⟨W', rr, h, rfl, rfl, hgot⟩
        · rw [hpr] at h; cases h
        rw [hpr] at h
        simp only [Option.some.injEq, Prod.mk.injEq] at h
        obtain ⟨rfl, rfl⟩ := h
        have hdf := HDiffer_calls W W _ _ _ _ ro ro w8 (hgot.ext (XWB.out _ X8.out)) (HRo.out.ext Z8.out)
        rw [hdif_same] at hdf
        have htx := fun w' (x : Ext w8 w') => LText_calls W _ _ ro w' (hgot.ext (XWB.out _ (X8.out.trans x)))
        rw [HLw.out hL0, ← bts_bi, bstr_bts] at htx
        have HDf := Lib.hid hdf; have HTt := Lib.hid htx
        have tS : (s.toList == s.toList) = true := str_eq rfl
        subst hL0
        clear hpr hgot hdf htx
        go_wp2_with fail
        refine HDf.out.mono ?_
        rintro e w9 ⟨rfl, x9⟩
        have X9 := Lib.hid (X8.out.trans x9); have Z9 := Lib.hid x9
        have f2 := (HB9.out _ X9.out).c0; have f3 := (HB9.out _ X9.out).c1
        clear x9 HDf q0 q1
        go_wp2_with fail
        refine (HTt.out _ Z9.out).mono ?_
        rintro e w10 ⟨rfl, x10⟩
        have X10 := Lib.hid (X9.out.trans x10)
        clear x10 HTt f2 f3
        go_wp2_with fail
        refine (HLv.out _ (XS.out _ X10.out)).mono ?_
        rintro e w11 ⟨rfl, x11⟩
        have X11 := Lib.hid ((XS.out _ X10.out).trans x11)
        clear x11
        go_wp2
        go_ret
        exact ⟨rfl, X11.out⟩
      · have hpr := HPr.out
        rw [if_neg hL0] at hpr
        rcases Hres.out with ⟨_, rfl, rfl⟩ | ⟨W', rr, h, _⟩
        case inr => rw [hpr] at h; cases h
        have t2 : (LC != 0) = true := bne_iff_ne.2 hL0
        clear hL0 hpr
        go_wp2_with fail
        refine (HLv.out _ (XS.out _ X8.out)).mono ?_
        rintro e w9 ⟨rfl, x9⟩
        have X9 := Lib.hid ((XS.out _ X8.out).trans x9)
        clear x9 f2 f3 q0 q1
        go_wp2
        go_ret
        exact ⟨rfl, X9.out⟩
end Go.Proofs.YthllbcjglcplhaaDoor
/- ganseylaw12.K.Of. -/
namespace Go.Proofs.YthllbcjglcplhaaDoor
set_option linter.unusedVariables false
set_option linter.unusedSimpArgs false
set_option maxRecDepth 8000
open Go Go.RowKit

end Go.Proofs.YthllbcjglcplhaaDoor
/- ganseyref12.Loads: its list lies in a block of numbers. -/
namespace Go.Proofs.YthllbcjglcplhaaDoor
set_option linter.unusedVariables false
set_option linter.unusedSimpArgs false
set_option maxRecDepth 8000
open Go Go.RowKit

def RetLV (w0 : World) (xs : List Int) (err : Int) (e : Ending) (w' : World) : Prop := ∃ v, e = .returned (.tuple #[v, .int .i64 err]) ∧ IV w' v xs ∧ Ext w0 w'
theorem IV.lit1 (w : World) (x : Int) : IV (w.alloc (.cells #[.int .i64 x] 3)) (.slice (some ⟨w.heap.size, 0, Option.none⟩) 1 1) [x] :=
  .inr ⟨_, 1, fun _ => .int .i64 x, rfl, Nat.le_refl _, by unfold maxLen; omega, World.rowIs_alloc w #[.int .i64 x] 3 (fun _ => .int .i64 x) (fun i hi => by simp at hi; subst hi; rfl), fun i hi => by
    obtain rfl : i = 0 := by simpa using hi
    rfl⟩
set_option maxHeartbeats 4000000 in
theorem RLoads2_calls (s : St) (v : Value) (c : Nat) (xs : List Int) (w : World) (h : IS .i64 w v c xs) (hs : 0 ≤ s.k ∧ 0 ≤ s.y) : Calls Tryd.prog 46 #[s.val, v] w (RetLV w (s.lmade xs) (s.lerr xs)) := by
  have HB := Lib.hid (fun w' (x : Ext (w.alloc (.cells #[.int .u8 s.k, .int .u8 s.y, .int .i64 s.a, .int .i64 s.b, .bool s.f] 49)) w') => ((B5.new w s 49).ext x).at)
  have HV := Lib.hid (fun w' => Valid_calls s w' hs)
  have HNe := Lib.hid (fun w' => RNeeds_calls s w' hs)
  have HMa := Lib.hid (fun w' => RMakes_calls s w' hs)
  have hv : s.vld = if s.chk = 0 then 1 else 0 := rfl
  have hcc := St.chk_cases s
  have hnb := St.need_bd s
  have hmb := St.make_bd s
  have hn45 : s.chk = 0 → (s.k = 4 ∨ s.k = 5) → s.need = 2 := fun h h4 => by unfold St.need; rw [if_neg (by omega), if_neg (by omega), if_pos h4]
  have hn67 : s.chk = 0 → (s.k = 6 ∨ s.k = 7) → s.need = 1 := fun h h4 => by unfold St.need; rw [if_neg (by omega), if_neg (by omega), if_neg (by omega), if_neg (by omega)]
  have hm1 : s.chk = 0 → s.k ≠ 8 → s.make = 1 := fun h h8 => by unfold St.make; rw [if_neg (by omega), if_neg h8]
  have e1 : s.chk ≠ 0 → s.lerr xs = 1 := lerr_chk
  have e5 : s.chk = 0 → (xs.length : Int) ≠ s.need → s.lerr xs = 5 := lerr_len
  have eb : s.chk = 0 → (xs.length : Int) = s.need → ∀ i, i < xs.length → (gi xs i < 1 ∨ 3 < gi xs i) → s.lerr xs = 1 := fun a b i c d => lerr_bad a b c d
  have ei : s.chk = 0 → (xs.length : Int) = s.need → (∀ i, i < xs.length → 1 ≤ gi xs i ∧ gi xs i ≤ 3) → s.lerr xs = if s.k = 4 ∨ s.k = 5 then (if 4 < gi xs 0 + gi xs 1 then 9 else 0) else if s.k = 6 ∧ gi xs 0 = 3 then 9 else 0 := lerr_in
  have hbad : ∀ w' e, Ext w w' → s.lerr xs = e → e ≠ 0 → RetLV w (s.lmade xs) (s.lerr xs) (.returned (.tuple #[.slice none 0 0, .int .i64 e])) w' := fun w' e x h1 h2 => by
    rw [lmade_err (by omega), h1]; exact ⟨_, rfl, .inl ⟨rfl, rfl⟩, x⟩
  have hgood : ∀ w' u ys, Ext w w' → s.lerr xs = 0 → (if s.k = 6 then [gi xs 0 + 1] else if s.k = 7 then [gi xs 0] else List.replicate s.make.toNat 1) = ys → IV w' u ys → RetLV w (s.lmade xs) (s.lerr xs) (.returned (.tuple #[u, .int .i64 0])) w' := fun w' u ys x h1 h2 h3 => by
    have : s.lmade xs = ys := by unfold St.lmade; rw [if_neg (by omega)]; exact h2
    rw [this, h1]; exact ⟨u, rfl, h3, x⟩
  obtain ⟨ao, n, c', rfl, hn, rfl, hIS⟩ := h.out
  rw [← hn] at e5 eb ei
  obtain ⟨k, y, a, b, f⟩ := s
  unfold St.val at *
  simp only [] at HB HV HNe HMa hs hn45 hn67 hm1 ei hgood ⊢
  generalize St.need ⟨k, y, a, b, f⟩ = N at *
  generalize St.make ⟨k, y, a, b, f⟩ = M at *
  generalize St.vld ⟨k, y, a, b, f⟩ = V at *
  generalize St.chk ⟨k, y, a, b, f⟩ = C at *
  generalize St.lerr ⟨k, y, a, b, f⟩ xs = E at *
  generalize St.lmade ⟨k, y, a, b, f⟩ xs = L at *
  obtain ⟨W, hW⟩ : ∃ W, W = w.alloc (.cells #[.int .u8 k, .int .u8 y, .int .i64 a, .int .i64 b, .bool f] 49) := ⟨_, rfl⟩
  have xW : Ext w W := by rw [hW]; exact (Ext.refl w).alloc _
  rw [← hW] at HB
  have XW := Lib.hid xW; have HW := Lib.hid hW; have HI := Lib.hid (hIS.ext xW); have HBad := Lib.hid hbad; have HGood := Lib.hid hgood
  by_cases hC : C = 0
  · rw [if_pos hC] at hv
    subst hv
    by_cases hnN : (n : Int) = N
    · have HEb := Lib.hid (fun i hi hb => eb hC hnN i hi hb); have HEi := Lib.hid (fun hg => ei hC hnN hg); have H45 := Lib.hid (hn45 hC); have H67 := Lib.hid (hn67 hC); have HM1 := Lib.hid (hm1 hC)
      have tn : ((n : Int) != N) = false := by rw [hnN]; simp
      have hn4 : n ≤ 4 := by omega
      have HNn := Lib.hid hnN
      clear hcc e1 e5 eb ei hbad hgood hn45 hn67 hm1 hC h hIS hn xW hnN hs
      have hb0 := HB.out W (Ext.refl W)
      rw [hW] at hb0
      clear hW
      go_enter Tryd.func46, Tryd.ntmps46
      obtain ⟨c0, c1, c2, c3, c4⟩ := hb0
      simp only [Nat.zero_add] at c0 c1 c2 c3 c4
      go_wp2_with fail
      rw [← HW.out]
      refine (HV.out _).mono ?_
      rintro e w1 ⟨rfl, x1⟩
      have hb1 := HB.out _ x1
      have X1 := Lib.hid x1
      obtain ⟨c0, c1, c2, c3, c4⟩ := hb1
      simp only [Nat.zero_add] at c0 c1 c2 c3 c4
      clear x1 HV
      go_wp2_with fail
      refine (HNe.out _).mono ?_
      rintro e w2 ⟨rfl, x2⟩
      have X2 := Lib.hid (X1.out.trans x2)
      clear x2 HNe c0 c1 c2 c3 c4
      go_wp2
      go_loopw [6] (fun i wr => ∃ j : Nat, j ≤ n ∧ i = .int .i64 j ∧ Hid (Ext W wr) ∧ Hid (∀ i, i < j → 1 ≤ gi xs i ∧ gi xs i ≤ 3)) (fun i _ => n - (intOf i).toNat)
      case atStart => exact ⟨0, Nat.zero_le _, rfl, X2, Lib.hid (fun i hi => by omega)⟩
      case round =>
        obtain ⟨j, hj, rfl, HX, HG⟩ := hrel
        by_cases hlt : j < n
        · obtain ⟨bb, oo, rfl, hc⟩ := HI.out.at hlt
          replace hc := HX.out.cell (hc j hlt)
          have heb := HEb.out j hlt
          have HG2 := Lib.hid (show (1 ≤ gi xs j ∧ gi xs j ≤ 3) → ∀ i, i < j + 1 → 1 ≤ gi xs i ∧ gi xs i ≤ 3 from fun hh i hi => by
            by_cases e : i = j
            · rw [e]; exact hh
            · exact HG.out i (by omega))
          generalize gi xs j = z at *
          by_cases z1 : z = 1
          · have HG3 := Lib.hid (HG2.out (by omega))
            clear heb
            subst z1
            go_wp2
            go_roundw
            case rel => exact ⟨j + 1, by omega, by go_num, HX, HG3⟩
            case measure => simp [intOf]; omega
          by_cases z2 : z = 2
          · have HG3 := Lib.hid (HG2.out (by omega))
            clear heb z1
            subst z2
            go_wp2
            go_roundw
            case rel => exact ⟨j + 1, by omega, by go_num, HX, HG3⟩
            case measure => simp [intOf]; omega
          by_cases z3 : z = 3
          · have HG3 := Lib.hid (HG2.out (by omega))
            clear heb z1 z2
            subst z3
            go_wp2
            go_roundw
            case rel => exact ⟨j + 1, by omega, by go_num, HX, HG3⟩
            case measure => simp [intOf]; omega
          · have HF := Lib.hid (HBad.out wr 1 (XW.out.trans HX.out) (heb (by omega)) (by decide))
            have t1 : (z != 1) = true := by rw [bne, beq_eq_false_iff_ne.2 z1]; rfl
            have t2 : (z != 2) = true := by rw [bne, beq_eq_false_iff_ne.2 z2]; rfl
            have t3 : (z != 3) = true := by rw [bne, beq_eq_false_iff_ne.2 z3]; rfl
            clear heb z1 z2 z3
            go_wp2
            go_ret2
            exact HF.out
        · obtain rfl : n = j := by omega
          have hE := HEi.out HG.out
          have hb3 := HB.out _ HX.out
          obtain ⟨c0, c1, c2, c3, c4⟩ := hb3
          simp only [Nat.zero_add] at c0 c1 c2 c3 c4
          have tl : ¬ ((n : Int) < n) := by omega
          have hNn := HNn.out
          by_cases k45 : k = 4 ∨ k = 5
          · rw [if_pos k45] at hE
            have h2 := H45.out k45
            have hM := HM1.out (by omega)
            have hn2 : n = 2 := by omega
            subst hn2
            obtain ⟨bb, oo, rfl, hc⟩ := HI.out.at (show 0 < 2 by omega)
            have i0 := HX.out.cell (hc 0 (by omega))
            have i1 := HX.out.cell (hc 1 (by omega))
            rw [Nat.add_zero] at i0
            have g0 := HG.out 0 (by omega)
            have g1 := HG.out 1 (by omega)
            generalize gi xs 0 = x0 at *
            generalize gi xs 1 = x1 at *
            have wx : IntKind.i64.wrap (x0 + x1) = x0 + x1 := IntWalk.i64_in _ ⟨by omega, by omega⟩
            by_cases h4 : 4 < x0 + x1
            · rw [if_pos h4] at hE
              have HF := Lib.hid (fun w' x => HBad.out w' 9 x hE (by decide))
              clear hE h2 hM hNn hc
              rcases k45 with rfl | rfl
              all_goals
                go_wp2
                go_quiet (fail)
                go_wp2
                go_ret2
                exact HF.out _ (XW.out.trans (by first | exact HX.out.drewN _ | exact HX.out))
            · rw [if_neg h4] at hE
              clear h2 hNn hc
              rcases k45 with rfl | rfl
              all_goals
                have HE := Lib.hid hE; have HM := Lib.hid hM
                clear hE hM
                go_wp2
                go_quiet (fail)
                obtain ⟨wk, hwk⟩ : ∃ wk, wk = wr.drewN nq := ⟨_, rfl⟩
                have hxk : Ext W wk := by rw [hwk]; exact HX.out.drewN nq
                rw [← hwk]
                have hlit := IV.lit1 wk (1)
                have HF := Lib.hid (HGood.out (wk.alloc (.cells #[.int .i64 1] 3)) _ _ ((XW.out.trans hxk).alloc _) HE.out (by rw [if_neg (by omega), if_neg (by omega), HM.out]; rfl) hlit)
                clear hlit hxk hwk c0 c1 c2 c3 c4 i0 i1
                go_wp2
                go_ret2
                exact HF.out
          rw [if_neg k45] at hE
          have b4 : (k == 4) = false := beq_eq_false_iff_ne.2 (by omega)
          have b5 : (k == 5) = false := beq_eq_false_iff_ne.2 (by omega)
          clear k45
          by_cases k6 : k = 6
          · have h1 := H67.out (.inl k6)
            have hn1 : n = 1 := by omega
            subst hn1; subst k6
            obtain ⟨bb, oo, rfl, hc⟩ := HI.out.at (show 0 < 1 by omega)
            have i0 := HX.out.cell (hc 0 (by omega))
            rw [Nat.add_zero] at i0
            have g0 := HG.out 0 (by omega)
            generalize gi xs 0 = x0 at *
            by_cases h3 : x0 = 3
            · rw [if_pos ⟨rfl, h3⟩] at hE
              have HF := Lib.hid (HBad.out wr 9 (XW.out.trans HX.out) hE (by decide))
              clear hE h1 hNn hc
              subst h3
              go_wp2
              go_ret2
              exact HF.out
            · rw [if_neg (fun h => h3 h.2)] at hE
              have b3 : (x0 == 3) = false := beq_eq_false_iff_ne.2 h3
              have wx : IntKind.i64.wrap (x0 + 1) = x0 + 1 := IntWalk.i64_in _ ⟨by omega, by omega⟩
              clear h1 hNn hc h3
              have hlit := IV.lit1 wr (x0 + 1)
              have HF := Lib.hid (HGood.out (wr.alloc (.cells #[.int .i64 (x0 + 1)] 3)) _ _ ((XW.out.trans HX.out).alloc _) hE (by rw [if_pos rfl]) hlit)
              clear hlit hE
              go_wp2
              go_ret2
              exact HF.out
          have b6 : (k == 6) = false := beq_eq_false_iff_ne.2 k6
          rw [if_neg (fun h => k6 h.1)] at hE
          by_cases k7 : k = 7
          · have h1 := H67.out (.inr k7)
            have hn1 : n = 1 := by omega
            subst hn1; subst k7
            obtain ⟨bb, oo, rfl, hc⟩ := HI.out.at (show 0 < 1 by omega)
            have i0 := HX.out.cell (hc 0 (by omega))
            rw [Nat.add_zero] at i0
            generalize gi xs 0 = x0 at *
            clear h1 hNn hc
            have hlit := IV.lit1 wr (x0)
            have HF := Lib.hid (HGood.out (wr.alloc (.cells #[.int .i64 (x0)] 3)) _ _ ((XW.out.trans HX.out).alloc _) hE (by rw [if_neg (by omega), if_pos rfl]) hlit)
            clear hlit hE
            go_wp2
            go_ret2
            exact HF.out
          have b7 : (k == 7) = false := beq_eq_false_iff_ne.2 k7
          have HE := Lib.hid hE
          have hys : (if k = 6 then [gi xs 0 + 1] else if k = 7 then [gi xs 0] else List.replicate M.toNat 1) = List.replicate M.toNat 1 := by rw [if_neg k6, if_neg k7]
          have HYs := Lib.hid hys
          obtain ⟨m, hm⟩ : ∃ m : Nat, M = m := ⟨M.toNat, by omega⟩
          have hm4 : m ≤ 4 := by omega
          have HM2 := Lib.hid hm
          rw [hm] at HMa
          clear hE hys k6 k7 hNn hm
          obtain ⟨wk, hwk⟩ : ∃ wk : World, wk = wr := ⟨_, rfl⟩
          have HXk := Lib.hid (show Ext W wk by rw [hwk]; exact HX.out)
          rw [← hwk] at c0 c1 c2 c3 c4 ⊢
          clear hwk HX
          go_wp2
          go_loopw [7, 8] (fun l i wr => ∃ j : Nat, j ≤ m ∧ i = .int .i64 j ∧ Hid (wr.ownsRow W.heap.size 3 1 l j ((List.replicate j (1 : Int)).map (Value.int .i64)) ∧ Ext W wr)) (fun _ i _ => m - (intOf i).toNat)
          case atStart => exact ⟨0, Nat.zero_le _, rfl, Lib.hid ⟨World.ownsRow_nil _ _ _ _, HXk.out⟩⟩
          case round =>
            obtain ⟨j, hj, rfl, H⟩ := hrel
            have hb5 := HB.out _ H.out.2
            obtain ⟨c0, c1, c2, c3, c4⟩ := hb5
            simp only [Nat.zero_add] at c0 c1 c2 c3 c4
            go_wp2_with fail
            refine (HMa.out _).mono ?_
            rintro e w4 ⟨rfl, x4⟩
            have H4 := Lib.hid (And.intro (own_ext H.out.1 x4) (H.out.2.trans x4))
            clear x4 c0 c1 c2 c3 c4
            by_cases hjl : j < m
            · have hsz := H4.out.2.size
              go_wp2_with (at_builtin; refine app_own eiInt rfl _ _ rfl W.heap.size _ j _ rfl (H4.out.1.alloc _) _ _ _ rfl (VS.one _ _ _) (one1 _) ?d1 ?d2 ?d3 ?_)
              any_goals (first | omega | (simp; done) | (simp only [List.length_cons, List.length_nil]; omega) | (simp; omega))
              intro v' w' hown hbel
              have HO := Lib.hid (show w'.ownsRow W.heap.size 3 1 v' (j + 1) ((List.replicate (j + 1) (1 : Int)).map (Value.int .i64)) ∧ Ext W w' from ⟨by rw [rep_snoc, List.map_replicate]; exact hown, Below.trans (H4.out.2.alloc _) hbel⟩)
              clear hown hbel
              go_wp2
              go_roundw
              case rel => exact ⟨j + 1, by omega, by go_num, HO⟩
              case measure => simp [intOf]; omega
            · obtain rfl : m = j := by omega
              have hI := (IV.of_own H4.out.1).1
              have HF := Lib.hid (HGood.out _ _ _ (XW.out.trans H4.out.2) HE.out (by rw [HYs.out, HM2.out, Int.toNat_natCast]) hI)
              clear hI
              go_wp2
              go_ret2
              exact HF.out
    · have HF := Lib.hid (fun w' x => HBad.out w' 5 x (e5 hC hnN) (by decide))
      have tn : ((n : Int) != N) = true := by rw [bne, beq_eq_false_iff_ne.2 hnN]; rfl
      clear hcc e1 e5 eb ei hbad hgood hn45 hn67 hm1 hC h hIS hn xW hnN hs
      have hb0 := HB.out W (Ext.refl W)
      rw [hW] at hb0
      clear hW
      go_enter Tryd.func46, Tryd.ntmps46
      obtain ⟨c0, c1, c2, c3, c4⟩ := hb0
      simp only [Nat.zero_add] at c0 c1 c2 c3 c4
      go_wp2_with fail
      rw [← HW.out]
      refine (HV.out _).mono ?_
      rintro e w1 ⟨rfl, x1⟩
      have hb1 := HB.out _ x1
      have X1 := Lib.hid x1
      obtain ⟨c0, c1, c2, c3, c4⟩ := hb1
      simp only [Nat.zero_add] at c0 c1 c2 c3 c4
      clear x1 HV
      go_wp2_with fail
      refine (HNe.out _).mono ?_
      rintro e w2 ⟨rfl, x2⟩
      have HF2 := Lib.hid (HF.out _ (XW.out.trans (X1.out.trans x2)))
      clear x2 HNe c0 c1 c2 c3 c4
      go_wp2
      go_ret2
      exact HF2.out
  · have HF := Lib.hid (fun w' x => HBad.out w' 1 x (e1 hC) (by decide))
    rw [if_neg hC] at hv
    subst hv
    clear hcc e1 e5 eb ei hbad hgood hn45 hn67 hm1 hC h hIS hn xW hs
    have hb0 := HB.out W (Ext.refl W)
    rw [hW] at hb0
    clear hW
    go_enter Tryd.func46, Tryd.ntmps46
    obtain ⟨c0, c1, c2, c3, c4⟩ := hb0
    simp only [Nat.zero_add] at c0 c1 c2 c3 c4
    go_wp2_with fail
    rw [← HW.out]
    refine (HV.out _).mono ?_
    rintro e w1 ⟨rfl, x1⟩
    have HF2 := Lib.hid (HF.out _ (XW.out.trans x1))
    clear x1 HV
    go_wp2
    go_ret2
    exact HF2.out
end Go.Proofs.YthllbcjglcplhaaDoor
/- ganseylaw13.row: the walk. -/
namespace Go.Proofs.YthllbcjglcplhaaDoor
set_option linter.unusedVariables false
set_option linter.unusedSimpArgs false
set_option maxRecDepth 8000
open Go Go.RowKit

theorem own_zext {w w' : World} {B n z : Nat} {e : TypeId} {v : Value} {xs : List Value} (h : w.ownsRow B e z v n xs) (x : Ext w w') : w'.ownsRow B e z v n xs := by
  obtain ⟨h1, h2 | ⟨g, cap, cur, h3, h4, h5, h6⟩⟩ := h
  · exact ⟨h1, .inl h2⟩
  · exact ⟨h1, .inr ⟨g, cap, cur, h3, h4, x.block h5, h6⟩⟩
theorem own_grown2 {w w' : World} {B n z B' n' z' : Nat} {e e' : TypeId} {v v' : Value} {xs xs' : List Value} (h : w.ownsRow B e z v n xs) (h' : w.ownsRow B' e' z' v' n' xs') (hg : w.grownBy w' v'.ownBlock) (ht : e ≠ e') : w'.ownsRow B e z v n xs := by
  obtain ⟨h1, h2 | ⟨g, cap, cur, h3, h4, h5, h6⟩⟩ := h
  · exact ⟨h1, .inl h2⟩
  · exact ⟨h1, .inr ⟨g, cap, cur, h3, h4, blk_grown h' hg h5 ht, h6⟩⟩
theorem ext_grown2 {w0 w w' : World} {n z : Nat} {e : TypeId} {v : Value} {xs : List Value} (x : Ext w0 w) (h : w.ownsRow w0.heap.size e z v n xs) (hg : w.grownBy w' v.ownBlock) : Ext w0 w' :=
  x.grown hg (fun k hk => by
    obtain ⟨_, hv | ⟨g', cap, cur, hv, hBg, _⟩⟩ := h
    · rw [hv.1] at hk; cases hk
    · rw [hv] at hk; injection hk with hk; rw [← hk]; exact hBg)
/-- 'append(s, x)' of a stitch to stitches of the call's own. -/
theorem app_st1 {w : World} {ops : Array Oper} {rest : List Oper} {o : Oper} {a : Act} {Q : Exit → Act → World → Prop}
    (hg : o.guard = none) (s x : Operand) (hop : o.op = Op.call { callee := Callee.builtin Builtin.append, args := #[s, x], argTypes := #[41, 41] })
    (B : Nat) (v : Value) (n : Nat) (xs : List Value) (hs : a.eval s = v) (hown : w.ownsRow B 49 5 v n xs)
    (g c m : Nat) (l : List St) (hx : a.eval x = .slice (some ⟨g, 0, none⟩) m c) (hm : m = l.length) (hR : RO w g c l)
    (hlen : n + m ≤ 1000000) (hB : B ≤ w.heap.size)
    (hK : ∀ v' w', w'.ownsRow B 49 5 v' (n + m) (xs ++ cells l) → w.grownBy w' v.ownBlock → wpList Tryd.prog ops Q rest (a.put o.dst v') w') :
    wpList Tryd.prog ops Q (o :: rest) a w := by
  obtain ⟨i, hi, hzz⟩ := Option.map_eq_some_iff.1 (show (Tryd.prog.info? 49).map (fun i => (i.zero, i.size, i.bytes)) = some (some (.agg z5), 5, 32) by kernel_rfl)
  simp only [Prod.mk.injEq] at hzz
  obtain ⟨hz, hsz, hb⟩ := hzz
  refine wpList_append_own w hg s x 41 hop B 49 i (.agg z5) 5 32 Tryd.underlying41 hi hz hsz hb rfl (by decide) v n xs hs hown ⟨g, 0, none⟩ m c (cells l) hx (by rw [cells_len, hm]) hR.news (cs_one l) (by unfold maxLen; omega) (by omega) hB ?_
  intro v' w' h2 h3 _
  exact hK v' w' h2 h3
theorem B5.wet0 {w : World} {b : Nat} {s : St} {t : TypeId} (h : B5 w b s t) (k : Int) : B5 (w.setCell ⟨b, 0, none⟩ (.int .u8 k)) b { s with k := k } t := by
  unfold B5 at *
  have hlt := lt_of_block h
  have h' : w.heap[b] = .cells #[.int .u8 s.k, .int .u8 s.y, .int .i64 s.a, .int .i64 s.b, .bool s.f] t (0, 0) := by simpa [Array.getElem?_eq_getElem hlt] using h
  show (w.heap.modify b _)[b]? = _
  rw [Array.getElem?_eq_getElem (by simpa using hlt), Array.getElem_modify_self, h']
  rfl
theorem B5.wet1 {w : World} {b : Nat} {s : St} {t : TypeId} (h : B5 w b s t) (k : Int) : B5 (w.setCell ⟨b, 1, none⟩ (.int .u8 k)) b { s with y := k } t := by
  unfold B5 at *
  have hlt := lt_of_block h
  have h' : w.heap[b] = .cells #[.int .u8 s.k, .int .u8 s.y, .int .i64 s.a, .int .i64 s.b, .bool s.f] t (0, 0) := by simpa [Array.getElem?_eq_getElem hlt] using h
  show (w.heap.modify b _)[b]? = _
  rw [Array.getElem?_eq_getElem (by simpa using hlt), Array.getElem_modify_self, h']
  rfl
theorem B5.wet2 {w : World} {b : Nat} {s : St} {t : TypeId} (h : B5 w b s t) (k : Int) : B5 (w.setCell ⟨b, 2, none⟩ (.int .i64 k)) b { s with a := k } t := by
  unfold B5 at *
  have hlt := lt_of_block h
  have h' : w.heap[b] = .cells #[.int .u8 s.k, .int .u8 s.y, .int .i64 s.a, .int .i64 s.b, .bool s.f] t (0, 0) := by simpa [Array.getElem?_eq_getElem hlt] using h
  show (w.heap.modify b _)[b]? = _
  rw [Array.getElem?_eq_getElem (by simpa using hlt), Array.getElem_modify_self, h']
  rfl
theorem B5.wet3 {w : World} {b : Nat} {s : St} {t : TypeId} (h : B5 w b s t) (k : Int) : B5 (w.setCell ⟨b, 3, none⟩ (.int .i64 k)) b { s with b := k } t := by
  unfold B5 at *
  have hlt := lt_of_block h
  have h' : w.heap[b] = .cells #[.int .u8 s.k, .int .u8 s.y, .int .i64 s.a, .int .i64 s.b, .bool s.f] t (0, 0) := by simpa [Array.getElem?_eq_getElem hlt] using h
  show (w.heap.modify b _)[b]? = _
  rw [Array.getElem?_eq_getElem (by simpa using hlt), Array.getElem_modify_self, h']
  rfl
theorem B5.wet4 {w : World} {b : Nat} {s : St} {t : TypeId} (h : B5 w b s t) (k : Bool) : B5 (w.setCell ⟨b, 4, none⟩ (.bool k)) b { s with f := k } t := by
  unfold B5 at *
  have hlt := lt_of_block h
  have h' : w.heap[b] = .cells #[.int .u8 s.k, .int .u8 s.y, .int .i64 s.a, .int .i64 s.b, .bool s.f] t (0, 0) := by simpa [Array.getElem?_eq_getElem hlt] using h
  show (w.heap.modify b _)[b]? = _
  rw [Array.getElem?_eq_getElem (by simpa using hlt), Array.getElem_modify_self, h']
  rfl
theorem B5.put {w : World} {b : Nat} {s s' : St} {t : TypeId} (h : B5 w b s t) : B5 (((((w.setCell ⟨b, 0, none⟩ (.int .u8 s'.k)).setCell ⟨b, 1, none⟩ (.int .u8 s'.y)).setCell ⟨b, 2, none⟩ (.int .i64 s'.a)).setCell ⟨b, 3, none⟩ (.int .i64 s'.b)).setCell ⟨b, 4, none⟩ (.bool s'.f)) b s' t := ((((h.wet0 _).wet1 _).wet2 _).wet3 _).wet4 _

/-- What row returns. -/
def RetRow (w0 : World) (xs : List Int) (e : Ending) (w' : World) : Prop := ∃ r nx vr vn, e = .returned (.tuple #[vr, vn]) ∧ RowOf xs r nx ∧ RV w' vr r ∧ IV w' vn nx ∧ Ext w0 w'
/-- What a round of row keeps. -/
def RowI (w wr : World) (xs : List Int) (i : Nat) (out : List St) (nx : List Int) (vo vn : Value) : Prop :=
  wr.ownsRow w.heap.size 49 5 vo out.length (cells out) ∧ wr.ownsRow w.heap.size 3 1 vn nx.length (nx.map (Value.int .i64)) ∧ Ext w wr ∧ Mid xs i out nx
end Go.Proofs.YthllbcjglcplhaaDoor
/- LacesKnown: rows of bytes that are appended. -/
namespace Go.Proofs.YthllbcjglcplhaaDoor
set_option linter.unusedVariables false
set_option linter.unusedSimpArgs false
set_option maxRecDepth 8000
open Go Go.RowKit

theorem u8w (z : Int) : 0 ≤ IntKind.u8.wrap z ∧ IntKind.u8.wrap z ≤ 255 := by simp [IntKind.wrap, IntKind.bits, IntKind.signed]; omega
theorem eiU8s : EI Tryd.prog 54 76 (.slice Option.none 0 0) 24 := ⟨Tryd.underlying54, by kernel_rfl, rfl⟩
theorem own_form {w : World} {B n : Nat} {e : TypeId} {v : Value} {xs : List Value} {z : Nat} (h : w.ownsRow B e z v n xs) : ∃ a c, v = .slice a n c := by
  obtain ⟨_, ⟨hv, hn⟩ | ⟨g, cap, cur, hv, _⟩⟩ := h
  · exact ⟨_, _, by rw [hv, hn]⟩
  · exact ⟨_, _, hv⟩
/-- A row of bytes in a block of its own. -/
def UV (w : World) (u : Value) (l : List Int) : Prop := ∃ B, w.ownsRow B 5 1 u l.length (l.map (Value.int .u8))
theorem UV.ext {w w' : World} {u : Value} {l : List Int} (h : UV w u l) (x : Ext w w') : UV w' u l := by
  obtain ⟨B, h⟩ := h; exact ⟨B, own_ext h x⟩
theorem UV.is {w : World} {u : Value} {l : List Int} (h : UV w u l) : ∃ c, IS .u8 w u c l := by
  obtain ⟨B, h⟩ := h; exact IS.of_own h
theorem UV.grown {w w' : World} {B n : Nat} {e : TypeId} {u : Value} {l : List Int} {v : Value} {xs : List Value} {z : Nat} (h : UV w u l) (ho : w.ownsRow B e z v n xs) (hg : w.grownBy w' v.ownBlock) (ht : 5 ≠ e) : UV w' u l := by
  obtain ⟨B, h⟩ := h; exact ⟨B, own_grown2 h ho hg ht⟩
theorem UV.setOther {w : World} {u u' : Value} {l : List Int} (h : UV w u l) {a : Addr} {cs : Array Value} {t : TypeId} {q : Nat × Nat} (hb : w.heap[a.block]? = some (.cells cs t q)) (ht : t ≠ 5) : UV (w.setCell a u') u l := by
  obtain ⟨B, h⟩ := h; exact ⟨B, own_setOther h (own_ne h hb ht)⟩
/-- Such rows, appended. -/
def UC (w wr : World) (v : Value) (rows : List (List Int)) : Prop :=
  Ext w wr ∧ ∃ vs : List Value, wr.ownsRow w.heap.size 76 1 v rows.length vs ∧ ∀ i, i < rows.length → ∃ u, vs[i]? = some u ∧ UV wr u (ri rows i)
theorem UC.nil {w wr : World} (x : Ext w wr) : UC w wr (.slice Option.none 0 0) [] := ⟨x, [], World.ownsRow_nil _ _ _ _, fun i hi => by simp at hi⟩
theorem UC.later {w wr w' : World} {v : Value} {rows : List (List Int)} (h : UC w wr v rows) (x : Ext wr w') : UC w w' v rows := by
  obtain ⟨h1, vs, h2, h3⟩ := h
  exact ⟨h1.trans x, vs, own_ext h2 x, fun i hi => by obtain ⟨u, a, b⟩ := h3 i hi; exact ⟨u, a, b.ext x⟩⟩
theorem UC.setOther {w wr : World} {v u' : Value} {rows : List (List Int)} (h : UC w wr v rows) {a : Addr} {cs : Array Value} {t : TypeId} {q : Nat × Nat} (hb : wr.heap[a.block]? = some (.cells cs t q)) (ht1 : t ≠ 5) (ht2 : t ≠ 76) (hw : w.heap.size ≤ a.block) : UC w (wr.setCell a u') v rows := by
  obtain ⟨h1, vs, h2, h3⟩ := h
  exact ⟨h1.setCell hw _, vs, own_setOther h2 (own_ne h2 hb ht2), fun i hi => by obtain ⟨u, a', b⟩ := h3 i hi; exact ⟨u, a', b.setOther hb ht1⟩⟩
theorem UC.form {w wr : World} {v : Value} {rows : List (List Int)} (h : UC w wr v rows) : ∃ a c, v = .slice a rows.length c := by
  obtain ⟨_, vs, h2, _⟩ := h
  exact own_form h2
theorem UC.iss {w wr : World} {v : Value} {rows : List (List Int)} (h : UC w wr v rows) : ∃ c, ISS .u8 wr v c rows := by
  obtain ⟨h1, vs, h2, h3⟩ := h
  have hlen : vs.length = rows.length := by have := h2.1; omega
  obtain ⟨c, hv⟩ := VS.of_own h2
  have hcap : ∀ i, ∃ c', i < rows.length → IS .u8 wr (vs.getD i undef) c' (ri rows i) := fun i => by
    by_cases hi : i < rows.length
    · obtain ⟨u, a, b⟩ := h3 i hi
      obtain ⟨c', hr⟩ := b.is
      exact ⟨c', fun _ => by rw [show vs.getD i undef = u by simp [List.getD, a]]; exact hr⟩
    · exact ⟨0, fun h => absurd h hi⟩
  refine ⟨c, fun i => vs.getD i undef, fun i => (hcap i).choose, ?_, fun i hi => (hcap i).choose_spec hi⟩
  have : (List.range rows.length).map (fun i => vs.getD i undef) = vs := by
    refine List.ext_getElem (by simp [hlen]) fun i h1 h2 => ?_
    simp [List.getD, h2]
  rw [this]; exact hv
/-- 'x.Rows = append(x.Rows, l)'. -/
theorem app_u8s {w : World} {ops : Array Oper} {rest : List Oper} {o : Oper} {a : Act} {Q : Exit → Act → World → Prop}
    (hg : o.guard = Option.none) (s x : Operand) (hop : o.op = Op.call { callee := Callee.builtin Builtin.append, args := #[s, x], argTypes := #[54, 54] })
    (wb : World) (v : Value) (rows : List (List Int)) (hs : a.eval s = v) (hco : UC wb w v rows) (u : Value) (l : List Int) (hu : UV w u l)
    (g : Nat) (hx : a.eval x = .slice (some ⟨g, 0, Option.none⟩) 1 1) (hgw : g = w.heap.size) (hlen : rows.length ≤ 100000)
    (hK : ∀ v' w', UC wb w' v' (rows ++ [l]) → (∀ (b : Nat) (cs : Array Value) (t : TypeId) (q : Nat × Nat), w.heap[b]? = some (Obj.cells cs t q) → t ≠ 76 → w'.heap[b]? = some (Obj.cells cs t q)) → wpList Tryd.prog ops Q rest (a.put o.dst v') w') :
    wpList Tryd.prog ops Q (o :: rest) a (w.alloc (.cells #[u] 76)) := by
  obtain ⟨h1, vs, h2, h3⟩ := hco
  subst hgw
  have hvl : vs.length = rows.length := by have := h2.1; omega
  have h1u : ∀ y ∈ [u], y.oneCell' = true := by
    intro y hy
    obtain rfl := List.mem_singleton.1 hy
    obtain ⟨_, ho⟩ := hu
    obtain ⟨a', c', rfl⟩ := own_form ho
    rfl
  have xa : Ext w (w.alloc (.cells #[u] 76)) := (Ext.refl w).alloc _
  refine app_own_g eiU8s hg s x hop wb.heap.size v rows.length vs hs (own_ext h2 xa) _ 1 [u] hx (VS.one _ _ _) h1u (by simp; omega) (by simp; omega) (Nat.le_trans h1.size xa.size) ?_
  intro v' w' ho hgr
  have hst : 5 ≠ 76 := by decide
  refine hK v' w' ⟨ext_grown2 (h1.trans xa) (own_ext h2 xa) hgr, vs ++ [u], by simpa using ho, fun i hi => ?_⟩ (fun b cs t q hb ht => blk_grown (own_ext h2 xa) hgr (xa.block hb) ht)
  rw [List.length_append, List.length_singleton] at hi
  by_cases e : i < rows.length
  · obtain ⟨u', a', b'⟩ := h3 i e
    rw [ri_app _ _ e]
    exact ⟨u', by rw [List.getElem?_append_left (by omega)]; exact a', (b'.ext xa).grown (own_ext h2 xa) hgr hst⟩
  · obtain rfl : i = rows.length := by omega
    rw [ri_new]
    exact ⟨u, by rw [List.getElem?_append_right (by omega)]; simp [hvl], (hu.ext xa).grown (own_ext h2 xa) hgr hst⟩
/-- The rows laid so far: they lie in the lace's block as plain data. -/
def AX (wb ws : World) (g : Nat) (f : Int) (v : Value) (st : List (List Int)) : Prop :=
  UC wb ws v st ∧ B2 ws g (.int .u8 f) v 56 ∧ wb.heap.size ≤ g ∧ ∀ k, k < st.length → ∀ i, i < (ri st k).length → 0 ≤ gi (ri st k) i ∧ gi (ri st k) i ≤ 255
theorem AX.later {wb ws w' : World} {g : Nat} {f : Int} {v : Value} {st : List (List Int)} (h : AX wb ws g f v st) (x : Ext ws w') : AX wb w' g f v st := ⟨h.1.later x, h.2.1.ext x, h.2.2⟩
theorem AX.next {wb w' : World} {g : Nat} {f : Int} {v v' : Value} {st : List (List Int)} {l : List Int} (h3 : wb.heap.size ≤ g) (h4 : ∀ k, k < st.length → ∀ i, i < (ri st k).length → 0 ≤ gi (ri st k) i ∧ gi (ri st k) i ≤ 255) (hl : ∀ i, i < l.length → 0 ≤ gi l i ∧ gi l i ≤ 255) (hc : UC wb w' v' (st ++ [l])) (hb : B2 w' g (.int .u8 f) v 56) :
    AX wb (w'.setCell ⟨g, 1, none⟩ v') g f v' (st ++ [l]) := by
  refine ⟨hc.setOther (a := ⟨g, 1, none⟩) hb (by decide) (by decide) h3, hb.set1, h3, fun k hk i hi => ?_⟩
  rw [List.length_append, List.length_singleton] at hk
  by_cases e : k < st.length
  · rw [ri_app _ _ e] at hi ⊢; exact h4 k e i hi
  · obtain rfl : k = st.length := by omega
    rw [ri_new] at hi ⊢; exact hl i hi
theorem lch_in {V : Nat} {y : Int} {rows : List (List Ho)} (hy : 0 ≤ y ∧ y ≤ 255) : ∀ k, k < (lch V y rows).length → ∀ i, i < (sw (lch V y rows) k).length → (0 ≤ (si (sw (lch V y rows) k) i).k ∧ (si (sw (lch V y rows) k) i).k ≤ 255) ∧ 0 ≤ (si (sw (lch V y rows) k) i).y ∧ (si (sw (lch V y rows) k) i).y ≤ 255 := by
  intro k hk i hi
  rw [lch_len] at hk
  rw [lch_sw hk] at hi ⊢
  unfold lrow at hi ⊢
  rw [si_of_lt hi, List.getElem_map]
  rw [List.length_map] at hi
  unfold sgSt
  refine ⟨?_, hy⟩
  simp only
  (repeat split) <;> omega
theorem lit6 (w : World) {k : Nat} (hk : k < 6) : ∃ s : ByteArray, (w.alloc (.cells #[.string { data := #[46, 79, 47, 10] }, .string { data := #[79, 47, 10, 47, 47, 10, 79, 47, 10] }, .string { data := #[] }, .string { data := #[79, 47] }, .string { data := #[10] }, .string { data := #[46, 46, 10] }] 9)).cell? ⟨w.heap.size, k, none⟩ = some (.string s) := by
  rw [World.cell?_alloc_at (hn := rfl)]
  rcases (show k = 0 ∨ k = 1 ∨ k = 2 ∨ k = 3 ∨ k = 4 ∨ k = 5 by omega) with rfl | rfl | rfl | rfl | rfl | rfl <;> exact ⟨_, rfl⟩
def s3 : List St := [⟨3, 1, 0, 0, false⟩, ⟨5, 1, 0, 0, false⟩, ⟨3, 0, 0, 0, false⟩]
theorem rs3 {w : World} {g : Nat} (hb : w.heap[g]? = some (.cells #[.int .u8 3, .int .u8 1, .int .i64 0, .int .i64 0, .bool false, .int .u8 5, .int .u8 1, .int .i64 0, .int .i64 0, .bool false, .int .u8 3, .int .u8 0, .int .i64 0, .int .i64 0, .bool false] 49 (0, 0))) :
    RS w (.slice (some ⟨g, 0, none⟩) 3 3) 3 s3 ∧ RS w (.slice (some ⟨g, 0, none⟩) 2 3) 3 (s3.take 2) := by
  have key : ∀ i, i < 3 → At5 w g (0 + i * 5) (si s3 i) := fun i hi => by
    rcases (show i = 0 ∨ i = 1 ∨ i = 2 by omega) with rfl | rfl | rfl <;> (unfold At5; simp [World.cell?, hb, s3, si])
  refine ⟨⟨some ⟨g, 0, none⟩, rfl, by decide, by unfold maxLen; omega, .inr ⟨g, 0, rfl, key⟩⟩, ⟨some ⟨g, 0, none⟩, rfl, by decide, by unfold maxLen; omega, .inr ⟨g, 0, rfl, fun i hi => ?_⟩⟩⟩
  have hi2 : i < 2 := hi
  rcases (show i = 0 ∨ i = 1 by omega) with rfl | rfl
  · exact key 0 (by omega)
  · exact key 1 (by omega)
theorem s3_in : ∀ s ∈ s3, St.In s := by
  intro s hs
  simp only [s3, List.mem_cons, List.not_mem_nil, or_false] at hs
  unfold St.In
  rcases hs with rfl | rfl | rfl <;> simp
theorem hr3 (w : World) : HR (w.alloc (.cells (madeCells #[.slice none 0 0] 3) 37)) (.slice (some ⟨w.heap.size, 0, none⟩) 3 3) 3 [[], [], []] := by
  have hr := World.rowIs_made w (.slice none 0 0) 3 37
  refine ⟨some ⟨w.heap.size, 0, none⟩, fun _ => .slice none 0 0, fun _ => 0, rfl, by decide, by unfold maxLen; omega, .inr ⟨w.heap.size, 0, rfl, fun i hi => ?_⟩, fun i hi => ?_⟩
  · rw [Nat.zero_add]; exact hr.cell hi
  · have : ow [[], [], []] i = ([] : List Ho) := by
      have hi3 : i < 3 := hi
      rcases (show i = 0 ∨ i = 1 ∨ i = 2 by omega) with rfl | rfl | rfl <;> rfl
    rw [this]; exact HS.nil _
end Go.Proofs.YthllbcjglcplhaaDoor
