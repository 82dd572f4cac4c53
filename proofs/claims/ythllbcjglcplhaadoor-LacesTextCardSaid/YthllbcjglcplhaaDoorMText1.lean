/- Texts of this claim in one file: libraries and walks. -/
import Derived.Shelf.Vars
import Derived.Test.YthllbcjglcplhaaDoorL11
import Derived.Test.YthllbcjglcplhaaDoorL15
import Derived.Test.YthllbcjglcplhaaDoorL16
import Derived.Test.YthllbcjglcplhaaDoorL19
import Derived.Test.YthllbcjglcplhaaDoorMText0
/- LacesText. -/
namespace Go.Proofs.YthllbcjglcplhaaDoor
set_option linter.unusedVariables false
set_option linter.unusedSimpArgs false
set_option maxRecDepth 8000
open Go Go.RowKit

set_option maxHeartbeats 16000000 in
theorem LacesText_walk (wd : Int) (v : Value) (c : Nat) (chs : List (List Int)) (s : ByteArray) (w : World) (h : ISS .u8 w v c chs) (hw : 0 ≤ wd ∧ wd ≤ 255) (hb : ∀ k, k < chs.length → ∀ i, i < (ri chs k).length → 0 ≤ gi (ri chs k) i ∧ gi (ri chs k) i ≤ 255) (hy : Sy w) (hm : Mx w) :
    Calls Tryd.prog 9 #[.agg #[.int .u8 wd, v], .string s] w (RetT w) := by
  have hof := fun w' (x : Ext w w') => AOf_calls wd v c chs w' (h.ext x) hw hb
  have hlv := fun w' (x : Ext w w') => lives20_calls w' (hy.ext x)
  have HMx := Lib.hid (fun w' (x : Ext w w') => hm.ext x)
  obtain ⟨vs, caps, hV⟩ := h
  obtain ⟨ao, n0, rfl, hn, hc, hcm, hat⟩ := hV.outs2
  obtain ⟨B, hB⟩ : ∃ B, B = w.alloc (.cells #[.int .u8 wd, .slice ao n0 c] 56) := ⟨_, rfl⟩
  have xB : Ext w B := by rw [hB]; exact (Ext.refl w).alloc _
  have hB1 := B2.new w (.int .u8 wd) (.slice ao n0 c) 56
  rw [← hB] at hB1
  have e0 := hB1.c0; have e1 := hB1.c1
  have HOf := Lib.hid (hof B xB); have HLv := Lib.hid hlv; have XB := Lib.hid xB; have HB := Lib.hid hB
  rw [hB] at e0 e1
  clear hV hn hc hcm hat hB xB hB1 hof hlv hw hb hy hm
  go_enter Tryd.func9, Tryd.ntmps9
  by_cases h6 : 600 < s.size
  · have t0 : (600 : Int) < s.size := by omega
    clear h6
    go_wp2
    go_ret
    exact ⟨rfl, (Ext.refl w).alloc _⟩
  have t0 : ¬ (600 : Int) < s.size := by omega
  have Hs6 := Lib.hid (show s.size ≤ 600 by omega)
  clear h6
  go_wp2_with fail
  rw [← HB.out]
  refine HOf.out.mono ?_
  rintro e w1 ⟨V, v1, c1, rows, rfl, hr, hk, hr9, x1⟩
  obtain ⟨⟨hV2, hV16⟩, hrl, hbl, hbp⟩ := lace_bd hk
  obtain ⟨a1, N, rfl, hN, o1, o2, o3⟩ := hr.open
  obtain ⟨W1, hW1⟩ : ∃ W1, W1 = w1.alloc (.cells #[.int .i64 (V : Int), .slice a1 N c1] 24) := ⟨_, rfl⟩
  have xW1 : Ext w1 W1 := by rw [hW1]; exact (Ext.refl w1).alloc _
  have hb3 : B2 W1 w1.heap.size (.int .i64 (V : Int)) (.slice a1 N c1) 24 := by rw [hW1]; exact B2.new _ _ _ _
  obtain ⟨S, hS⟩ : ∃ S, S = bstr (ltx V rows) := ⟨_, rfl⟩
  have hT1 := RText20_calls V _ _ rows W1 (hr.ext xW1) hk
  have hT2 := fun w' (x : Ext W1 w') => LText_calls V _ _ rows w' (hr.ext (xW1.trans x))
  rw [← hS] at hT1 hT2
  have hSs : S.size ≤ 100000 := by
    rw [hS, bstr_size]
    unfold ltx
    rw [if_pos hk, Int.toNat_natCast, rT_len]
    have : (V + 1) * rows.length ≤ 17 * 9 := Nat.mul_le_mul (by omega) hr9
    omega
  have hpS : pR S.data.toList = some (V, rows) := by rw [hS]; exact text_pR hk
  have hP1 := fun w' (m : Mx w') => Parse_calls S w' hSs m
  rw [hpS] at hP1
  have HT1 := Lib.hid hT1; have HT2 := Lib.hid hT2; have HP1 := Lib.hid hP1
  have HW1 := Lib.hid hW1; have HB3 := Lib.hid (fun w' (x : Ext W1 w') => hb3.ext x); have X1 := Lib.hid (XB.out.trans (x1.trans xW1))
  have HR1 := Lib.hid (fun w' (x : Ext W1 w') => hr.ext (xW1.trans x)); have Hk := Lib.hid hk; have HN := Lib.hid hN
  have f0 := hb3.c0; have f1 := hb3.c1
  rw [hW1] at f0 f1
  clear hr hk x1 xW1 hb3 hW1 hbl hbp hr9 hrl e0 e1 HOf o1 o2 o3 hN hT1 hT2 hP1 hSs hpS hS
  go_wp2_with fail
  rw [← HW1.out]
  refine HT1.out.mono ?_
  rintro e w2 ⟨rfl, x2⟩
  have X2 := Lib.hid (X1.out.trans x2); have Y2 := Lib.hid x2
  clear f0 f1
  have f0 := (HB3.out _ x2).c0; have f1 := (HB3.out _ x2).c1
  clear x2 HT1
  go_wp2_with fail
  refine (HP1.out _ (HMx.out _ X2.out)).mono ?_
  intro e w3 hp3
  obtain ⟨x3, v3, rfl, hr3⟩ := hp3
  rw [← HN.out] at hr3
  obtain ⟨a3, n3, rfl, hn3, o2, o3, o4⟩ := hr3.open
  obtain rfl : N = n3 := by rw [HN.out, hn3]
  obtain ⟨W3, hW3⟩ : ∃ W3, W3 = w3.alloc (.cells #[.int .i64 (V : Int), .slice a3 N N] 24) := ⟨_, rfl⟩
  have xW3 : Ext w3 W3 := by rw [hW3]; exact (Ext.refl w3).alloc _
  have hb7 : B2 W3 w3.heap.size (.int .i64 (V : Int)) (.slice a3 N N) 24 := by rw [hW3]; exact B2.new _ _ _ _
  have HW3 := Lib.hid hW3; have HB7 := Lib.hid (fun w' (x : Ext W3 w') => hb7.ext x); have Y3 := Lib.hid (Y2.out.trans (x3.trans xW3)); have X3 := Lib.hid (X2.out.trans (x3.trans xW3))
  have HR3 := Lib.hid (fun w' (x : Ext W3 w') => hr3.ext (xW3.trans x))
  clear f0 f1
  have f0 := (HB3.out _ Y3.out).c0; have f1 := (HB3.out _ Y3.out).c1
  have f2 := hb7.c0; have f3 := hb7.c1
  rw [hW3] at f0 f1 f2 f3
  clear hr3 x3 xW3 hb7 hW3 HP1 o2 o3 o4 hn3
  have tS : (S.toList == S.toList) = true := str_eq rfl
  have tS2 : (S.toList != S.toList) = false := by rw [bne, tS]; rfl
  go_wp2_with fail
  rw [← HW3.out]
  refine (HT2.out _ Y3.out).mono ?_
  rintro e w4 ⟨rfl, x4⟩
  have X4 := Lib.hid (X3.out.trans x4); have Y4 := Lib.hid (Y3.out.trans x4); have Z4 := Lib.hid x4
  clear f0 f1 f2 f3
  have f0 := (HB3.out _ Y4.out).c0; have f1 := (HB3.out _ Y4.out).c1
  have f2 := (HB7.out _ x4).c0; have f3 := (HB7.out _ x4).c1
  have hdf := HDiffer_calls V V _ _ _ _ rows rows w4 (HR3.out _ x4) (HR1.out _ Y4.out)
  rw [hdif_same] at hdf
  have HDf := Lib.hid hdf
  clear x4 HT2 hdf
  go_wp2_with fail
  refine HDf.out.mono ?_
  rintro e w5 ⟨rfl, x5⟩
  have X5 := Lib.hid (X4.out.trans x5); have Y5 := Lib.hid (Y4.out.trans x5); have Z5 := Lib.hid (Z4.out.trans x5)
  clear f2 f3
  have f2 := (HB7.out _ Z5.out).c0; have f3 := (HB7.out _ Z5.out).c1
  obtain ⟨PR, hPR⟩ : ∃ PR, PR = pR s.data.toList := ⟨_, rfl⟩
  have hps := Parse_calls s w5 (by have := Hs6.out; omega) (HMx.out _ X5.out)
  rw [← hPR] at hps
  have HPs := Lib.hid hps; have HPR := Lib.hid hPR
  clear x5 HDf f0 f1 tS tS2 hps hPR
  go_wp2_with fail
  refine HPs.out.mono ?_
  intro e w6 hp6
  obtain ⟨x6, WW, au, nu, cu, EE, rfl, hres⟩ : Ext w5 w6 ∧ ∃ (WW : Int) (au : Option Addr) (nu cu : Nat) (EE : Int), e = .returned (.tuple #[.agg #[.int .i64 WW, .slice au nu cu], .int .i64 EE]) ∧ ((PR = none ∧ EE = 4 ∧ nu = 0) ∨ (∃ (W : Nat) (rr : List (List Ho)), PR = some (W, rr) ∧ EE = 0 ∧ WW = (W : Int) ∧ HR w6 (.slice au nu cu) cu rr)) := by
    unfold RetP at hp6
    obtain ⟨x6, hp⟩ := hp6
    refine ⟨x6, ?_⟩
    rcases PR with _ | ⟨W, rr⟩
    · exact ⟨0, none, 0, 0, 4, hp, .inl ⟨rfl, rfl, rfl⟩⟩
    · obtain ⟨v, h1, h2⟩ := hp
      obtain ⟨au, nu, rfl, _⟩ := h2.open
      exact ⟨_, au, nu, _, 0, h1, .inr ⟨W, rr, rfl, rfl, rfl, h2⟩⟩
  clear hp6
  have Hres := Lib.hid hres
  obtain ⟨WB, hWB⟩ : ∃ WB, WB = w6.alloc (.cells #[.int .i64 WW, .slice au nu cu] 24) := ⟨_, rfl⟩
  have xWB : Ext w6 WB := by rw [hWB]; exact (Ext.refl _).alloc _
  have hszB : WB.heap.size = w6.heap.size + 1 := by rw [hWB]; simp
  have hb9 : B2 WB w6.heap.size (.int .i64 WW) (.slice au nu cu) 24 := by rw [hWB]; exact B2.new _ _ _ _
  obtain ⟨W7, hW7⟩ : ∃ W7, W7 = WB.alloc (.cells #[.int .i64 0, .slice none 0 0] 24) := ⟨_, rfl⟩
  have xW7 : Ext WB W7 := by rw [hW7]; exact (Ext.refl _).alloc _
  have hb11 : B2 W7 (w6.heap.size + 1) (.int .i64 0) (.slice none 0 0) 24 := by rw [← hszB, hW7]; exact B2.new _ _ _ _
  have HC0 := Lib.hid (show HC WB W7 (.slice none 0 0) [] from HC.nil xW7); have HB11 := Lib.hid hb11
  have HB9 := Lib.hid (fun w' (x : Ext WB w') => hb9.ext x); have XWB := Lib.hid (fun w' (x : Ext WB w') => xWB.trans x); have XS := Lib.hid (fun w' (x : Ext WB w') => X5.out.trans (x6.trans (xWB.trans x)))
  have HszB := Lib.hid hszB
  have HW7 := Lib.hid (show W7 = (w6.alloc (.cells #[.int .i64 WW, .slice au nu cu] 24)).alloc (.cells #[.int .i64 0, .slice none 0 0] 24) from by rw [hW7, hWB])
  have HXW7 := Lib.hid xW7
  clear x6 hres hWB xWB hb9 hW7 xW7 hb11 f2 f3 HPs hszB
  by_cases hs0 : s.size = 0
  · obtain rfl : s = { data := #[] } := by
      apply bytes_eq
      have : (s.data.toList).length = 0 := by rw [Array.length_toList]; exact hs0
      exact List.eq_nil_of_length_eq_zero this
    have hPn : PR = none := HPR.out.trans pR_nil
    rcases Hres.out with ⟨_, rfl, rfl⟩ | ⟨W, rr, h, _⟩
    case inr => rw [hPn] at h; cases h
    clear hs0 hPn t0
    go_wp2
    rw [← HW7.out]
    go_loopw [12, 13, 14, 15, 16] (fun bd _ i _ _ wr => bd = .bool true ∧ i = .int .i64 0 ∧ Hid (Ext WB wr)) (fun _ _ _ _ _ _ => 0)
    case atStart => exact ⟨rfl, rfl, Lib.hid HXW7.out⟩
    case round =>
      obtain ⟨rfl, rfl, HX⟩ := hrel
      have f2 := (HB9.out _ HX.out).c0; have f3 := (HB9.out _ HX.out).c1
      go_wp2_with fail
      refine (HLv.out _ (XS.out _ HX.out)).mono ?_
      rintro e w8 ⟨rfl, x8⟩
      have X8 := Lib.hid ((XS.out _ HX.out).trans x8)
      clear x8 f2 f3
      go_wp2
      go_ret
      exact ⟨rfl, X8.out⟩
  obtain ⟨m0, hm0⟩ : ∃ m0, s.size = m0 + 1 := ⟨s.size - 1, by omega⟩
  have Hm0 := Lib.hid hm0
  have hlt0 : m0 < s.size := by omega
  have hgm := getD_at hlt0
  have hc0 : ∃ c0 : Int, ((s[m0]'hlt0).toNat : Int) = c0 := ⟨_, rfl⟩
  obtain ⟨c0, hc0⟩ := hc0
  obtain ⟨b0, hb0⟩ : ∃ b0, (c0 != 10) = b0 := ⟨_, rfl⟩
  have hbd : b0 = true ↔ s.data.toList.getD m0 0 ≠ 10 := by
    rw [hgm, ← hb0, bne_iff_ne, ← hc0]
    constructor
    · intro h1 h2; rw [h2] at h1; exact h1 rfl
    · intro h1 h2; exact h1 (UInt8.toNat_inj.1 (by show _ = 10; omega))
  have HTx := Lib.hid (TxR.start (M := w6.heap.size + 1) HC0.out HB11.out b0 hm0 hbd)
  rw [← HPR.out] at HTx
  have Hbd := Lib.hid hbd
  have tnb := str_nonempty (a := s) (by omega)
  have tne : s ≠ { data := #[] } := fun e => by
    have h0 : (0 : Nat) = m0 + 1 := by rw [e] at hm0; exact hm0
    omega
  have w0 : IntKind.i64.wrap ((s.size : Int) - 1) = (m0 : Int) := by rw [hm0]; have := Hs6.out; rw [show ((m0 + 1 : Nat) : Int) - 1 = (m0 : Int) by omega]; exact IntWalk.i64_in _ ⟨by omega, by omega⟩
  have t1 : (0 : Int) ≤ m0 := by omega
  have t2 : (m0 : Int) < s.size := by omega
  clear hs0 hbd hgm hm0
  go_wp2
  rw [← HW7.out]
  clear w0 t1 t2 tnb tne hc0 hb0 hlt0
  go_loopw [12, 13, 14, 15, 16] (fun bd ln i _ _ wr => ∃ (b : Bool) (L : ByteArray) (k : Nat), bd = .bool b ∧ ln = .string L ∧ i = .int .i64 k ∧ k ≤ s.size ∧ L.size ≤ k ∧ Hid (b0 = true → b = true) ∧ Hid (TxR PR s.data.toList WB (w6.heap.size + 1) b L k wr)) (fun _ _ i _ _ _ => s.size - (intOf i).toNat)
  case atStart => exact ⟨b0, ⟨#[]⟩, 0, rfl, rfl, rfl, Nat.zero_le _, Nat.zero_le _, Lib.hid (fun h => h), HTx⟩
  case round =>
    obtain ⟨b, L, k, rfl, rfl, rfl, hk, hL, HB0, HT⟩ := hrel
    have s6 := Hs6.out
    cases b
    case true =>
      have hPn : PR = none := by
        rcases HT.out.2 with ⟨_, h⟩ | ⟨h, _⟩
        · exact h
        · cases h
      have HX := Lib.hid HT.out.1
      rcases Hres.out with ⟨_, rfl, rfl⟩ | ⟨W, rr, h, _⟩
      case inr => rw [hPn] at h; cases h
      have f2 := (HB9.out _ HX.out).c0; have f3 := (HB9.out _ HX.out).c1
      clear hPn
      rcases Nat.lt_or_ge k s.size with h | h
      · have t1 : (k : Int) < s.size := by omega
        clear h hk
        go_wp2_with fail
        refine (HLv.out _ (XS.out _ HX.out)).mono ?_
        rintro e w8 ⟨rfl, x8⟩
        have X8 := Lib.hid ((XS.out _ HX.out).trans x8)
        clear x8 f2 f3
        go_wp2
        go_ret
        exact ⟨rfl, X8.out⟩
      · have t1 : ¬ (k : Int) < s.size := by omega
        clear h hk
        go_wp2_with fail
        refine (HLv.out _ (XS.out _ HX.out)).mono ?_
        rintro e w8 ⟨rfl, x8⟩
        have X8 := Lib.hid ((XS.out _ HX.out).trans x8)
        clear x8 f2 f3
        go_wp2
        go_ret
        exact ⟨rfl, X8.out⟩
    by_cases hlt : k < s.size
    · have t1 : (k : Int) < s.size := by omega
      have t1' : (0 : Int) ≤ k := by omega
      have HX := Lib.hid HT.out.1
      obtain ⟨c8, hc8⟩ : ∃ c8 : Int, ((s[k]'hlt).toNat : Int) = c8 := ⟨_, rfl⟩
      by_cases h10 : c8 = 10
      case neg =>
        have t2 : (c8 != 10) = true := bne_iff_ne.2 h10
        have hne : (s[k]'hlt) ≠ 10 := fun e => h10 (by rw [← hc8, e]; rfl)
        have HN2 := Lib.hid (HT.out.char hlt hne)
        have hsz : (s.extract k (k + 1)).size = 1 := by rw [ByteArray.size_extract]; omega
        have t3 : ¬ 9223372036854775807 < L.size + (s.extract k (k + 1)).size := by omega
        have wk : IntKind.i64.wrap ((k : Int) + 1) = (k : Int) + 1 := IntWalk.i64_in _ ⟨by omega, by omega⟩
        have t4 : (k : Int) + 1 ≤ s.size := by omega
        have t5 : (k : Int) ≤ (k : Int) + 1 := by omega
        have t6 : (0 : Int) ≤ (k : Int) + 1 := by omega
        have Hsz := Lib.hid hsz
        clear h10 hne hsz
        go_wp2
        go_roundw
        case rel => exact ⟨false, L ++ s.extract k (k + 1), k + 1, rfl, rfl, by go_num, by omega, by rw [ByteArray.size_append, Hsz.out]; omega, HB0, HN2⟩
        case measure => simp [intOf]; omega
      have t2 : (c8 != 10) = false := by rw [h10]; rfl
      have hee : (s[k]'hlt) = 10 := UInt8.toNat_inj.1 (by show _ = 10; omega)
      have hdr := drop_at hlt
      rw [hee] at hdr
      obtain ⟨d, v, hc, hb, hpa, hal, _, hdk⟩ : ∃ (d : List (List UInt8)) (v : Value), HC WB wr v (pRw d) ∧ B2 wr (w6.heap.size + 1) (.int .i64 ((d.headD []).length : Nat)) v 24 ∧ pA s.data.toList [] = (pA (s.data.toList.drop k) L.data.toList).map (d ++ ·) ∧ d.all (okL (d.headD []).length) = true ∧ (L.data.toList ≠ [] → s.data.toList.getD (k - 1) 0 ≠ 10) ∧ d.length ≤ k := by
        rcases HT.out.2 with ⟨h, _⟩ | ⟨_, h⟩
        · cases h
        · exact h
      have HPA := Lib.hid (tx_nl hdr hpa); have HAl := Lib.hid hal; have HCo := Lib.hid hc; have HMb := Lib.hid hb
      obtain ⟨al, nl, cl, rfl, hnl⟩ := hc.form
      rw [pRw_len] at hnl
      have Hnl := Lib.hid hnl
      obtain ⟨DL, hDL⟩ : ∃ DL, DL = (d.headD []).length := ⟨_, rfl⟩
      rw [← hDL] at HMb
      have HDL := Lib.hid hDL
      have Hdk := Lib.hid hdk
      have hrd := RRead_calls L wr (by omega)
      rw [bts_bi] at hrd
      have HRd := Lib.hid hrd
      have HLs := Lib.hid (data_size L)
      clear h10 hee hdr hc hb hpa hal hnl hdk hDL hrd
      go_wp2_with fail
      clear hc8 t2
      refine HRd.out.mono ?_
      intro e w8 hrt
      obtain ⟨x8, vh, ok, rfl, hvh, hok⟩ : Ext wr w8 ∧ ∃ (vh : Value) (ok : Int), e = .returned (.tuple #[vh, .int .i64 ok]) ∧ HV w8 vh (hsl L.data.toList) ∧ ((ok = 0 ∧ rdL 0 (bi L.data.toList) = none) ∨ (ok = 1 ∧ (rdL 0 (bi L.data.toList)).isSome = true)) := by
        unfold RetRf at hrt
        obtain ⟨x8, hrt⟩ := hrt
        refine ⟨x8, ?_⟩
        unfold hsl
        rcases hrr : rdL 0 (bi L.data.toList) with _ | r
        · rw [hrr] at hrt
          exact ⟨_, 0, hrt, .inl ⟨rfl, rfl⟩, .inl ⟨rfl, rfl⟩⟩
        · rw [hrr] at hrt
          obtain ⟨v, h1, h2⟩ := hrt
          exact ⟨v, 1, h1, h2, .inr ⟨rfl, rfl⟩⟩
      clear hrt
      have hX8 := HX.out.trans x8
      have hN8 : w6.heap.size + 1 < w8.heap.size := (HMb.out.ext x8).lt
      have hco8 := HCo.out.later x8
      have hwb : WB.heap.size ≤ w6.heap.size + 1 := by rw [HszB.out]; exact Nat.le_refl _
      obtain ⟨W9, hW9⟩ : ∃ W9, W9 = w8.setCell ⟨w6.heap.size + 1, 0, none⟩ (.int .i64 (L.size : Nat)) := ⟨_, rfl⟩
      have hco9 : HC WB W9 (.slice al nl cl) (pRw d) := by rw [hW9]; exact hco8.setOther (a := ⟨w6.heap.size + 1, 0, none⟩) (HMb.out.ext x8) (by decide) (by decide) hwb
      have hvh9 : HV W9 vh (hsl L.data.toList) := by rw [hW9]; exact hvh.setOther (a := ⟨w6.heap.size + 1, 0, none⟩) (HMb.out.ext x8) (by decide)
      have hmb9 : B2 W9 (w6.heap.size + 1) (.int .i64 (L.size : Nat)) (.slice al nl cl) 24 := by rw [hW9]; exact (HMb.out.ext x8).set0
      have HCo9 := Lib.hid hco9; have HV9 := Lib.hid hvh9; have HM9 := Lib.hid hmb9; have HW9 := Lib.hid hW9
      have h9s : W9.heap.size = w8.heap.size := by rw [hW9]; simp
      have H9s := Lib.hid h9s
      have q0 := (HMb.out.ext x8).c0; have q1 := (HMb.out.ext x8).c1; have p0 := (HMb.out.ext x8).f0
      have r1 := hmb9.alloc (.cells #[vh] 37) |>.c1
      rw [hW9] at r1
      obtain ⟨ah, nh, ch, rfl, hnh⟩ := hvh.form
      have Hrl := Lib.hid (show (pRw d).length ≤ 100000 by rw [pRw_len]; have := Hdk.out; omega)
      have Hwb := Lib.hid hwb
      have tdl0 : (0 : Int) ≤ nl := by omega
      clear hX8 hco8 hvh hwb hW9 hco9 hvh9 hmb9 x8 hnh h9s
      have hcs : (∃ b, (b = true ∧ PR = none ∧ ((ok == 0) = true ∨ ((ok == 0) = false ∧ 0 < nl ∧ ((L.size : Int) != (DL : Int)) = true))) ∨ (b = false ∧ (ok == 0) = false ∧ (nl = 0 ∨ (0 < nl ∧ ((L.size : Int) != (DL : Int)) = false)) ∧ (d ++ [L.data.toList]).all (okL ((d ++ [L.data.toList]).headD []).length) = true ∧ ((d ++ [L.data.toList]).headD []).length = L.size)) := by
        have hls := HLs.out
        have hdl := HDL.out
        rcases hok with ⟨rfl, hr⟩ | ⟨rfl, hr⟩
        · exact ⟨true, .inl ⟨rfl, HPR.out.trans (tx_bad HPA.out (.inl hr)), .inl rfl⟩⟩
        · by_cases hn0 : nl = 0
          · have hd : d = [] := List.eq_nil_of_length_eq_zero (by rw [← Hnl.out]; exact hn0)
            obtain ⟨g1, g2⟩ := tx_good HAl.out hr (.inl hd)
            exact ⟨false, .inr ⟨rfl, rfl, .inl hn0, g1, g2.trans hls.symm⟩⟩
          · by_cases hq : L.size = DL
            · obtain ⟨g1, g2⟩ := tx_good HAl.out hr (.inr (by rw [← hdl, ← hq, hls]))
              exact ⟨false, .inr ⟨rfl, rfl, .inr ⟨by omega, by rw [hq]; exact bne_self_eq_false _⟩, g1, g2.trans hls.symm⟩⟩
            · refine ⟨true, .inl ⟨rfl, HPR.out.trans (tx_bad HPA.out (.inr ⟨fun e => hn0 (by rw [Hnl.out, e]; rfl), by rw [← hdl, ← hls]; exact hq⟩)), .inr ⟨rfl, by omega, bne_iff_ne.2 (by omega)⟩⟩⟩
      clear hok
      have Hnx := Lib.hid (show ∀ v' w', HC WB w' v' (hsl L.data.toList :: pRw d) → B2 w' (w6.heap.size + 1) (.int .i64 (L.size : Nat)) (.slice al nl cl) 24 → HC WB (w'.setCell ⟨w6.heap.size + 1, 1, none⟩ v') v' (pRw (d ++ [L.data.toList])) from fun v' w' h1 h3 => by
        rw [pRw_app]
        exact h1.setOther (a := ⟨w6.heap.size + 1, 1, none⟩) h3 (by decide) (by decide) Hwb.out)
      obtain ⟨b, ⟨rfl, hPn, ht⟩ | ⟨rfl, tok, ht, hg1, hg2⟩⟩ := hcs
      · have HPn := Lib.hid hPn
        clear hPn
        rcases ht with tok | ⟨tok, tn, td⟩
        case' inr =>
          have tn' : (0 : Int) < nl := by omega
          clear tn
        all_goals (
          go_wp2_with (at_builtin; rw [← HW9.out]; go_loud (refine app_pre rfl _ _ rfl WB _ _ rfl HCo9.out _ _ HV9.out w8.heap.size rfl H9s.out.symm Hrl.out ?_))
          intro v' w' hco' hkeep
          have hn2 : B2 w' (w6.heap.size + 1) (.int .i64 (L.size : Nat)) (.slice al nl cl) 24 := by first | exact hkeep _ _ _ _ HM9.out (by decide) | exact hkeep _ _ _ _ _ HM9.out (by decide)
          have hn1 := Hnx.out v' w' hco' hn2
          obtain ⟨a2, n2, c2', rfl, hn3⟩ := hco'.form
          have HN := Lib.hid hn1.1
          have g1 := hn2.c1; have g2 := hn2.f1
          clear hco' hkeep hn1 hn2 hn3 q0 q1 p0 r1
          go_wp2
          go_roundw
          case rel => exact ⟨true, ⟨#[]⟩, k + 1, rfl, rfl, by go_num, by omega, Nat.zero_le _, Lib.hid (fun _ => rfl), Lib.hid ⟨HN.out, .inl ⟨rfl, HPn.out⟩⟩⟩
          case measure => simp [intOf]; omega)
      · have Hg1 := Lib.hid hg1; have Hg2 := Lib.hid hg2
        clear hg1 hg2
        rcases ht with tn | ⟨tn, td⟩
        case' inl =>
          have tn' : ¬ (0 : Int) < nl := by omega
        case' inr =>
          have tn' : (0 : Int) < nl := by omega
        all_goals clear tn
        all_goals (
          go_wp2_with (at_builtin; rw [← HW9.out]; go_loud (refine app_pre rfl _ _ rfl WB _ _ rfl HCo9.out _ _ HV9.out w8.heap.size rfl H9s.out.symm Hrl.out ?_))
          intro v' w' hco' hkeep
          have hn2 : B2 w' (w6.heap.size + 1) (.int .i64 (L.size : Nat)) (.slice al nl cl) 24 := by first | exact hkeep _ _ _ _ HM9.out (by decide) | exact hkeep _ _ _ _ _ HM9.out (by decide)
          have hn1 := Hnx.out v' w' hco' hn2
          obtain ⟨a2, n2, c2', rfl, hn3⟩ := hco'.form
          have HN := Lib.hid (show TxR PR s.data.toList WB (w6.heap.size + 1) false ⟨#[]⟩ (k + 1) (w'.setCell ⟨w6.heap.size + 1, 1, none⟩ (.slice a2 n2 c2')) from ⟨hn1.1, .inr ⟨rfl, d ++ [L.data.toList], _, hn1, by rw [Hg2.out]; exact hn2.set1, HPA.out, Hg1.out, fun h => absurd rfl h, by have := Hdk.out; simp; omega⟩⟩)
          have g1 := hn2.c1; have g2 := hn2.f1
          clear hco' hkeep hn1 hn2 hn3 q0 q1 p0 r1
          go_wp2
          go_roundw
          case rel => exact ⟨false, ⟨#[]⟩, k + 1, rfl, rfl, by go_num, by omega, Nat.zero_le _, HB0, HN⟩
          case measure => simp [intOf]; omega)
    · obtain rfl : k = s.size := by omega
      have t1 : ¬ (s.size : Int) < s.size := by omega
      have HX := Lib.hid HT.out.1
      have hb0 : b0 = false := by
        cases b0
        · rfl
        · exact absurd (HB0.out rfl) (by simp)
      have hl10 : s.data.toList.getD m0 0 = 10 := Classical.byContradiction fun e => by
        have := Hbd.out.2 e; rw [hb0] at this; cases this
      obtain ⟨W, vo, ro, hc, hb, hpr⟩ := HT.out.done Hm0.out hl10 HPR.out
      obtain ⟨cc, hro⟩ := hc.rr
      obtain ⟨al, nl, cl, rfl, hnl7⟩ := hc.form
      clear hnl7
      have hck := RCheck20_calls W _ _ ro wr hro
      have hlw := fun (h : lchk W ro = 0) => (pR_text (HPR.out.symm.trans (hpr.trans (if_pos h)))).2
      obtain ⟨LC, hLC⟩ : ∃ LC, LC = lchk W ro := ⟨_, rfl⟩
      rw [← hLC] at hck hpr hlw
      have HCk := Lib.hid hck; have HRo := Lib.hid hro; have HPr := Lib.hid hpr; have HLw := Lib.hid hlw; have HMo := Lib.hid hb
      have q0 := hb.c0; have q1 := hb.c1
      clear hb0 hl10 hc hro hb hpr hck hlw hLC hlt hk hL
      go_wp2_with fail
      refine HCk.out.mono ?_
      rintro e w8 ⟨rfl, x8⟩
      have X8 := Lib.hid (HX.out.trans x8); have Z8 := Lib.hid x8
      have f2 := (HB9.out _ X8.out).c0; have f3 := (HB9.out _ X8.out).c1
      replace q0 := x8.cell q0; replace q1 := x8.cell q1
      clear x8 HCk
      by_cases hL0 : LC = 0
      · have hpr := HPr.out
        rw [if_pos hL0] at hpr
        rcases Hres.out with ⟨h, _⟩ | ⟨W', rr, h, rfl, rfl, hgot⟩
        · rw [hpr] at h; cases h
        rw [hpr] at h
        simp only [Option.some.injEq, Prod.mk.injEq] at h
        obtain ⟨rfl, rfl⟩ := h
        have hdf := HDiffer_calls W W _ _ _ _ ro ro w8 (hgot.ext (XWB.out _ X8.out)) (HRo.out.ext Z8.out)
        rw [hdif_same] at hdf
        have htx := fun w' (x : Ext w8 w') => LText_calls W _ _ ro w' (hgot.ext (XWB.out _ (X8.out.trans x)))
        rw [HLw.out hL0, ← bts_bi, bstr_bts] at htx
        have HDf := Lib.hid hdf; have HTt := Lib.hid htx
        have tS : (s.toList == s.toList) = true := str_eq rfl
        subst hL0
        clear hpr hgot hdf htx
        go_wp2_with fail
        refine HDf.out.mono ?_
        rintro e w9 ⟨rfl, x9⟩
        have X9 := Lib.hid (X8.out.trans x9); have Z9 := Lib.hid x9
        have f2 := (HB9.out _ X9.out).c0; have f3 := (HB9.out _ X9.out).c1
        clear x9 HDf q0 q1
        go_wp2_with fail
        refine (HTt.out _ Z9.out).mono ?_
        rintro e w10 ⟨rfl, x10⟩
        have X10 := Lib.hid (X9.out.trans x10)
        clear x10 HTt f2 f3
        go_wp2_with fail
        refine (HLv.out _ (XS.out _ X10.out)).mono ?_
        rintro e w11 ⟨rfl, x11⟩
        have X11 := Lib.hid ((XS.out _ X10.out).trans x11)
        clear x11
        go_wp2
        go_ret
        exact ⟨rfl, X11.out⟩
      · have hpr := HPr.out
        rw [if_neg hL0] at hpr
        rcases Hres.out with ⟨_, rfl, rfl⟩ | ⟨W', rr, h, _⟩
        case inr => rw [hpr] at h; cases h
        have t2 : (LC != 0) = true := bne_iff_ne.2 hL0
        clear hL0 hpr
        go_wp2_with fail
        refine (HLv.out _ (XS.out _ X8.out)).mono ?_
        rintro e w9 ⟨rfl, x9⟩
        have X9 := Lib.hid ((XS.out _ X8.out).trans x9)
        clear x9 f2 f3 q0 q1
        go_wp2
        go_ret
        exact ⟨rfl, X9.out⟩
end Go.Proofs.YthllbcjglcplhaaDoor
/- What the shape of the world gives: the cell of internal/bytealg.MaxLen. -/
namespace Go.Proofs.YthllbcjglcplhaaDoor
set_option linter.unusedVariables false
set_option linter.unusedSimpArgs false
open Go Go.RowKit
theorem mx_of {w : World} (h : w.ShapedOpen Tryd.prog) : Mx w :=
  Go.Proofs.cell_of_shapedOpen_int (zero := #[.int .i64 0]) (t := 3) h (of_decide_eq_true (by kernel_rfl)) (by kernel_rfl) rfl (by kernel_rfl) (by kernel_rfl) Tryd.underlying3
end Go.Proofs.YthllbcjglcplhaaDoor
