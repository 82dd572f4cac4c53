/- The law WordsLong: its walk. -/
import Derived.Test.YtbappfeojdehgaaDoorTt
import Derived.Test.YtbappfeojdehgaaDoorLibb
namespace Go.Proofs.YtbappfeojdehgaaDoor
set_option linter.unusedVariables false
set_option linter.unusedSimpArgs false
set_option maxRecDepth 8000
open Go Go.RowKit Go.Sort

theorem rep_gi (c : Int) {n i : Nat} (h : i < n) : gi (List.replicate n c) i = c := by rw [gi_of_lt (by simpa using h)]; simp
theorem rep_red {c : Int} (hc : c ≠ 0) : ∀ n, red (List.replicate n c) = List.replicate n c
  | 0 => rfl
  | n + 1 => by
    rw [List.replicate_succ', red_snoc, rep_red hc n, redStep_push]
    intro h
    rw [List.length_replicate] at h ⊢
    rw [rep_gi _ (by omega)]; omega
theorem rep_sum {c : Int} (hc : 0 < c) : ∀ n : Nat, ssum (List.replicate n c) = n
  | 0 => rfl
  | n + 1 => by
    rw [List.replicate_succ', ssum_snoc, rep_sum hc n, sgn_pos (by omega)]; omega
theorem repj (x : List UInt8) : ∀ n, Lib.join (List.replicate (n + 2) x) [32] = Lib.join (List.replicate (n + 1) x) [32] ++ 32 :: x
  | 0 => by
    rw [show List.replicate 2 x = x :: x :: [] from rfl, join_two, show List.replicate 1 x = [x] from rfl, Lib.join_one]
  | n + 1 => by
    have h := repj x n
    have a : Lib.join (List.replicate (n + 1 + 2) x) [32] = x ++ 32 :: Lib.join (List.replicate (n + 2) x) [32] := join_two _ _ _
    have b : Lib.join (List.replicate (n + 1 + 1) x) [32] = x ++ 32 :: Lib.join (List.replicate (n + 1) x) [32] := join_two _ _ _
    have d := b.symm.trans h
    generalize Lib.join (List.replicate (n + 1) x) [32] = J at h a b d ⊢
    rw [a, h, show x ++ 32 :: (J ++ 32 :: x) = (x ++ 32 :: J) ++ 32 :: x by simp, d]
/-- The text of so many letters, as the law builds it. -/
def ptx (c : Int) (k : Nat) : ByteArray := ⟨(Lib.join (List.replicate k (Lib.itoa c)) [32]).toArray⟩
theorem ptx_zero (c : Int) : ptx c 0 = ⟨#[]⟩ := rfl
theorem bytes_ext {a b : ByteArray} (h : a.data.toList = b.data.toList) : a = b := ByteArray.ext (Array.toList_inj.1 h)
theorem ptx_data (c : Int) (k : Nat) : (ptx c k).data.toList = Lib.join (List.replicate k (Lib.itoa c)) [32] := rfl
theorem ptx_one (c : Int) : ptx c 0 ++ ⟨(Lib.itoa c).toArray⟩ = ptx c 1 := by
  apply bytes_ext
  rw [ptx_data, ByteArray.data_append, Array.toList_append, ptx_data, show List.replicate 1 (Lib.itoa c) = [Lib.itoa c] from rfl, Lib.join_one, show List.replicate 0 (Lib.itoa c) = [] from rfl, Lib.join_nil]
  rfl
theorem ptx_succ (c : Int) {k : Nat} (h : 0 < k) : ptx c k ++ { data := #[32] } ++ ⟨(Lib.itoa c).toArray⟩ = ptx c (k + 1) := by
  obtain ⟨j, rfl⟩ : ∃ j, k = j + 1 := ⟨k - 1, by omega⟩
  apply bytes_ext
  rw [ptx_data, ByteArray.data_append, Array.toList_append, ByteArray.data_append, Array.toList_append, ptx_data, repj]
  simp
theorem ptx_txt (c : Int) : (⟨(txt (List.replicate 64 c)).toArray⟩ : ByteArray) = ptx c 64 := by
  apply bytes_ext
  rw [ptx_data]
  show txt (List.replicate 64 c) = _
  unfold txt
  rw [if_neg (by simp), List.map_replicate]
theorem ptx_size {c : Int} (h : Lt7 c) (k : Nat) (hk : k ≤ 64) : (ptx c k).size ≤ 300 := by
  have e : (ptx c k).size = (ptx c k).data.toList.length := by rw [Array.length_toList]; rfl
  rw [e, ptx_data]
  have := txt_len (w := List.replicate k c) (fun x hx => by rw [(List.mem_replicate.1 hx).2]; exact h)
  rw [List.length_replicate] at this
  unfold txt at this
  split at this
  · rename_i h0
    have : k = 0 := by simpa using h0
    subst this; simp [Lib.join_nil]
  · rw [List.map_replicate] at this; omega

set_option maxHeartbeats 8000000 in
theorem WordsLong_walk (n l : Int) (w : World) (hn : 0 ≤ n ∧ n ≤ 255) (hl : 0 ≤ l ∧ l ≤ 255) (ht : PTab w) (hm : Mx w) :
    Calls Tryd.prog 4 #[.int .u8 n, .int .u8 l] w fun e w' => e = .returned (.bool true) ∧ Ext w w' := by
  obtain ⟨m, hmm⟩ : ∃ m : Nat, (m : Int) = 2 + n % 7 := ⟨(2 + n % 7).toNat, by omega⟩
  have m1 : 2 ≤ m := by omega
  have m8 : m ≤ 8 := by omega
  obtain ⟨c, hc⟩ : ∃ c : Int, c = 1 + l % ((m : Int) - 1) := ⟨_, rfl⟩
  have g1 : 0 ≤ l % ((m : Int) - 1) := Int.emod_nonneg _ (by omega)
  have g2 : l % ((m : Int) - 1) < (m : Int) - 1 := Int.emod_lt_of_pos _ (by omega)
  have c1 : 1 ≤ c := by omega
  have c2 : c < m := by omega
  obtain ⟨W, hW⟩ : ∃ W, W = List.replicate 64 c := ⟨_, rfl⟩
  have hWl : W.length = 64 := by rw [hW]; simp
  have hWm : ∀ k ∈ W, k = c := fun k hk => by rw [hW] at hk; exact (List.mem_replicate.1 hk).2
  have hwc : wcheck m W = 0 := by
    refine wcheck_ok (by omega) (by omega) (by omega) fun i hi => ?_
    have := hWm _ (gi_mem hi)
    exact wbad_not (by omega) (by omega) (by omega)
  have hwb : wcheck m (W ++ [1]) = 3 := by
    unfold wcheck
    rw [if_neg (by omega), if_pos (by rw [List.length_append, hWl]; decide)]
  have hred : red W = W := by rw [hW]; exact rep_red (by omega) 64
  have hsum : ssum W = 64 := by rw [hW]; exact rep_sum (by omega) 64
  have h7 : ∀ k ∈ W, Lt7 k := fun k hk => by rw [hWm k hk]; exact ⟨by omega, by omega, by omega⟩
  have h71 : ∀ k ∈ W ++ [1], Lt7 k := fun k hk => by
    rcases List.mem_append.1 hk with hk | hk
    · exact h7 k hk
    · rw [List.mem_singleton.1 hk]; exact ⟨by omega, by omega, by omega⟩
  have hpt := parse_txt h7 (by omega)
  have hpl := parse_long h71 (by rw [List.length_append, hWl]; decide)
  have htl := txt_len h7
  have htl1 := txt_len h71
  rw [List.length_append, hWl] at htl1
  have hb : ∀ i, i < W.length → -100 ≤ gi W i ∧ gi W i ≤ 100 := fun i hi => by have := hWm _ (gi_mem hi); omega
  have hmod : l.tmod ((m : Int) - 1) = l % ((m : Int) - 1) := Int.tmod_eq_emod_of_nonneg hl.1
  have hsnoc : ∀ k : Nat, List.replicate (k + 1) (Value.int .i64 c) = List.replicate k (Value.int .i64 c) ++ [Value.int .i64 c] := fun k => List.replicate_succ'
  have HSN := Lib.hid hsnoc; have HRED := Lib.hid hred; have HSUM := Lib.hid hsum; have HPT := Lib.hid hpt; have HPL := Lib.hid hpl; have H7 := Lib.hid h7; have H71 := Lib.hid h71; have HB := Lib.hid hb
  have HWC := Lib.hid hwc; have HWB := Lib.hid hwb; have HW := Lib.hid hW; have HWL := Lib.hid hWl; have HWM := Lib.hid hWm; have HT := Lib.hid ht; have HM := Lib.hid hm
  have HC := Lib.hid hc; have HMM := Lib.hid hmm
  clear hsnoc hred hsum hpt hpl h7 h71 hb hwc hwb hW hWl hWm ht hm hmod hc hmm
  go_enter Tryd.func4, Tryd.ntmps4
  go_wp2
  rw [← HMM.out]
  go_loopw [6] (fun o wr => ∃ k : Nat, k ≤ 64 ∧ Hid (Ext w wr) ∧ Hid (wr.ownsRow w.heap.size 3 1 o k (List.replicate k (Value.int .i64 c)))) (fun o _ => 64 - lenV o)
  case atStart => exact ⟨0, Nat.zero_le _, Lib.hid (Ext.refl w), Lib.hid (World.ownsRow_nil w _ _ _)⟩
  case round =>
    obtain ⟨k, hk, Hx, Hown⟩ := hrel
    obtain ⟨cx, hI⟩ := IS.of_own (k := .i64) (xs := List.replicate k c) (by rw [List.map_replicate]; exact Hown.out)
    obtain ⟨a1, n1, d1, rfl, hn1, rfl, hI⟩ := hI.out
    obtain rfl : k = n1 := by rw [hn1]; simp
    clear hn1
    by_cases hlt : k < 64
    · clear hI
      have hlt' : (k : Int) < 64 := by omega
      go_wp2_with (at_builtin; refine app_own eiInt rfl _ _ rfl w.heap.size _ k _ rfl (World.ownsRow.alloc Hown.out _) _ _ _ rfl (VS.one _ _ _) (one1 _) ?c1 ?c2 ?c3 ?_)
      case c1 => simp; omega
      case c2 => simp; omega
      case c3 => have := Hx.out.size; simp; omega
      intro v' w1 hown' hb
      have hb2 := Below.trans (Hx.out.alloc _) hb
      rw [← HC.out, ← HSN.out] at hown'
      obtain ⟨g, cap, f, rfl, _⟩ := own_open hown' (by simp)
      have HO := Lib.hid hown'; have HB2 := Lib.hid hb2
      clear hown' hb hb2
      go_wp2
      go_roundw
      case rel => exact ⟨k + 1, by omega, HB2, HO⟩
      case measure => simp [lenV]; omega
    · obtain rfl : k = 64 := by omega
      have e : List.replicate 64 c = W := HW.out.symm
      rw [e] at hI
      have H1 := Lib.hid hI; have X1 := Lib.hid Hx.out
      clear hI Hown Hx
      go_wp2_with fail
      refine (Reduce_calls m _ _ W _ H1.out HWC.out HB.out (by rw [HWL.out]; exact Nat.le_refl _)).mono ?_
      intro e w2 hh
      rw [HRED.out] at hh
      obtain ⟨a2, n2, c2, rfl, hn2, hc2, h2, x2⟩ := hh.open
      obtain rfl : 64 = n2 := by rw [hn2, HWL.out]
      obtain rfl : 64 = c2 := by rw [hc2, HWL.out]
      have X2 := Lib.hid (X1.out.trans x2); have H2 := Lib.hid h2; replace H1 := Lib.hid (H1.out.ext x2)
      clear hh h2 x2 hn2 hc2 e
      go_wp2_with fail
      refine (Text_calls _ _ W _ H1.out H7.out (by rw [HWL.out]; omega) (HT.out.ext X2.out)).mono ?_
      rintro e w3 ⟨rfl, x3⟩
      have X3 := Lib.hid (X2.out.trans x3); replace H1 := Lib.hid (H1.out.ext x3); replace H2 := Lib.hid (H2.out.ext x3)
      clear x3
      obtain ⟨t, htt⟩ : ∃ t : ByteArray, t = ⟨(txt W).toArray⟩ := ⟨_, rfl⟩
      have hts : t.data.toList = txt W := by rw [htt]
      have hsz : t.size ≤ 100000 := by
        have : t.size = t.data.toList.length := by rw [Array.length_toList]; rfl
        rw [this, hts]; have := HWL.out; omega
      rw [← htt]
      have HTS := Lib.hid hts; have HTT := Lib.hid htt
      clear htt hts
      go_wp2_with fail
      refine (Parse_calls t _ hsz (HM.out.ext X3.out)).mono ?_
      intro e w4 hh
      obtain ⟨cc, hcc, hh⟩ := hh.1 W (by rw [HTS.out]; exact HPT.out)
      obtain ⟨a4, n4, c4, rfl, hn4, hc4, h4, x4⟩ := hh.open
      obtain rfl : 64 = n4 := by rw [hn4, HWL.out]
      obtain rfl : 64 = c4 := by rw [hc4, hcc, HWL.out]
      have X4 := Lib.hid (X3.out.trans x4); have H4 := Lib.hid h4; replace H1 := Lib.hid (H1.out.ext x4); replace H2 := Lib.hid (H2.out.ext x4)
      clear hh h4 x4 hc4 hn4 hcc hsz
      go_wp2_with fail
      refine (Sum_calls m _ _ W _ H1.out HWC.out).mono ?_
      rintro e w5 ⟨rfl, x5⟩
      rw [HSUM.out]
      have X5 := Lib.hid (X4.out.trans x5); replace H1 := Lib.hid (H1.out.ext x5); replace H2 := Lib.hid (H2.out.ext x5); replace H4 := Lib.hid (H4.out.ext x5)
      clear x5
      go_wp2_with (at_builtin; refine app_own eiInt rfl _ _ rfl w5.heap.size _ 0 [] rfl (World.ownsRow_made w5 #[] 0 (Nat.le_refl _) (by unfold maxLen; omega) rfl) _ _ _ rfl (H1.out.ext ((Ext.refl w5).alloc _)) (onesI _) ?c4 ?c5 ?c6 ?_)
      case c4 => have := HWL.out; simp; omega
      case c5 => have := HWL.out; simp; omega
      case c6 => simp
      intro v6 w6 hown6 hb6
      have x6 : Ext w5 w6 := Below.trans ((Ext.refl w5).alloc _) hb6
      have Hown6 := Lib.hid (show w6.ownsRow w5.heap.size 3 1 v6 64 (W.map (Value.int .i64)) by
        have := hown6
        simp only [List.length_map, Nat.zero_add, List.nil_append, HWL.out] at this
        exact this)
      have S6 := Lib.hid x6
      clear hown6 hb6 x6
      go_wp2_with (at_builtin; refine app_own eiInt rfl _ _ rfl w5.heap.size v6 64 _ rfl (World.ownsRow.alloc Hown6.out _) _ _ _ rfl (VS.one _ _ _) (one1 _) ?d1 ?d2 ?d3 ?_)
      case d1 => simp
      case d2 => simp
      case d3 => have := S6.out.size; simp; omega
      intro v7 w7 hown7 hb7
      have x7 : Ext w5 w7 := Below.trans (S6.out.alloc _) hb7
      have hown7' : w7.ownsRow w5.heap.size 3 1 v7 65 ((W ++ [1]).map (Value.int .i64)) := by
        rw [List.map_append]; exact hown7
      obtain ⟨c7, h7'⟩ := IS.of_own hown7'
      obtain ⟨a7, n7, c7', rfl, hn7, rfl, h7'⟩ := h7'.out
      have X7 := Lib.hid (X5.out.trans x7); have H7' := Lib.hid h7'; replace H1 := Lib.hid (H1.out.ext x7); replace H2 := Lib.hid (H2.out.ext x7); replace H4 := Lib.hid (H4.out.ext x7)
      clear hown7 hb7 x7 hown7' h7' Hown6 S6 hn7
      go_wp2_with fail
      have hRb := Reduce_bad m _ _ _ _ H7'.out (by rw [HWB.out]; decide)
      rw [HWB.out] at hRb
      refine hRb.mono ?_
      clear hRb
      intro e w8 hh
      obtain ⟨a8, n8, c8, rfl, hn8, hc8, h8, x8⟩ := hh.open
      have X8 := Lib.hid (X7.out.trans x8); replace H7' := Lib.hid (H7'.out.ext x8); replace H1 := Lib.hid (H1.out.ext x8); replace H2 := Lib.hid (H2.out.ext x8); replace H4 := Lib.hid (H4.out.ext x8)
      clear hh h8 x8 hc8 hn8
      go_wp2_with fail
      refine (Text_calls _ _ _ _ H7'.out H71.out (by rw [List.length_append, HWL.out]; decide) (HT.out.ext X8.out)).mono ?_
      rintro e w9 ⟨rfl, x9⟩
      have X9 := Lib.hid (X8.out.trans x9); replace H1 := Lib.hid (H1.out.ext x9); replace H2 := Lib.hid (H2.out.ext x9); replace H4 := Lib.hid (H4.out.ext x9)
      clear x9 H7'
      obtain ⟨t2, htt2⟩ : ∃ t : ByteArray, t = ⟨(txt (W ++ [1])).toArray⟩ := ⟨_, rfl⟩
      have hts2 : t2.data.toList = txt (W ++ [1]) := by rw [htt2]
      have hsz2 : t2.size ≤ 100000 := by
        have : t2.size = t2.data.toList.length := by rw [Array.length_toList]; rfl
        rw [this, hts2]; simp at htl1; omega
      rw [← htt2]
      have HTS2 := Lib.hid hts2
      clear htt2 hts2
      go_wp2_with fail
      refine (Parse_calls t2 _ hsz2 (HM.out.ext X9.out)).mono ?_
      intro e w10 hh
      have hh := hh.2 (by rw [HTS2.out]; exact HPL.out)
      obtain ⟨a10, n10, c10, rfl, hn10, rfl, h10, x10⟩ := hh.open
      have X10 := Lib.hid (X9.out.trans x10); replace H1 := Lib.hid (H1.out.ext x10); replace H2 := Lib.hid (H2.out.ext x10); replace H4 := Lib.hid (H4.out.ext x10)
      clear hh h10 x10 hn10 hsz2 HTS2
      go_wp2
      go_loopw [18, 19] (fun p i wr => ∃ k : Nat, k ≤ 64 ∧ i = .int .i64 k ∧ p = .string (ptx c k) ∧ Hid (Ext w10 wr)) (fun _ i _ => 64 - (intOf i).toNat)
      case atStart => exact ⟨0, Nat.zero_le _, rfl, rfl, Lib.hid (Ext.refl _)⟩
      case round =>
        obtain ⟨k, hk, rfl, rfl, Hx⟩ := hrel
        by_cases hlt : k < 64
        · have hlt' : (k : Int) < 64 := by omega
          obtain ⟨b, o, rfl, hc⟩ := H1.out.at hlt
          have hck := Hx.out.cell (hc k hlt)
          rw [HWM.out _ (gi_mem (by rw [HWL.out]; exact hlt))] at hck
          clear hc
          have hs1 := ptx_size (c := c) ⟨by omega, by omega, by omega⟩ k hk
          obtain ⟨D, hD⟩ : ∃ D : ByteArray, D = ⟨(Lib.itoa c).toArray⟩ := ⟨_, rfl⟩
          have hs2 : D.size ≤ 2 := by
            rw [hD]
            have := itoa_len (k := c) ⟨by omega, by omega, by omega⟩
            show (Lib.itoa c).toArray.size ≤ 2
            rw [List.size_toArray]; exact this
          have HD := Lib.hid hD
          clear hD
          by_cases h0 : k = 0
          · subst h0
            rw [Nat.add_zero] at hck
            go_wp2_with fail
            refine (Itoa_calls c (by omega) _ (HT.out.ext (X10.out.trans Hx.out))).mono ?_
            rintro e w11 ⟨rfl, x11⟩
            rw [← HD.out]
            have XX := Lib.hid (Hx.out.trans x11)
            clear x11 Hx hck
            go_wp2
            go_roundw
            case rel => exact ⟨1, by omega, by go_num, by rw [HD.out, ← ptx_one], XX⟩
            case measure => simp [intOf]
          · have hk0 : (0 : Int) < (k : Int) := by omega
            have Hk := Lib.hid (ptx_succ c (k := k) (by omega))
            clear h0
            go_wp2_with fail
            refine (Itoa_calls c (by omega) _ (HT.out.ext (X10.out.trans Hx.out))).mono ?_
            rintro e w11 ⟨rfl, x11⟩
            rw [← HD.out]
            have XX := Lib.hid (Hx.out.trans x11)
            clear x11 Hx hck
            go_wp2
            go_roundw
            case rel => exact ⟨k + 1, by omega, by go_num, by rw [HD.out, ← Hk.out], XX⟩
            case measure => simp [intOf]; omega
        · obtain rfl : k = 64 := by omega
          have XX := Lib.hid (X10.out.trans Hx.out)
          replace H1 := Lib.hid (H1.out.ext Hx.out); replace H2 := Lib.hid (H2.out.ext Hx.out); replace H4 := Lib.hid (H4.out.ext Hx.out)
          clear hlt hk Hx
          go_wp2_with fail
          refine (same_calls _ _ _ _ W W _ H2.out H1.out).mono ?_
          rintro e w12 ⟨rfl, q12, rfl⟩
          rw [sameB_self]
          replace H1 := Lib.hid (H1.out.ext ((Ext.refl _).drewN q12)); replace H4 := Lib.hid (H4.out.ext ((Ext.refl _).drewN q12)); replace XX := Lib.hid (XX.out.drewN q12)
          go_wp2_with fail
          refine (same_calls _ _ _ _ W W _ H4.out H1.out).mono ?_
          rintro e w13 ⟨rfl, q13, hw13⟩
          rw [sameB_self]
          have xq := (Ext.refl (wr.drewN q12)).drewN q13
          rw [World.drewN_drewN] at hw13 xq
          subst hw13
          replace H1 := Lib.hid (H1.out.ext xq); replace XX := Lib.hid (XX.out.trans xq)
          clear xq
          go_wp2_with fail
          refine (Text_calls _ _ W _ H1.out H7.out (by rw [HWL.out]; omega) (HT.out.ext XX.out)).mono ?_
          rintro e w14 ⟨rfl, x14⟩
          have hpx : (⟨(txt W).toArray⟩ : ByteArray) = ptx c 64 := by rw [HW.out]; exact ptx_txt c
          rw [hpx]
          replace XX := Lib.hid (XX.out.trans x14)
          clear x14 hpx
          go_wp2_with fail
          refine (lives_calls _).mono ?_
          rintro e w15 ⟨rfl, x15⟩
          replace XX := Lib.hid (XX.out.trans x15)
          clear x15
          go_wp2
          go_ret
          exact ⟨rfl, XX.out⟩
end Go.Proofs.YtbappfeojdehgaaDoor
