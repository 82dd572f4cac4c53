/- The law WordsText: its walk. -/
import Derived.Test.YtbappfeojdehgaaDoorTe
import Derived.Test.YtbappfeojdehgaaDoorWv
namespace Go.Proofs.YtbappfeojdehgaaDoor
set_option linter.unusedVariables false
set_option linter.unusedSimpArgs false
set_option maxRecDepth 8000
open Go Go.RowKit Go.Sort

theorem letter_seven {x : Int} (hx : 0 ≤ x) : Lt7 (letter 8 x) := by
  have e1 : 0 ≤ x / 2 % (8 - 1) := Int.emod_nonneg _ (by omega)
  have e2 : x / 2 % (8 - 1) < 8 - 1 := Int.emod_lt_of_pos _ (by omega)
  unfold letter Lt7
  split <;> omega
theorem word_seven {xs : List Int} (hx : ∀ i, i < xs.length → 0 ≤ gi xs i ∧ gi xs i ≤ 255) : ∀ k ∈ wordOf 8 xs, Lt7 k := by
  intro k hk
  unfold wordOf at hk
  rw [if_neg (by omega)] at hk
  obtain ⟨x, hx', rfl⟩ := List.mem_map.1 hk
  exact letter_seven (gi_all (P := fun x => 0 ≤ x) (fun i hi => (hx i hi).1) x (List.mem_of_mem_take hx'))
theorem word_len (n : Int) (xs : List Int) : (wordOf n xs).length ≤ 24 := by
  unfold wordOf; split <;> simp; omega
theorem sameB_self (xs : List Int) : sameB xs xs = true := by simp [sameB]

set_option maxHeartbeats 4000000 in
theorem WordsText_walk (v : Value) (c : Nat) (xs : List Int) (s : ByteArray) (w : World) (h : IS .u8 w v c xs) (hb : ∀ i, i < xs.length → 0 ≤ gi xs i ∧ gi xs i ≤ 255) (ht : PTab w) (hm : Mx w) :
    Calls Tryd.prog 3 #[v, .string s] w fun e w' => e = .returned (.bool true) ∧ Ext w w' := by
  by_cases hs : 300 < s.size
  · have hs' : (300 : Int) < (s.size : Int) := by omega
    clear hb ht hm h
    go_enter Tryd.func3, Tryd.ntmps3
    go_wp2_with fail
    refine (lives_calls _).mono ?_
    rintro e w1 ⟨rfl, x1⟩
    go_wp2
    go_ret
    exact ⟨rfl, x1⟩
  have hs' : ¬ (300 : Int) < (s.size : Int) := by omega
  obtain ⟨W, hW⟩ : ∃ W, W = wordOf 8 xs := ⟨_, rfl⟩
  have hOf := Of_calls 8 v c xs w h hb ⟨by omega, by omega⟩
  have h7 := word_seven hb
  have hl := word_len 8 xs
  rw [← hW] at hOf h7 hl
  have hpt := parse_txt h7 (by omega)
  have htl := txt_len h7
  have HOf := Lib.hid hOf; have H7 := Lib.hid h7; have HPT := Lib.hid hpt
  have HT := Lib.hid ht; have HM := Lib.hid hm
  clear hOf h7 hpt hW ht hm h hb
  go_enter Tryd.func3, Tryd.ntmps3
  go_wp2_with fail
  refine HOf.out.mono ?_
  intro e w1 hh
  obtain ⟨a1, L, c1, rfl, hL, h1, x1⟩ := hh.open
  have X1 := Lib.hid x1; have H1 := Lib.hid h1; have HL := Lib.hid hL
  clear hh h1 x1 hL HOf
  go_wp2_with fail
  refine (Text_calls _ _ W _ H1.out H7.out (by omega) (HT.out.ext X1.out)).mono ?_
  rintro e w2 ⟨rfl, x2⟩
  have X2 := Lib.hid (X1.out.trans x2); replace H1 := Lib.hid (H1.out.ext x2)
  clear x2
  obtain ⟨t, htt⟩ : ∃ t : ByteArray, t = ⟨(txt W).toArray⟩ := ⟨_, rfl⟩
  have hts : t.data.toList = txt W := by rw [htt]
  have hsz : t.size ≤ 100000 := by
    have : t.size = t.data.toList.length := by rw [Array.length_toList]; rfl
    rw [this, hts]; omega
  rw [← htt]
  have HTS := Lib.hid hts
  clear htt hts
  go_wp2_with fail
  refine (Parse_calls t _ hsz (HM.out.ext X2.out)).mono ?_
  intro e w3 hh
  obtain ⟨cc, hcc, hh⟩ := hh.1 W (by rw [HTS.out]; exact HPT.out)
  obtain ⟨a3, n3, c3, rfl, hn3, hc3, h3, x3⟩ := hh.open
  obtain rfl : n3 = c3 := by rw [hn3, hc3, hcc]
  have X3 := Lib.hid (X2.out.trans x3); have H3 := Lib.hid h3; replace H1 := Lib.hid (H1.out.ext x3)
  clear hh h3 x3 hc3 hn3 hcc hsz
  go_wp2_with fail
  refine (Parse_calls s _ (by omega) (HM.out.ext X3.out)).mono ?_
  intro e w4 hh
  cases hp : parseT s.data.toList with
  | none =>
    have hh := hh.2 hp
    obtain ⟨a4, n4, c4, rfl, hn4, rfl, h4, x4⟩ := hh.open
    obtain rfl : n4 = 0 := hn4
    have X4 := Lib.hid (X3.out.trans x4); replace H1 := Lib.hid (H1.out.ext x4); replace H3 := Lib.hid (H3.out.ext x4)
    have HP := Lib.hid hp
    clear hh h4 x4 hp
    go_wp2_with fail
    refine (same_calls _ _ _ _ W W _ H3.out H1.out).mono ?_
    rintro e w5 ⟨rfl, q, rfl⟩
    rw [sameB_self]
    have X5 := Lib.hid (X4.out.drewN q)
    go_wp2_with fail
    refine (parsed_calls s _ (by omega)).mono ?_
    rintro e w6 ⟨v6, c6, rfl, h6, x6⟩
    rw [HP.out]
    have X6 := Lib.hid (X5.out.trans x6)
    clear h6 x6
    simp only [Option.isSome]
    go_wp2_with fail
    refine (lives_calls _).mono ?_
    rintro e w7 ⟨rfl, x7⟩
    have X7 := Lib.hid (X6.out.trans x7)
    clear x7
    go_wp2
    go_ret
    exact ⟨rfl, X7.out⟩
  | some us =>
    obtain ⟨cc', hcc', hh⟩ := hh.1 us hp
    obtain ⟨a4, n4, c4, rfl, hn4, hc4, h4, x4⟩ := hh.open
    obtain rfl : n4 = c4 := by rw [hn4, hc4, hcc']
    have X4 := Lib.hid (X3.out.trans x4); replace H1 := Lib.hid (H1.out.ext x4); replace H3 := Lib.hid (H3.out.ext x4)
    have H4 := Lib.hid h4; have HTP := Lib.hid (txt_parse hp)
    have HP := Lib.hid hp
    clear hh h4 x4 hn4 hc4 hcc' hp
    go_wp2_with fail
    refine (same_calls _ _ _ _ W W _ H3.out H1.out).mono ?_
    rintro e w5 ⟨rfl, q, rfl⟩
    rw [sameB_self]
    have X5 := Lib.hid (X4.out.drewN q); replace H4 := Lib.hid (H4.out.ext ((Ext.refl _).drewN q))
    go_wp2_with fail
    refine (parsed_calls s _ (by omega)).mono ?_
    rintro e w6 ⟨v6, c6, rfl, h6, x6⟩
    rw [HP.out]
    obtain ⟨a6, n6, d6, rfl, hn6, rfl, g6⟩ := (h6 us HP.out).out
    have X6 := Lib.hid (X5.out.trans x6); replace H4 := Lib.hid (H4.out.ext x6); have H6 := Lib.hid g6
    clear h6 g6 x6 hn6
    simp only [Option.isSome]
    go_wp2_with fail
    refine (same_calls _ _ _ _ us us _ H4.out H6.out).mono ?_
    rintro e w7 ⟨rfl, q7, rfl⟩
    rw [sameB_self]
    have X7 := Lib.hid (X6.out.drewN q7); replace H4 := Lib.hid (H4.out.ext ((Ext.refl _).drewN q7))
    go_wp2_with fail
    refine (Text_calls _ _ us _ H4.out HTP.out.2.2 (by have := HTP.out.2.1; omega) (HT.out.ext X7.out)).mono ?_
    rintro e w8 ⟨rfl, x8⟩
    have X8 := Lib.hid (X7.out.trans x8)
    have hts : (⟨(txt us).toArray⟩ : ByteArray) = s := by
      apply ByteArray.ext
      apply Array.toList_inj.1
      show (txt us).toArray.toList = s.data.toList
      rw [HTP.out.1]
    rw [hts]
    clear x8 hts
    go_wp2_with fail
    refine (lives_calls _).mono ?_
    rintro e w9 ⟨rfl, x9⟩
    have X9 := Lib.hid (X8.out.trans x9)
    clear x9
    go_wp2
    go_ret
    exact ⟨rfl, X9.out⟩
end Go.Proofs.YtbappfeojdehgaaDoor
