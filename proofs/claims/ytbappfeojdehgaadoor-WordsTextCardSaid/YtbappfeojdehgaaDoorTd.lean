/- Contract of words.Parse, walked. -/
import Derived.Test.YtbappfeojdehgaaDoorTc
namespace Go.Proofs.YtbappfeojdehgaaDoor
set_option linter.unusedVariables false
set_option linter.unusedSimpArgs false
set_option maxRecDepth 8000
open Go Go.RowKit Go.Sort

theorem str45 {s : ByteArray} (h : s.data.toList = [45]) : s.toList = [45] := by rw [ByteArray.toList_eq, h]
theorem str45_ne {s : ByteArray} (h : s.data.toList ≠ [45]) : (s.toList == [45]) = false := by rw [ByteArray.toList_eq, beq_eq_false_iff_ne]; exact h

theorem Parse_dash (s : ByteArray) (w : World) (h : s.data.toList = [45]) : Calls Tryd.prog 7 #[.string s] w (RetIE .i64 w 0 [] 0) := by
  have he := str45 h
  clear h
  go_enter Tryd.func7, Tryd.ntmps7
  go_wp2
  go_ret2
  exact ⟨_, rfl, IS.nil _ _, Ext.refl _⟩

theorem Parse_long (s : ByteArray) (w : World) (hs : s.size ≤ 100000) (hm : Mx w) (h : s.data.toList ≠ [45]) (hl : 64 < (fields s.data.toList).length) : Calls Tryd.prog 7 #[.string s] w (RetIE .i64 w 0 [] 4) := by
  have he := str45_ne h
  have HS := Lib.hid (Split_calls s w hs hm)
  obtain ⟨N, hN⟩ : ∃ N, N = (fields s.data.toList).length := ⟨_, rfl⟩
  have HN := Lib.hid hN
  rw [← hN] at hl
  have hl' : (64 : Int) < (N : Int) := by omega
  clear h hs hm hN
  go_enter Tryd.func7, Tryd.ntmps7
  go_wp2_with fail
  refine HS.out.mono ?_
  rintro e w1 ⟨rfl, hx, _, hc⟩
  have HX := Lib.hid hx
  rw [← HN.out]
  clear hx hc HS
  go_wp2
  go_ret2
  exact ⟨_, rfl, IS.nil _ _, HX.out⟩

/-- What the field reads as, told of what CutPrefix hands back. -/
theorem field_cut (p : List UInt8) : (pok p = true ∧ (⟨(Lib.trimPrefix p [45]).toArray⟩ : ByteArray).size = 1 ∧ ∃ b : UInt8, Lib.trimPrefix p [45] = [b] ∧ 49 ≤ b.toNat ∧ b.toNat ≤ 55 ∧ pv p = if Lib.hasPrefix p [45] then -((b.toNat : Int) - 48) else (b.toNat : Int) - 48)
    ∨ (pok p = false ∧ ((Lib.trimPrefix p [45]).length ≠ 1 ∨ ∃ b : UInt8, Lib.trimPrefix p [45] = [b] ∧ (b.toNat < 49 ∨ 55 < b.toNat))) := by
  have h := pw_cut p
  unfold pok pv
  rw [h]
  by_cases hl : (Lib.trimPrefix p [45]).length = 1
  · obtain ⟨b, hb⟩ := List.length_eq_one_iff.1 hl
    rw [hb]
    have hd : bat [b] 0 = (b.toNat : Int) := rfl
    rw [hd]
    by_cases hr : 49 ≤ b.toNat ∧ b.toNat ≤ 55
    · refine .inl ⟨?_, rfl, b, rfl, hr.1, hr.2, ?_⟩
      · rw [if_pos ⟨rfl, by omega, by omega⟩]; rfl
      · rw [if_pos ⟨rfl, by omega, by omega⟩]; rfl
    · refine .inr ⟨?_, .inr ⟨b, rfl, by omega⟩⟩
      rw [if_neg (fun h => hr ⟨by omega, by omega⟩)]; rfl
  · exact .inr ⟨by rw [if_neg (fun h => hl h.1)]; rfl, .inl hl⟩

/-- The numbers, or an error. -/
def RetFw (N : Nat) (V : List Int) (ok : Bool) (w : World) (e : Ending) (w' : World) : Prop :=
  (ok = true → RetIE .i64 w N V 0 e w') ∧ (ok = false → RetIE .i64 w 0 [] 4 e w')

set_option maxHeartbeats 4000000 in
theorem Parse_fields (s : ByteArray) (w : World) (hs : s.size ≤ 100000) (hm : Mx w) (h : s.data.toList ≠ [45]) (hl : (fields s.data.toList).length ≤ 64) :
    Calls Tryd.prog 7 #[.string s] w (RetFw (fields s.data.toList).length (vals s.data.toList) (fitsT s.data.toList) w) := by
  have he := str45_ne h
  have HS := Lib.hid (Split_calls s w hs hm)
  have hpd := fun j hj => piece_data s (i := j) hj
  have hgood : (∀ j, j < (fields s.data.toList).length → pok (fieldAt s.data.toList j) = true) → fitsT s.data.toList = true := fun hg => by
    unfold fitsT
    rw [List.all_eq_true]
    intro p hp
    obtain ⟨i, hi, rfl⟩ := mem_fieldAt hp
    exact hg i hi
  have hbad : ∀ j, j < (fields s.data.toList).length → pok (fieldAt s.data.toList j) = false → fitsT s.data.toList = false := fun j hj hp => by
    cases hf : fitsT s.data.toList with
    | false => rfl
    | true =>
      unfold fitsT at hf
      rw [List.all_eq_true] at hf
      rw [hf _ (fieldAt_mem hj)] at hp
      exact hp
  have hvals := vals_range s.data.toList
  obtain ⟨N, hN⟩ : ∃ N, N = (fields s.data.toList).length := ⟨_, rfl⟩
  have HN := Lib.hid hN
  obtain ⟨F, hF⟩ : ∃ F : Nat → List UInt8, F = fieldAt s.data.toList := ⟨_, rfl⟩
  obtain ⟨ok, hok⟩ : ∃ ok, ok = fitsT s.data.toList := ⟨_, rfl⟩
  obtain ⟨V, hV⟩ : ∃ V, V = vals s.data.toList := ⟨_, rfl⟩
  obtain ⟨p, hp⟩ : ∃ p : Nat → ByteArray, p = piece s := ⟨_, rfl⟩
  rw [← hN, ← hF] at hgood hbad hvals
  rw [← hN, ← hF, ← hp] at hpd
  rw [← hV] at hvals
  rw [← hok] at hgood hbad
  rw [← hN] at hl
  rw [← hN, ← hok, ← hV]
  have HP := Lib.hid hp
  have HPD := Lib.hid hpd; have HG := Lib.hid hgood; have HB := Lib.hid hbad; have HV := Lib.hid hvals
  have hn64 : ¬ (64 : Int) < (N : Int) := by omega
  clear hN hF hok hV hp hpd hgood hbad hvals h hs hm
  have hmk := run_make_row' (P := Tryd.prog) 25 3 (.int .i64 0) 8 Tryd.underlying25 (by kernel_rfl) rfl .i64 .i64 N (by omega) (by omega)
  go_enter Tryd.func7, Tryd.ntmps7
  go_wp2_with fail
  refine HS.out.mono ?_
  rintro e w1 ⟨rfl, hx, hsz, hc⟩
  rw [← HN.out, ← HP.out] at hc
  have HX := Lib.hid hx; have HC := Lib.hid hc
  rw [← HN.out]
  clear hx hc HS
  go_wp2
  go_loopw [6, 7, 8, 9, 22] (fun _ _ _ _ i wr => ∃ k : Nat, k ≤ N ∧ i = .int .i64 k ∧ Hid (IRow w1 wr N (fun j => pv (F j)) k ∧ ∀ j, j < k → pok (F j) = true)) (fun _ _ _ _ i _ => N - (intOf i).toNat)
  case atStart => exact ⟨0, Nat.zero_le _, rfl, Lib.hid ⟨IRow.start w1 N _, fun j hj => by omega⟩⟩
  case round =>
    obtain ⟨k, hk, rfl, H⟩ := hrel
    by_cases hlt : k < N
    · have hck := H.out.1.1.cell (HC.out k hlt)
      have hcall := Tryd.strings_CutPrefix (p k) { data := #[45] } wr
      rw [HPD.out k hlt, show ({ data := #[45] } : ByteArray).data.toList = [45] from rfl] at hcall
      have HCL := Lib.hid hcall
      have Hf := Lib.hid (field_cut (F k))
      obtain ⟨q, hq⟩ : ∃ q, q = p k := ⟨_, rfl⟩
      rw [← hq] at hck HCL
      have hnx := H.out.1.next
      obtain ⟨_, f, hrow, hf1, hf2⟩ := H.out.1
      have hst := hrow.cell (i := k) (by omega)
      have hfz := hrow.frozen k
      obtain ⟨y, hy⟩ := hf2 k
      rw [hy] at hst
      have HNX := Lib.hid hnx
      clear hcall hq hnx hrow hf1 hf2 hy f
      go_wp2_with fail
      refine HCL.out.mono ?_
      rintro e w2 ⟨rfl, rfl⟩
      clear HCL
      rcases Hf.out with ⟨g1, g2, b, g3, g4, g5, g6⟩ | ⟨g1, g2⟩
      · rw [g3]
        have HG1 := Lib.hid g1; have HG6 := Lib.hid g6
        clear g1 g2 g3 g6 Hf
        have hb1 : 49 ≤ ((({ data := #[b] } : ByteArray)[0]'(show 0 < 1 by omega)).toNat : Int) := by show (49 : Int) ≤ (b.toNat : Int); omega
        have hb2 : ((({ data := #[b] } : ByteArray)[0]'(show 0 < 1 by omega)).toNat : Int) ≤ 55 := by show (b.toNat : Int) ≤ (55 : Int); omega
        have hb3 : ((({ data := #[b] } : ByteArray)[0]'(show 0 < 1 by omega)).toNat : Int) < 56 := by show (b.toNat : Int) < (56 : Int); omega
        have hv : ((({ data := #[b] } : ByteArray)[0]'(show 0 < 1 by omega)).toNat : Int) = (b.toNat : Int) := rfl
        have HV2 := Lib.hid hv
        clear g4 g5 hv
        cases hpre : Lib.hasPrefix (F k) [45]
        · go_wp2
          go_roundw
          case rel =>
            refine ⟨k + 1, by omega, by go_num, Lib.hid ⟨?_, fun j hj => ?_⟩⟩
            · have := HNX.out
              rw [HG6.out, hpre, if_neg (by decide), ← HV2.out] at this
              exact this
            · by_cases e : j = k
              · subst e; exact HG1.out
              · exact H.out.2 j (by omega)
          case measure => simp [intOf]; omega
        · go_wp2
          go_roundw
          case rel =>
            refine ⟨k + 1, by omega, by go_num, Lib.hid ⟨?_, fun j hj => ?_⟩⟩
            · have := (H.out.1.put ((({ data := #[b] } : ByteArray)[0]'(show 0 < 1 by omega)).toNat - 48)).next
              rw [HG6.out, hpre, if_pos rfl, ← HV2.out] at this
              exact this
            · by_cases e : j = k
              · subst e; exact HG1.out
              · exact H.out.2 j (by omega)
          case measure => simp [intOf]; omega
      · obtain rfl := HB.out k hlt g1
        rcases g2 with g2 | ⟨b, g2, g3⟩
        · have g4 : (⟨(Lib.trimPrefix (F k) [45]).toArray⟩ : ByteArray).size ≠ 1 := by
            show (Lib.trimPrefix (F k) [45]).toArray.size ≠ 1
            rw [List.size_toArray]; exact g2
          obtain ⟨D, hD⟩ : ∃ D : ByteArray, D = ⟨(Lib.trimPrefix (F k) [45]).toArray⟩ := ⟨_, rfl⟩
          rw [← hD] at g4 ⊢
          have g5 : ((D.size : Int) == 1) = false := by rw [beq_eq_false_iff_ne]; omega
          have g6 : ((D.size : Int) != 1) = true := by rw [bne, g5]; rfl
          clear hD g1 g2 g4 Hf
          go_wp2
          go_ret2
          exact ⟨fun h => (by cases h), fun _ => ⟨_, rfl, IS.nil _ _, HX.out.trans H.out.1.1⟩⟩
        · rw [g2]
          rcases g3 with g3 | g3
          · have hb1 : ((({ data := #[b] } : ByteArray)[0]'(show 0 < 1 by omega)).toNat : Int) < 49 := by show (b.toNat : Int) < (49 : Int); omega
            clear g1 g2 g3 Hf
            go_wp2
            all_goals (go_ret2; exact ⟨fun h => (by cases h), fun _ => ⟨_, rfl, IS.nil _ _, HX.out.trans H.out.1.1⟩⟩)
          · have hb1 : 49 ≤ ((({ data := #[b] } : ByteArray)[0]'(show 0 < 1 by omega)).toNat : Int) := by show (49 : Int) ≤ (b.toNat : Int); omega
            have hb2 : 56 ≤ ((({ data := #[b] } : ByteArray)[0]'(show 0 < 1 by omega)).toNat : Int) := by show (56 : Int) ≤ (b.toNat : Int); omega
            clear g1 g2 g3 Hf
            go_wp2
            all_goals (go_ret2; exact ⟨fun h => (by cases h), fun _ => ⟨_, rfl, IS.nil _ _, HX.out.trans H.out.1.1⟩⟩)
    · obtain rfl : k = N := by omega
      obtain rfl := HG.out H.out.2
      have hret := H.out.1.ret (by omega)
      rw [← HV.out] at hret
      have HR := Lib.hid hret
      clear hret
      go_wp2
      go_ret2
      exact ⟨fun _ => ⟨_, rfl, HR.out, HX.out.trans H.out.1.1⟩, fun h => by cases h⟩

/-- Parse: the word with a text, or an error. -/
def RetPw (s : ByteArray) (w : World) (e : Ending) (w' : World) : Prop :=
  (∀ xs, parseT s.data.toList = some xs → ∃ c, c = xs.length ∧ RetIE .i64 w c xs 0 e w') ∧ (parseT s.data.toList = none → RetIE .i64 w 0 [] 4 e w')
theorem Parse_calls (s : ByteArray) (w : World) (hs : s.size ≤ 100000) (hm : Mx w) : Calls Tryd.prog 7 #[.string s] w (RetPw s w) := by
  by_cases h : s.data.toList = [45]
  · refine (Parse_dash s w h).mono fun e w' hr => ?_
    have hp : parseT s.data.toList = some [] := by unfold parseT; rw [if_pos h]
    refine ⟨fun xs hx => ?_, fun hn => ?_⟩
    · rw [hp] at hx; obtain rfl := Option.some.inj hx; exact ⟨_, rfl, hr⟩
    · rw [hp] at hn; cases hn
  · by_cases hl : 64 < (fields s.data.toList).length
    · refine (Parse_long s w hs hm h hl).mono fun e w' hr => ?_
      have hp : parseT s.data.toList = none := by unfold parseT; rw [if_neg h, if_pos hl]
      refine ⟨fun xs hx => ?_, fun hn => hr⟩
      rw [hp] at hx; cases hx
    · refine (Parse_fields s w hs hm h (by omega)).mono fun e w' hr => ?_
      cases hf : fitsT s.data.toList with
      | true =>
        have hp : parseT s.data.toList = some (vals s.data.toList) := by unfold parseT; rw [if_neg h, if_neg hl, if_pos hf]
        refine ⟨fun xs hx => ?_, fun hn => ?_⟩
        · rw [hp] at hx; obtain rfl := Option.some.inj hx
          exact ⟨_, by unfold vals; rw [List.length_map], hr.1 hf⟩
        · rw [hp] at hn; cases hn
      | false =>
        have hp : parseT s.data.toList = none := by unfold parseT; rw [if_neg h, if_neg hl, if_neg (by rw [hf]; decide)]
        refine ⟨fun xs hx => ?_, fun hn => hr.2 hf⟩
        rw [hp] at hx; cases hx
end Go.Proofs.YtbappfeojdehgaaDoor
