/- Contracts of permutations.falls, Starts, Ends. -/
import Derived.Test.YtpcbadagffeehaaPa
import Derived.BigQuiet
import Derived.RangeFuncBox
namespace Go.Proofs.Ytpcbadagffeehaa
set_option linter.unusedVariables false
set_option linter.unusedSimpArgs false
open Go Go.RowKit

def fallB (xs : List Int) (i : Nat) : Bool := decide (gi xs i < gi xs (i - 1))
/-- The falls ahead of place k. -/
def fallsTo (xs : List Int) (k : Nat) : List Int := ((List.range k).filter fun i => decide (1 ≤ i) && fallB xs i).map Int.ofNat
def fallsL (xs : List Int) : List Int := fallsTo xs xs.length
theorem fallsTo_one (xs : List Int) : fallsTo xs 1 = [] := rfl
theorem fallsTo_yes {xs : List Int} {k : Nat} (hk : 1 ≤ k) (h : fallB xs k = true) : fallsTo xs (k + 1) = fallsTo xs k ++ [(k : Int)] := by
  unfold fallsTo; rw [List.range_succ, List.filter_append, List.map_append]; simp [hk, h]
theorem fallsTo_no {xs : List Int} {k : Nat} (h : fallB xs k = false) : fallsTo xs (k + 1) = fallsTo xs k := by
  unfold fallsTo; rw [List.range_succ, List.filter_append, List.map_append]; simp [h]
theorem fallsTo_len (xs : List Int) (k : Nat) : (fallsTo xs k).length ≤ k := by
  unfold fallsTo; rw [List.length_map]; exact Nat.le_trans (List.length_filter_le _ _) (by simp)
theorem fallsTo_mono (xs : List Int) {j k : Nat} (h : j ≤ k) : (fallsTo xs j).length ≤ (fallsTo xs k).length := by
  obtain ⟨d, rfl⟩ := Nat.le.dest h
  induction d with
  | zero => exact Nat.le_refl _
  | succ d ih =>
    refine Nat.le_trans (ih (by omega)) ?_
    unfold fallsTo; rw [List.length_map, List.length_map, ← Nat.add_assoc, List.range_succ, List.filter_append, List.length_append]; omega
theorem fallsTo_end (xs : List Int) {k : Nat} (h : xs.length ≤ 1) (hk : k = 1) : fallsTo xs k = fallsL xs := by
  subst hk
  unfold fallsL
  rcases (show xs.length = 0 ∨ xs.length = 1 by omega) with h | h <;> rw [h] <;> rfl

theorem Ext.toGrown' {w w' : World} (h : Ext w w') : w.grownBy w' none := ⟨h.os, h.tape, h.output, h.size, fun k hk _ => Below.block h k hk⟩

set_option maxHeartbeats 1000000 in
theorem falls1_calls (B : Nat) (v : Value) (c : Nat) (xs : List Int) (i : Nat) (h1i : 1 ≤ i) (hi : i < xs.length) (w : World) (hB : w.cell? ⟨B, 0, none⟩ = some v) (h : IS .u8 w v c xs) (h8 : xs.length ≤ 8) :
    Calls Try.prog 49 #[.int .i64 (i : Int), .pointer (some ⟨B, 0, none⟩)] w fun e w' => e = .returned (.bool (fallB xs i)) ∧ ∃ m, w' = w.drewN m := by
  obtain ⟨h1, h2, ao, rfl, hao⟩ := h.open
  obtain ⟨a, rfl⟩ : ∃ a, i = a + 1 := ⟨i - 1, by omega⟩
  unfold fallB
  simp only [Nat.add_sub_cancel, Int.natCast_add, Int.natCast_one, Int.cast_ofNat_Int]
  obtain ⟨N, hN⟩ : ∃ N, N = xs.length := ⟨_, rfl⟩
  rw [← hN] at hB hao h1 hi h8
  obtain ⟨b', o, rfl, hc⟩ : ∃ b o, ao = some ⟨b, o, none⟩ ∧ ∀ i, i < N → w.cell? ⟨b, o + i, none⟩ = some (.int .u8 (gi xs i)) := by
    rcases hao with ⟨_, h0, _⟩ | h
    · omega
    · exact h
  have ca := hc a (by omega)
  have cb := hc (a + 1) (by omega)
  clear hc hao h hN
  go_enter Try.func49, Try.ntmps49
  go_wp2
  go_quiet (fail)
  go_wp2
  go_ret
  exact ⟨rfl, _, rfl⟩

set_option maxHeartbeats 1000000 in
theorem falls_calls (v : Value) (c : Nat) (xs : List Int) (w : World) (h : IS .u8 w v c xs) (h8 : xs.length ≤ 8) :
    Calls Try.prog 37 #[v] w (RetI .i64 w (fallsL xs).length (fallsL xs)) := by
  obtain ⟨h1, h2, ao, rfl, hao⟩ := h.open
  have bx := Boxed.new w 22 (.slice ao xs.length c)
  have x0 : Ext w (w.alloc (.cells #[.slice ao xs.length c] 22)) := (Ext.refl w).alloc _
  have hcall : ∀ (i : Nat), 1 ≤ i → i < xs.length → ∀ wr, Ext (w.alloc (.cells #[.slice ao xs.length c] 22)) wr → Calls Try.prog 49 #[.int .i64 (i : Int), .pointer (some ⟨w.heap.size, 0, none⟩)] wr fun e w' => e = .returned (.bool (fallB xs i)) ∧ ∃ m, w' = wr.drewN m :=
    fun i a b wr hx => falls1_calls _ _ c xs i a b wr (hx.cell bx.cell) (h.ext (x0.trans hx)) h8
  have hcell : ∀ wr, Ext (w.alloc (.cells #[.slice ao xs.length c] 22)) wr → wr.cell? ⟨w.heap.size, 0, none⟩ = some (.slice ao xs.length c) := fun wr hx => hx.cell bx.cell
  have hL : (fallsTo xs xs.length) = fallsL xs := rfl
  have hL1 : xs.length ≤ 1 → fallsTo xs 1 = fallsL xs := fun h => fallsTo_end xs h rfl
  have hLle := fallsTo_len xs xs.length
  have hle : ∀ k, k ≤ xs.length → (fallsTo xs k).length ≤ (fallsL xs).length := fun k hk => fallsTo_mono xs hk
  have hle1 := hL1
  obtain ⟨M, hM⟩ : ∃ M, M = (fallsL xs).length := ⟨_, rfl⟩
  rw [hL, ← hM] at hLle
  rw [← hM]
  rw [← hM] at hle
  obtain ⟨N, hN⟩ : ∃ N, N = xs.length := ⟨_, rfl⟩
  rw [← hN] at hcall hcell h1 h8 hL hL1 hLle hle x0 ⊢
  have HC := Lib.hid hcall; have HV := Lib.hid hcell; have HL := Lib.hid hL; have HL1 := Lib.hid hL1; have HLE := Lib.hid hle; have HM := Lib.hid hM; have HX := Lib.hid x0
  clear hcall hcell hL hL1 hle hle1 hM hN h hao bx x0
  have hmk := run_make_cap (P := Try.prog) eiInt .i64 .i64 M (by omega) (by omega)
  go_enter Try.func37, Try.ntmps37
  go_wp2
  go_loopw [4, 5] (fun n i wr => ∃ k : Nat, 1 ≤ k ∧ (k ≤ N ∨ k = 1) ∧ n = .int .i64 ((fallsTo xs k).length : Int) ∧ i = .int .i64 (k : Int) ∧ Hid (Ext (w.alloc (.cells #[.slice ao N c] 22)) wr)) (fun _ i _ => N - (intOf i).toNat)
  case atStart => exact ⟨1, by omega, by omega, rfl, rfl, Lib.hid (Ext.refl _)⟩
  case round =>
    obtain ⟨k, hk1, hk, rfl, rfl, H⟩ := hrel
    have c1 := HV.out wr H.out
    have hfl := fallsTo_len xs k
    by_cases hlt : k < N
    · have hc := HC.out k hk1 hlt wr H.out
      by_cases hf : fallB xs k = true
      · rw [hf] at hc
        have Hy := Lib.hid (fallsTo_yes hk1 hf)
        have HCC := Lib.hid hc
        clear hf hc
        go_wp2_with fail
        refine HCC.out.mono ?_
        rintro e w' ⟨rfl, m, rfl⟩
        go_wp2
        go_roundw
        case rel => exact ⟨k + 1, by omega, by omega, by rw [Hy.out, List.length_append]; go_num, by go_num, Lib.hid (H.out.drewN m)⟩
        case measure => simp [intOf]; omega
      · rw [Bool.not_eq_true] at hf
        rw [hf] at hc
        have Hy := Lib.hid (fallsTo_no hf)
        have HCC := Lib.hid hc
        clear hf hc
        go_wp2_with fail
        refine HCC.out.mono ?_
        rintro e w' ⟨rfl, m, rfl⟩
        go_wp2
        go_roundw
        case rel => exact ⟨k + 1, by omega, by omega, by rw [Hy.out], by go_num, Lib.hid (H.out.drewN m)⟩
        case measure => simp [intOf]; omega
    · have hLk : ((fallsTo xs k).length : Int) = (M : Int) := by
        rw [HM.out]
        rcases hk with hk | hk
        · rw [show k = N by omega, HL.out]
        · subst hk; rw [HL1.out (by omega)]
      rw [hLk]
      clear hLk hk hk1 hfl
      obtain ⟨v1, rfl⟩ : ∃ v1, v1 = wr := ⟨_, rfl⟩
      have hx1 : Ext v1 (v1.alloc (.cells (madeCells #[.int .i64 0] M) 3)) := (Ext.refl v1).alloc _
      have ho1 : (v1.alloc (.cells (madeCells #[.int .i64 0] M) 3)).ownsRow v1.heap.size 3 1 (.slice (some ⟨v1.heap.size, 0, none⟩) 0 M) 0 ((fallsTo xs 1).map (Value.int .i64)) :=
        World.ownsRow_made v1 (madeCells #[.int .i64 0] M) M (Nat.le_refl _) (by unfold maxLen; omega) (by simp [size_madeCells])
      have HX1 := Lib.hid hx1; have HO1 := Lib.hid ho1
      clear hx1 ho1
      go_wp2
      go_loopw [6, 7] (fun l i wr' => ∃ k m : Nat, 1 ≤ k ∧ (k ≤ N ∨ k = 1) ∧ m ≤ M ∧ l = .slice (some ⟨v1.heap.size, 0, none⟩) m M ∧ i = .int .i64 (k : Int) ∧ Hid (m = (fallsTo xs k).length) ∧ Ext v1 wr' ∧ wr'.ownsRow v1.heap.size 3 1 (.slice (some ⟨v1.heap.size, 0, none⟩) m M) m ((fallsTo xs k).map (Value.int .i64))) (fun _ i _ => N - (intOf i).toNat)
      case atStart => exact ⟨1, 0, by omega, by omega, by omega, rfl, rfl, Lib.hid rfl, HX1.out, HO1.out⟩
      case round =>
        obtain ⟨k, m, hk1, hk, hm, rfl, rfl, Hm, hext, hown⟩ := hrel
        have c1 := HV.out _ (H.out.trans hext)
        by_cases hlt : k < N
        · have hc := HC.out k hk1 hlt _ (H.out.trans hext)
          by_cases hf : fallB xs k = true
          · rw [hf] at hc
            have hm1 : m + 1 ≤ M := by
              have := HLE.out (k + 1) (by omega); rw [fallsTo_yes hk1 hf, List.length_append, ← Hm.out] at this; exact this
            have Hy := Lib.hid (fallsTo_yes hk1 hf)
            have HCC := Lib.hid hc
            clear hf hc
            go_wp2_with fail
            refine HCC.out.mono ?_
            rintro e w' ⟨rfl, d, rfl⟩
            have hown2 := hown.kept (((Ext.refl _).drewN d).toGrown') (.inr (by simp [Value.ownBlock]))
            go_wp2_with (at_builtin; refine app_fits eiInt rfl _ _ rfl v1.heap.size v1.heap.size m M _ rfl (hown2.alloc _) _ _ _ rfl (VS.one _ _ _) (one1 _) ?d3 ?d4 ?_)
            case d3 => simp; omega
            case d4 => have := hext.size; simp; omega
            intro w1 hown' hb
            go_wp2
            go_roundw
            case rel => exact ⟨k + 1, m + 1, by omega, by omega, by omega, rfl, by go_num, by rw [Hy.out, List.length_append, ← Hm.out]; rfl, Below.trans ((hext.drewN _).alloc _) hb, by rw [Hy.out, List.map_append]; exact hown'⟩
            case measure => simp [intOf]; omega
          · rw [Bool.not_eq_true] at hf
            rw [hf] at hc
            have Hy := Lib.hid (fallsTo_no hf)
            have HCC := Lib.hid hc
            clear hf hc
            go_wp2_with fail
            refine HCC.out.mono ?_
            rintro e w' ⟨rfl, d, rfl⟩
            have hown2 := hown.kept (((Ext.refl _).drewN d).toGrown') (.inr (by simp [Value.ownBlock]))
            go_wp2
            go_roundw
            case rel => exact ⟨k + 1, m, by omega, by omega, hm, rfl, by go_num, by rw [Hy.out]; exact Hm, hext.drewN d, by rw [Hy.out]; exact hown2⟩
            case measure => simp [intOf]; omega
        · have hfin : fallsTo xs k = fallsL xs := by
            rcases hk with hk | hk
            · rw [show k = N by omega, HL.out]
            · subst hk; exact HL1.out (by omega)
          have hmM : m = M := by rw [Hm.out, hfin, HM.out]
          subst hmM
          rw [hfin] at hown
          obtain ⟨c', hIS⟩ : ∃ c, IS .i64 wr (.slice (some ⟨v1.heap.size, 0, none⟩) m m) c (fallsL xs) := IS.of_own hown
          have hcc : c' = m := hIS.len.2.1.symm
          subst hcc
          have HIS := Lib.hid hIS; have HXX := Lib.hid (HX.out.trans ((H.out).trans hext))
          clear hIS hown hext hk hk1 hm hfin
          go_wp2
          go_ret
          exact ⟨_, rfl, HIS.out, HXX.out, NN.mk⟩
end Go.Proofs.Ytpcbadagffeehaa
