/- Texts of this claim in one file: libraries and walks. -/
import Derived.Test.YtlmkcojimhbmiaaL9
import Derived.Test.YtlmkcojimhbmiaaL11
import Derived.Test.YtlmkcojimhbmiaaL12
import Derived.Test.YtlmkcojimhbmiaaL16
import Derived.Test.YtlmkcojimhbmiaaL18
/- MotifsAbove: the walk. -/
namespace Go.Proofs.Ytlmkcojimhbmiaa
set_option linter.unusedVariables false
set_option linter.unusedSimpArgs false
set_option maxRecDepth 8000
open Go Go.RowKit

set_option maxHeartbeats 2000000 in
theorem MotifsAbove_walk (v : Value) (c : Nat) (bs : List (List (List St))) (w : World) (h : BB w v c bs) : Calls Try.prog 5 #[v] w fun e w' => e = .returned (.bool true) ∧ Ext w w' := by
  have kB := fun w' (x : Ext w w') (h1 : bs.length ≤ 100) (h2 : ∀ k, k < bs.length → (bw bs k).length ≤ 40 ∧ ∀ i, i < (bw bs k).length → (sw (bw bs k) i).length ≤ 40) => Above2_calls v c bs w' (h.ext x)
  have kR := fun w' (x : Ext w w') (h1 : bs.length ≤ 100) (h2 : ∀ k, k < bs.length → (bw bs k).length ≤ 40 ∧ ∀ i, i < (bw bs k).length → (sw (bw bs k) i).length ≤ 40) => RAbove_calls v c bs w' (h.ext x) h1 (fun k hk => by have := (h2 k hk).1; omega) (fun k hk i hi => by have := (h2 k hk).2 i hi; omega)
  obtain ⟨ao, n, rfl, hn, hc, hcm, hat⟩ := h.open
  unfold maxLen at hcm
  have Hn := Lib.hid hn; have HA := Lib.hid hat; have KB := Lib.hid kB; have KR := Lib.hid kR
  clear h hn hat kB kR
  go_enter Try.func5, Try.ntmps5
  by_cases h70 : 70 < n
  · have t : (70 : Int) < n := by omega
    go_wp2
    go_ret
    exact ⟨rfl, Ext.refl _⟩
  · have t : ¬ (70 : Int) < n := by omega
    go_wp2
    go_loopw [3] (fun i wr => ∃ k : Nat, k ≤ n ∧ i = .int .i64 k ∧ Hid (Ext w wr) ∧ Hid (∀ j, j < k → sml (bw bs j) ≠ 0)) (fun i _ => n - (intOf i).toNat)
    case atStart => exact ⟨0, Nat.zero_le _, rfl, Lib.hid (Ext.refl _), Lib.hid (fun j hj => by omega)⟩
    case round =>
      obtain ⟨k, hk, rfl, HX, HG⟩ := hrel
      by_cases hlt : k < n
      · obtain ⟨b, o, a, m, d, rfl, y1, y2, y3⟩ := HA.out k hlt
        replace y1 := HX.out.cell y1
        have t1 : (k : Int) < n := by omega
        have HS := Lib.hid (small_calls _ _ _ wr (y3.ext HX.out))
        obtain ⟨S, hS⟩ : ∃ S, S = sml (bw bs k) := ⟨_, rfl⟩
        rw [← hS] at HS
        have HSS := Lib.hid hS
        have hs01 : S = 0 ∨ S = 1 := by rw [hS]; exact sml_cases _
        clear y2 y3 hS
        go_wp2_with fail
        refine HS.out.mono ?_
        rintro e w3 ⟨rfl, x⟩
        have X3 := Lib.hid (HX.out.trans x)
        clear x y1 HS
        rcases hs01 with rfl | rfl
        · go_wp2
          go_ret
          exact ⟨rfl, X3.out⟩
        · have HG2 := Lib.hid (show ∀ j, j < k + 1 → sml (bw bs j) ≠ 0 from fun j hj => by
            by_cases e : j = k
            · rw [e, ← HSS.out]; decide
            · exact HG.out j (by omega))
          go_wp2
          go_roundw
          case rel => exact ⟨k + 1, by omega, by go_num, X3, HG2⟩
          case measure => simp [intOf]; omega
      · obtain rfl : n = k := by omega
        have hl : bs.length ≤ 100 := by rw [← Hn.out]; omega
        have hall : ∀ k, k < bs.length → (bw bs k).length ≤ 40 ∧ ∀ i, i < (bw bs k).length → (sw (bw bs k) i).length ≤ 40 := fun k hk => sml_one (HG.out k (by rw [Hn.out]; exact hk))
        have HB := Lib.hid (KB.out wr HX.out hl hall)
        have HR := Lib.hid (fun w' (x : Ext w w') => KR.out w' x hl hall)
        clear hl hall KB KR HA HG
        obtain ⟨E, hE⟩ : ∃ E, E = aboE bs := ⟨_, rfl⟩
        obtain ⟨C, hC⟩ : ∃ C, C = aboR bs := ⟨_, rfl⟩
        rw [← hE, ← hC] at HB HR
        clear hE hC
        go_wp2_with fail
        refine HB.out.mono ?_
        rintro e w3 ⟨v3, rfl, o3, r3⟩
        obtain ⟨a3, n3, hv3, j1, j2, j3, j4⟩ := r3.open
        subst hv3
        obtain ⟨W4, hW4⟩ : ∃ W4, W4 = w3.alloc (.cells #[.slice a3 n3 C.length] 24) := ⟨_, rfl⟩
        have x4 : Ext w3 W4 := by rw [hW4]; exact (Ext.refl w3).alloc _
        have c4 : W4.cell? ⟨w3.heap.size, 0, none⟩ = some (.slice a3 n3 C.length) := by rw [hW4, World.cell?_alloc_at (hn := rfl)]; rfl
        have X4 := Lib.hid (HX.out.trans (o3.1.trans x4)); have R4 := Lib.hid (r3.ext x4); have C4 := Lib.hid c4; have HW4 := Lib.hid hW4
        have HE1 : n3 = C.length := j1
        obtain ⟨N, hN⟩ : ∃ N, N = C.length := ⟨_, rfl⟩
        rw [← hN] at HE1 R4 C4 HW4 ⊢
        subst HE1
        clear j1 j2 j3 j4 o3 r3 c4 hW4 x4 hN HB
        go_wp2_with fail
        rw [← HW4.out]
        refine (HR.out _ X4.out).mono ?_
        rintro e w5 ⟨v5, d5, rfl, r5, x⟩
        obtain ⟨a5, n5, hv5, j1, j2, j3, j4⟩ := r5.open
        subst hv5
        obtain ⟨W6, hW6⟩ : ∃ W6, W6 = w5.alloc (.cells #[.slice a5 n5 d5] 24) := ⟨_, rfl⟩
        have x6 : Ext w5 W6 := by rw [hW6]; exact (Ext.refl w5).alloc _
        have c6 : W6.cell? ⟨w5.heap.size, 0, none⟩ = some (.slice a5 n5 d5) := by rw [hW6, World.cell?_alloc_at (hn := rfl)]; rfl
        have c4 := (x.trans x6).cell C4.out
        have X6 := Lib.hid (X4.out.trans (x.trans x6)); have R6 := Lib.hid (R4.out.ext (x.trans x6)); have R5 := Lib.hid (r5.ext x6); have HW6 := Lib.hid hW6
        have C6 := Lib.hid c4
        rw [hW6] at c4 c6
        clear j1 j2 j3 j4 r5 x hW6 x6 HR
        go_wp2_with fail
        rw [← HW6.out]
        refine (df_c _ _ _ _ C _ R6.out R5.out).mono ?_
        rintro e w7 ⟨rfl, x⟩
        have X7 := Lib.hid (X6.out.trans x)
        clear c4 c6
        have c4 := x.cell C6.out
        clear x
        go_wp2_with fail
        refine (lives15_calls _).mono ?_
        rintro e w8 ⟨rfl, x⟩
        have X8 := Lib.hid (X7.out.trans x)
        clear x c4
        go_wp2
        go_ret
        exact ⟨rfl, X8.out⟩
end Go.Proofs.Ytlmkcojimhbmiaa
