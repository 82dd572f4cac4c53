/- Texts of this claim in one file: libraries and walks. -/
import Derived.Test.YtlmkcojimhbmiaaL9
import Derived.Test.YtlmkcojimhbmiaaL11
import Derived.Test.YtlmkcojimhbmiaaL12
import Derived.Test.YtlmkcojimhbmiaaL16
import Derived.Test.YtlmkcojimhbmiaaL17
import Derived.Test.YtlmkcojimhbmiaaL18
/- MotifsBeside: the walk. -/
namespace Go.Proofs.Ytlmkcojimhbmiaa
set_option linter.unusedVariables false
set_option linter.unusedSimpArgs false
set_option maxRecDepth 8000
open Go Go.RowKit

set_option maxHeartbeats 2000000 in
theorem MotifsBeside_walk (v : Value) (c : Nat) (bs : List (List (List St))) (w : World) (h : BB w v c bs) : Calls Try.prog 4 #[v] w fun e w' => e = .returned (.bool true) ∧ Ext w w' := by
  have kB := fun w' (x : Ext w w') (h1 : bs.length ≤ 100) (h2 : ∀ k, k < bs.length → (bw bs k).length ≤ 40 ∧ ∀ i, i < (bw bs k).length → (sw (bw bs k) i).length ≤ 40) => Beside2_calls v c bs w' (h.ext x) (by omega) (fun k hk i hi => by have := (h2 k hk).2 i hi; omega)
  have kR := fun w' (x : Ext w w') (h1 : bs.length ≤ 100) (h2 : ∀ k, k < bs.length → (bw bs k).length ≤ 40 ∧ ∀ i, i < (bw bs k).length → (sw (bw bs k) i).length ≤ 40) => RBeside_calls v c bs w' (h.ext x) h1 (fun k hk => by have := (h2 k hk).1; omega) (fun k hk i hi => by have := (h2 k hk).2 i hi; omega)
  obtain ⟨ao, n, rfl, hn, hc, hcm, hat⟩ := h.open
  unfold maxLen at hcm
  have Hn := Lib.hid hn; have HA := Lib.hid hat; have KB := Lib.hid kB; have KR := Lib.hid kR
  clear h hn hat kB kR
  go_enter Try.func4, Try.ntmps4
  by_cases h70 : 70 < n
  · have t : (70 : Int) < n := by omega
    go_wp2
    go_ret
    exact ⟨rfl, Ext.refl _⟩
  · have t : ¬ (70 : Int) < n := by omega
    go_wp2
    go_loopw [3] (fun i wr => ∃ k : Nat, k ≤ n ∧ i = .int .i64 k ∧ Hid (Ext w wr) ∧ Hid (∀ j, j < k → sml (bw bs j) ≠ 0)) (fun i _ => n - (intOf i).toNat)
    case atStart => exact ⟨0, Nat.zero_le _, rfl, Lib.hid (Ext.refl _), Lib.hid (fun j hj => by omega)⟩
    case round =>
      obtain ⟨k, hk, rfl, HX, HG⟩ := hrel
      by_cases hlt : k < n
      · obtain ⟨b, o, a, m, d, rfl, y1, y2, y3⟩ := HA.out k hlt
        replace y1 := HX.out.cell y1
        have t1 : (k : Int) < n := by omega
        have HS := Lib.hid (small_calls _ _ _ wr (y3.ext HX.out))
        obtain ⟨S, hS⟩ : ∃ S, S = sml (bw bs k) := ⟨_, rfl⟩
        rw [← hS] at HS
        have HSS := Lib.hid hS
        have hs01 : S = 0 ∨ S = 1 := by rw [hS]; exact sml_cases _
        clear y2 y3 hS
        go_wp2_with fail
        refine HS.out.mono ?_
        rintro e w3 ⟨rfl, x⟩
        have X3 := Lib.hid (HX.out.trans x)
        clear x y1 HS
        rcases hs01 with rfl | rfl
        · go_wp2
          go_ret
          exact ⟨rfl, X3.out⟩
        · have HG2 := Lib.hid (show ∀ j, j < k + 1 → sml (bw bs j) ≠ 0 from fun j hj => by
            by_cases e : j = k
            · rw [e, ← HSS.out]; decide
            · exact HG.out j (by omega))
          go_wp2
          go_roundw
          case rel => exact ⟨k + 1, by omega, by go_num, X3, HG2⟩
          case measure => simp [intOf]; omega
      · obtain rfl : n = k := by omega
        have hl : bs.length ≤ 100 := by rw [← Hn.out]; omega
        have hall : ∀ k, k < bs.length → (bw bs k).length ≤ 40 ∧ ∀ i, i < (bw bs k).length → (sw (bw bs k) i).length ≤ 40 := fun k hk => sml_one (HG.out k (by rw [Hn.out]; exact hk))
        have HB := Lib.hid (KB.out wr HX.out hl hall)
        have HR := Lib.hid (fun w' (x : Ext w w') => KR.out w' x hl hall)
        clear hl hall KB KR HA HG
        obtain ⟨E, hE⟩ : ∃ E, E = besE bs := ⟨_, rfl⟩
        obtain ⟨C, hC⟩ : ∃ C, C = besR bs := ⟨_, rfl⟩
        rw [← hE, ← hC] at HB HR
        clear hE hC
        go_wp2_with fail
        refine HB.out.mono ?_
        rintro e w3 ⟨v3, rfl, o3, r3⟩
        obtain ⟨a3, n3, hv3, j1, j2, j3, j4⟩ := r3.open
        subst hv3
        obtain ⟨W4, hW4⟩ : ∃ W4, W4 = w3.alloc (.cells #[.slice a3 n3 C.length] 24) := ⟨_, rfl⟩
        have x4 : Ext w3 W4 := by rw [hW4]; exact (Ext.refl w3).alloc _
        have c4 : W4.cell? ⟨w3.heap.size, 0, none⟩ = some (.slice a3 n3 C.length) := by rw [hW4, World.cell?_alloc_at (hn := rfl)]; rfl
        have X4 := Lib.hid (HX.out.trans (o3.1.trans x4)); have R4 := Lib.hid (r3.ext x4); have C4 := Lib.hid c4; have HW4 := Lib.hid hW4
        have HE1 : n3 = C.length := j1
        obtain ⟨N, hN⟩ : ∃ N, N = C.length := ⟨_, rfl⟩
        rw [← hN] at HE1 R4 C4 HW4 ⊢
        subst HE1
        clear j1 j2 j3 j4 o3 r3 c4 hW4 x4 hN HB
        go_wp2_with fail
        rw [← HW4.out]
        refine (HR.out _ X4.out).mono ?_
        rintro e w5 ⟨v5, d5, rfl, r5, x⟩
        obtain ⟨a5, n5, hv5, j1, j2, j3, j4⟩ := r5.open
        subst hv5
        obtain ⟨W6, hW6⟩ : ∃ W6, W6 = w5.alloc (.cells #[.slice a5 n5 d5] 24) := ⟨_, rfl⟩
        have x6 : Ext w5 W6 := by rw [hW6]; exact (Ext.refl w5).alloc _
        have c6 : W6.cell? ⟨w5.heap.size, 0, none⟩ = some (.slice a5 n5 d5) := by rw [hW6, World.cell?_alloc_at (hn := rfl)]; rfl
        have c4 := (x.trans x6).cell C4.out
        have X6 := Lib.hid (X4.out.trans (x.trans x6)); have R6 := Lib.hid (R4.out.ext (x.trans x6)); have R5 := Lib.hid (r5.ext x6); have HW6 := Lib.hid hW6
        have C6 := Lib.hid c4
        rw [hW6] at c4 c6
        clear j1 j2 j3 j4 r5 x hW6 x6 HR
        go_wp2_with fail
        rw [← HW6.out]
        refine (df_c _ _ _ _ C _ R6.out R5.out).mono ?_
        rintro e w7 ⟨rfl, x⟩
        have X7 := Lib.hid (X6.out.trans x)
        clear c4 c6
        have c4 := x.cell C6.out
        clear x
        go_wp2_with fail
        refine (lives15_calls _).mono ?_
        rintro e w8 ⟨rfl, x⟩
        have X8 := Lib.hid (X7.out.trans x)
        clear x c4
        go_wp2
        go_ret
        exact ⟨rfl, X8.out⟩
end Go.Proofs.Ytlmkcojimhbmiaa
/- MotifsAbove: the walk. -/
namespace Go.Proofs.Ytlmkcojimhbmiaa
set_option linter.unusedVariables false
set_option linter.unusedSimpArgs false
set_option maxRecDepth 8000
open Go Go.RowKit

set_option maxHeartbeats 2000000 in
theorem MotifsAbove_walk (v : Value) (c : Nat) (bs : List (List (List St))) (w : World) (h : BB w v c bs) : Calls Try.prog 5 #[v] w fun e w' => e = .returned (.bool true) ∧ Ext w w' := by
  have kB := fun w' (x : Ext w w') (h1 : bs.length ≤ 100) (h2 : ∀ k, k < bs.length → (bw bs k).length ≤ 40 ∧ ∀ i, i < (bw bs k).length → (sw (bw bs k) i).length ≤ 40) => Above2_calls v c bs w' (h.ext x)
  have kR := fun w' (x : Ext w w') (h1 : bs.length ≤ 100) (h2 : ∀ k, k < bs.length → (bw bs k).length ≤ 40 ∧ ∀ i, i < (bw bs k).length → (sw (bw bs k) i).length ≤ 40) => RAbove_calls v c bs w' (h.ext x) h1 (fun k hk => by have := (h2 k hk).1; omega) (fun k hk i hi => by have := (h2 k hk).2 i hi; omega)
  obtain ⟨ao, n, rfl, hn, hc, hcm, hat⟩ := h.open
  unfold maxLen at hcm
  have Hn := Lib.hid hn; have HA := Lib.hid hat; have KB := Lib.hid kB; have KR := Lib.hid kR
  clear h hn hat kB kR
  go_enter Try.func5, Try.ntmps5
  by_cases h70 : 70 < n
  · have t : (70 : Int) < n := by omega
    go_wp2
    go_ret
    exact ⟨rfl, Ext.refl _⟩
  · have t : ¬ (70 : Int) < n := by omega
    go_wp2
    go_loopw [3] (fun i wr => ∃ k : Nat, k ≤ n ∧ i = .int .i64 k ∧ Hid (Ext w wr) ∧ Hid (∀ j, j < k → sml (bw bs j) ≠ 0)) (fun i _ => n - (intOf i).toNat)
    case atStart => exact ⟨0, Nat.zero_le _, rfl, Lib.hid (Ext.refl _), Lib.hid (fun j hj => by omega)⟩
    case round =>
      obtain ⟨k, hk, rfl, HX, HG⟩ := hrel
      by_cases hlt : k < n
      · obtain ⟨b, o, a, m, d, rfl, y1, y2, y3⟩ := HA.out k hlt
        replace y1 := HX.out.cell y1
        have t1 : (k : Int) < n := by omega
        have HS := Lib.hid (small_calls _ _ _ wr (y3.ext HX.out))
        obtain ⟨S, hS⟩ : ∃ S, S = sml (bw bs k) := ⟨_, rfl⟩
        rw [← hS] at HS
        have HSS := Lib.hid hS
        have hs01 : S = 0 ∨ S = 1 := by rw [hS]; exact sml_cases _
        clear y2 y3 hS
        go_wp2_with fail
        refine HS.out.mono ?_
        rintro e w3 ⟨rfl, x⟩
        have X3 := Lib.hid (HX.out.trans x)
        clear x y1 HS
        rcases hs01 with rfl | rfl
        · go_wp2
          go_ret
          exact ⟨rfl, X3.out⟩
        · have HG2 := Lib.hid (show ∀ j, j < k + 1 → sml (bw bs j) ≠ 0 from fun j hj => by
            by_cases e : j = k
            · rw [e, ← HSS.out]; decide
            · exact HG.out j (by omega))
          go_wp2
          go_roundw
          case rel => exact ⟨k + 1, by omega, by go_num, X3, HG2⟩
          case measure => simp [intOf]; omega
      · obtain rfl : n = k := by omega
        have hl : bs.length ≤ 100 := by rw [← Hn.out]; omega
        have hall : ∀ k, k < bs.length → (bw bs k).length ≤ 40 ∧ ∀ i, i < (bw bs k).length → (sw (bw bs k) i).length ≤ 40 := fun k hk => sml_one (HG.out k (by rw [Hn.out]; exact hk))
        have HB := Lib.hid (KB.out wr HX.out hl hall)
        have HR := Lib.hid (fun w' (x : Ext w w') => KR.out w' x hl hall)
        clear hl hall KB KR HA HG
        obtain ⟨E, hE⟩ : ∃ E, E = aboE bs := ⟨_, rfl⟩
        obtain ⟨C, hC⟩ : ∃ C, C = aboR bs := ⟨_, rfl⟩
        rw [← hE, ← hC] at HB HR
        clear hE hC
        go_wp2_with fail
        refine HB.out.mono ?_
        rintro e w3 ⟨v3, rfl, o3, r3⟩
        obtain ⟨a3, n3, hv3, j1, j2, j3, j4⟩ := r3.open
        subst hv3
        obtain ⟨W4, hW4⟩ : ∃ W4, W4 = w3.alloc (.cells #[.slice a3 n3 C.length] 24) := ⟨_, rfl⟩
        have x4 : Ext w3 W4 := by rw [hW4]; exact (Ext.refl w3).alloc _
        have c4 : W4.cell? ⟨w3.heap.size, 0, none⟩ = some (.slice a3 n3 C.length) := by rw [hW4, World.cell?_alloc_at (hn := rfl)]; rfl
        have X4 := Lib.hid (HX.out.trans (o3.1.trans x4)); have R4 := Lib.hid (r3.ext x4); have C4 := Lib.hid c4; have HW4 := Lib.hid hW4
        have HE1 : n3 = C.length := j1
        obtain ⟨N, hN⟩ : ∃ N, N = C.length := ⟨_, rfl⟩
        rw [← hN] at HE1 R4 C4 HW4 ⊢
        subst HE1
        clear j1 j2 j3 j4 o3 r3 c4 hW4 x4 hN HB
        go_wp2_with fail
        rw [← HW4.out]
        refine (HR.out _ X4.out).mono ?_
        rintro e w5 ⟨v5, d5, rfl, r5, x⟩
        obtain ⟨a5, n5, hv5, j1, j2, j3, j4⟩ := r5.open
        subst hv5
        obtain ⟨W6, hW6⟩ : ∃ W6, W6 = w5.alloc (.cells #[.slice a5 n5 d5] 24) := ⟨_, rfl⟩
        have x6 : Ext w5 W6 := by rw [hW6]; exact (Ext.refl w5).alloc _
        have c6 : W6.cell? ⟨w5.heap.size, 0, none⟩ = some (.slice a5 n5 d5) := by rw [hW6, World.cell?_alloc_at (hn := rfl)]; rfl
        have c4 := (x.trans x6).cell C4.out
        have X6 := Lib.hid (X4.out.trans (x.trans x6)); have R6 := Lib.hid (R4.out.ext (x.trans x6)); have R5 := Lib.hid (r5.ext x6); have HW6 := Lib.hid hW6
        have C6 := Lib.hid c4
        rw [hW6] at c4 c6
        clear j1 j2 j3 j4 r5 x hW6 x6 HR
        go_wp2_with fail
        rw [← HW6.out]
        refine (df_c _ _ _ _ C _ R6.out R5.out).mono ?_
        rintro e w7 ⟨rfl, x⟩
        have X7 := Lib.hid (X6.out.trans x)
        clear c4 c6
        have c4 := x.cell C6.out
        clear x
        go_wp2_with fail
        refine (lives15_calls _).mono ?_
        rintro e w8 ⟨rfl, x⟩
        have X8 := Lib.hid (X7.out.trans x)
        clear x c4
        go_wp2
        go_ret
        exact ⟨rfl, X8.out⟩
end Go.Proofs.Ytlmkcojimhbmiaa
/- MotifsCheck: the walk. -/
namespace Go.Proofs.Ytlmkcojimhbmiaa
set_option linter.unusedVariables false
set_option linter.unusedSimpArgs false
set_option maxRecDepth 8000
open Go Go.RowKit

theorem InC.ky {C : List (List St)} (h : InC C) : ∀ r ∈ C, ∀ s ∈ r, 0 ≤ s.k ∧ 0 ≤ s.y := fun r hr s hs => ⟨(h r hr s hs).1.1, (h r hr s hs).2.1.1⟩
theorem InC.ky3 {L T R : List (List St)} (h0 : InC L) (h1 : InC T) (h2 : InC R) : ∀ C ∈ [L, T, R], ∀ r ∈ C, ∀ s ∈ r, 0 ≤ s.k ∧ 0 ≤ s.y := fun C hC => by
  simp only [List.mem_cons, List.not_mem_nil, or_false] at hC
  rcases hC with rfl | rfl | rfl
  · exact h0.ky
  · exact h1.ky
  · exact h2.ky
theorem rcheck_c (u0 u1 u2 : Value) (c0 c1 c2 : Nat) (L T R : List (List St)) (M : Int) (w : World) (h0 : RR w u0 c0 L) (h1 : RR w u1 c1 T) (h2 : RR w u2 c2 R) (hs : ∀ C ∈ [L, T, R], ∀ r ∈ C, ∀ s ∈ r, 0 ≤ s.k ∧ 0 ≤ s.y) (hM : mchk L T R = M) :
    Calls Try.prog 12 #[.agg #[u0, u1, u2]] w fun e w' => e = .returned (.int .i64 M) ∧ Ext w w' := by
  rw [← hM]; exact RMCheck_calls _ _ _ _ _ _ L T R w h0 h1 h2 (fun k hk i hi j hj => hs _ (bw_mem hk) _ (sw_mem hi) _ (si_mem hj))
theorem mcheck_c (u0 u1 u2 : Value) (c0 c1 c2 : Nat) (L T R : List (List St)) (M : Int) (w : World) (h0 : RR w u0 c0 L) (h1 : RR w u1 c1 T) (h2 : RR w u2 c2 R) (hM : mchk L T R = M) :
    Calls Try.prog 13 #[.agg #[u0, u1, u2]] w fun e w' => e = .returned (.int .i64 M) ∧ Ext w w' := by
  rw [← hM]; exact MCheck_calls _ _ _ _ _ _ L T R w h0 h1 h2
theorem rstack_c (u0 u1 u2 : Value) (c0 c1 c2 : Nat) (L T R : List (List St)) (n up : Int) (w : World) (P : List (List St)) (E : Int) (h0 : RR w u0 c0 L) (h1 : RR w u1 c1 T) (h2 : RR w u2 c2 R) (hn : n ≤ 100) (hu : up ≤ 100)
    (hs : ∀ C ∈ [L, T, R], ∀ r ∈ C, ∀ s ∈ r, 0 ≤ s.k ∧ 0 ≤ s.y) (hE : stkE L T R n up = E) (hP : stkR L T R n up = P) : Calls Try.prog 16 #[.agg #[u0, u1, u2], .int .i64 n, .int .i64 up] w (RetCF w P E) := by
  rw [← hE, ← hP]; exact RStack_calls _ _ _ _ _ _ L T R n up w h0 h1 h2 hn hu hs
theorem fit_c (u0 u1 u2 : Value) (c0 c1 c2 : Nat) (L T R : List (List St)) (wd N E : Int) (w : World) (h0 : RR w u0 c0 L) (h1 : RR w u1 c1 T) (h2 : RR w u2 c2 R) (hN : fitN L T R wd = N) (hE : fitE L T R wd = E) : Calls Try.prog 15 #[.agg #[u0, u1, u2], .int .i64 wd] w (RetNM w N E) := by
  rw [← hE, ← hN]; exact Fit_calls _ _ _ _ _ _ L T R wd w h0 h1 h2
theorem sml_c (v : Value) (c : Nat) (rows : List (List St)) (S : Int) (w : World) (h : RR w v c rows) (hS : sml rows = S) : Calls Try.prog 11 #[.agg #[v]] w fun e w' => e = .returned (.int .i64 S) ∧ Ext w w' := by
  rw [← hS]; exact small_calls v c rows w h
set_option maxHeartbeats 4000000 in
theorem MotifsCheck_walk (u0 u1 u2 : Value) (c0 c1 c2 : Nat) (L T R : List (List St)) (n up : Int) (w : World) (h0 : RR w u0 c0 L) (h1 : RR w u1 c1 T) (h2 : RR w u2 c2 R) (i0 : InC L) (i1 : InC T) (i2 : InC R) :
    Calls Try.prog 3 #[.agg #[u0, u1, u2], .int .i64 n, .int .i64 up] w fun e w' => e = .returned (.bool true) ∧ Ext w w' := by
  have hs := InC.ky3 i0 i1 i2
  obtain ⟨M, hM⟩ : ∃ M, mchk L T R = M := ⟨_, rfl⟩
  obtain ⟨E, hE⟩ : ∃ E, prgE L T R n up = E := ⟨_, rfl⟩
  obtain ⟨P, hP⟩ : ∃ P, prgR L T R n up = P := ⟨_, rfl⟩
  obtain ⟨K, hK⟩ : ∃ K : Int, K = min n 17 := ⟨_, rfl⟩
  obtain ⟨U, hU⟩ : ∃ U : Int, U = min up 32 := ⟨_, rfl⟩
  have hE2 : stkE L T R K U = E := by rw [hK, hU, ← prgE_eq, hE]
  have hP2 : stkR L T R K U = P := by rw [hK, hU, ← prgR_eq, hP]
  obtain ⟨F, hF⟩ : ∃ F, fitE L T R n = F := ⟨_, rfl⟩
  obtain ⟨N, hN⟩ : ∃ N, fitN L T R n = N := ⟨_, rfl⟩
  have hF1 : M ≠ 0 → F = M := fun h => by rw [← hF]; unfold fitE; rw [hM, if_pos h]
  have hF2 : M = 0 → (n < 1 ∨ 16 < n) → F = 1 := fun h h1 => by rw [← hF]; unfold fitE; rw [hM, if_neg (by omega), if_pos h1]
  obtain ⟨S0, hS0⟩ : ∃ S, sml L = S := ⟨_, rfl⟩
  obtain ⟨S1, hS1⟩ : ∃ S, sml T = S := ⟨_, rfl⟩
  obtain ⟨S2, hS2⟩ : ∃ S, sml R = S := ⟨_, rfl⟩
  have z0 : S0 = 0 ∨ S0 = 1 := by rw [← hS0]; exact sml_cases _
  have z1 : S1 = 0 ∨ S1 = 1 := by rw [← hS1]; exact sml_cases _
  have z2 : S2 = 0 ∨ S2 = 1 := by rw [← hS2]; exact sml_cases _
  have hk1 : (if (17 : Int) < n then (17 : Int) else n) = K := by rw [hK]; split <;> omega
  have hk2 : min n 17 = K := hK.symm
  have hu1 : (if (32 : Int) < up then (32 : Int) else up) = U := by rw [hU]; split <;> omega
  have hu2 : min up 32 = U := hU.symm
  have hK100 : K ≤ 100 := by omega
  have hU100 : U ≤ 100 := by omega
  obtain ⟨a0, m0, rfl, d1, d2, d3, d4⟩ := h0.open
  obtain ⟨a1, m1, rfl, d5, d6, d7, d8⟩ := h1.open
  obtain ⟨a2, m2, rfl, d9, d10, d11, d12⟩ := h2.open
  clear d1 d2 d3 d4 d5 d6 d7 d8 d9 d10 d11 d12 i0 i1 i2
  have R0 := Lib.hid h0; have R1 := Lib.hid h1; have R2 := Lib.hid h2; have HS := Lib.hid hs
  have HM := Lib.hid hM; have HE := Lib.hid hE; have HP := Lib.hid hP; have HE2 := Lib.hid hE2; have HP2 := Lib.hid hP2; have HF := Lib.hid hF; have HN := Lib.hid hN; have HF1 := Lib.hid hF1; have HF2 := Lib.hid hF2
  have HS0 := Lib.hid hS0; have HS1 := Lib.hid hS1; have HS2 := Lib.hid hS2; have HK1 := Lib.hid hk1; have HK2 := Lib.hid hk2; have HU1 := Lib.hid hu1; have HU2 := Lib.hid hu2; have HK100 := Lib.hid hK100; have HU100 := Lib.hid hU100
  clear h0 h1 h2 hs hM hE hP hE2 hP2 hF hN hF1 hF2 hS0 hS1 hS2 hk1 hk2 hu1 hu2 hK hU hK100 hU100
  obtain ⟨Wa, hW⟩ : ∃ Wa, Wa = w.alloc (.cells #[.slice a0 m0 c0, .slice a1 m1 c1, .slice a2 m2 c2] 26) := ⟨_, rfl⟩
  have xa : Ext w Wa := by rw [hW]; exact (Ext.refl w).alloc _
  have hba : Wa.heap[w.heap.size]? = some (Obj.cells #[.slice a0 m0 c0, .slice a1 m1 c1, .slice a2 m2 c2] 26 (0, 0)) := by rw [hW]; exact blk_at rfl
  replace R0 := Lib.hid (R0.out.ext xa)
  replace R1 := Lib.hid (R1.out.ext xa)
  replace R2 := Lib.hid (R2.out.ext xa)
  have X_1 := Lib.hid xa
  have B0 : Hid (Wa.cell? ⟨w.heap.size, 0, none⟩ = some (.slice a0 m0 c0)) := Lib.hid (by simp [World.cell?, hba])
  have B1 : Hid (Wa.cell? ⟨w.heap.size, 1, none⟩ = some (.slice a1 m1 c1)) := Lib.hid (by simp [World.cell?, hba])
  have B2 : Hid (Wa.cell? ⟨w.heap.size, 2, none⟩ = some (.slice a2 m2 c2)) := Lib.hid (by simp [World.cell?, hba])
  have HWa := Lib.hid hW
  clear hW xa hba
  go_enter Try.func3, Try.ntmps3
  have b0 := B0.out
  rw [HWa.out] at b0
  go_wp2_with fail
  rw [← HWa.out]
  refine (sml_c _ _ _ S0 _ R0.out HS0.out).mono ?_
  rintro e w1 ⟨rfl, x⟩
  clear b0
  replace R0 := Lib.hid (R0.out.ext x)
  replace R1 := Lib.hid (R1.out.ext x)
  replace R2 := Lib.hid (R2.out.ext x)
  replace B0 := Lib.hid (x.cell B0.out)
  replace B1 := Lib.hid (x.cell B1.out)
  replace B2 := Lib.hid (x.cell B2.out)
  have X_2 := Lib.hid (X_1.out.trans x)
  clear X_1
  clear x
  rcases z0 with rfl | rfl
  · go_wp2
    go_ret
    exact ⟨rfl, X_2.out⟩
  have b1 := B1.out
  go_wp2_with fail
  refine (sml_c _ _ _ S1 _ R1.out HS1.out).mono ?_
  rintro e w2 ⟨rfl, x⟩
  clear b1
  replace R0 := Lib.hid (R0.out.ext x)
  replace R1 := Lib.hid (R1.out.ext x)
  replace R2 := Lib.hid (R2.out.ext x)
  replace B0 := Lib.hid (x.cell B0.out)
  replace B1 := Lib.hid (x.cell B1.out)
  replace B2 := Lib.hid (x.cell B2.out)
  have X_3 := Lib.hid (X_2.out.trans x)
  clear X_2
  clear x
  rcases z1 with rfl | rfl
  · go_wp2
    go_ret
    exact ⟨rfl, X_3.out⟩
  have b2 := B2.out
  go_wp2_with fail
  refine (sml_c _ _ _ S2 _ R2.out HS2.out).mono ?_
  rintro e w3 ⟨rfl, x⟩
  clear b2
  replace R0 := Lib.hid (R0.out.ext x)
  replace R1 := Lib.hid (R1.out.ext x)
  replace R2 := Lib.hid (R2.out.ext x)
  replace B0 := Lib.hid (x.cell B0.out)
  replace B1 := Lib.hid (x.cell B1.out)
  replace B2 := Lib.hid (x.cell B2.out)
  have X_4 := Lib.hid (X_3.out.trans x)
  clear X_3
  clear x
  rcases z2 with rfl | rfl
  · go_wp2
    go_ret
    exact ⟨rfl, X_4.out⟩
  have b0 := B0.out
  have b1 := B1.out
  have b2 := B2.out
  go_wp2_with fail
  refine (rcheck_c _ _ _ _ _ _ L T R M _ R0.out R1.out R2.out HS.out HM.out).mono ?_
  rintro e w4 ⟨rfl, x⟩
  clear b0 b1 b2
  replace R0 := Lib.hid (R0.out.ext x)
  replace R1 := Lib.hid (R1.out.ext x)
  replace R2 := Lib.hid (R2.out.ext x)
  replace B0 := Lib.hid (x.cell B0.out)
  replace B1 := Lib.hid (x.cell B1.out)
  replace B2 := Lib.hid (x.cell B2.out)
  have X_5 := Lib.hid (X_4.out.trans x)
  clear X_4
  clear x
  have b0 := B0.out
  have b1 := B1.out
  have b2 := B2.out
  go_wp2_with fail
  refine (mcheck_c _ _ _ _ _ _ L T R M _ R0.out R1.out R2.out HM.out).mono ?_
  rintro e w5 ⟨rfl, x⟩
  clear b0 b1 b2
  replace R0 := Lib.hid (R0.out.ext x)
  replace R1 := Lib.hid (R1.out.ext x)
  replace R2 := Lib.hid (R2.out.ext x)
  replace B0 := Lib.hid (x.cell B0.out)
  replace B1 := Lib.hid (x.cell B1.out)
  replace B2 := Lib.hid (x.cell B2.out)
  have X_6 := Lib.hid (X_5.out.trans x)
  clear X_5
  clear x
  have b0 := B0.out
  have b1 := B1.out
  have b2 := B2.out
  go_wp2_with fail
  refine (stack_c _ _ _ _ _ _ L T R n up _ P E R0.out R1.out R2.out HE.out HP.out).mono ?_
  rintro e w6 ⟨v6, rfl, o6, r6⟩
  have x := o6.1
  clear o6
  clear b0 b1 b2
  replace R0 := Lib.hid (R0.out.ext x)
  replace R1 := Lib.hid (R1.out.ext x)
  replace R2 := Lib.hid (R2.out.ext x)
  replace B0 := Lib.hid (x.cell B0.out)
  replace B1 := Lib.hid (x.cell B1.out)
  replace B2 := Lib.hid (x.cell B2.out)
  have X_7 := Lib.hid (X_6.out.trans x)
  clear X_6
  clear x
  obtain ⟨a6, m6, hv, j1, j2, j3, j4⟩ := r6.open
  subst hv
  have R6 := Lib.hid r6
  clear r6 j1 j2 j3 j4
  obtain ⟨Wb, hW⟩ : ∃ Wb, Wb = w6.alloc (.cells #[.slice a6 m6 P.length] 24) := ⟨_, rfl⟩
  have xa : Ext w6 Wb := by rw [hW]; exact (Ext.refl w6).alloc _
  have hba : Wb.heap[w6.heap.size]? = some (Obj.cells #[.slice a6 m6 P.length] 24 (0, 0)) := by rw [hW]; exact blk_at rfl
  replace R0 := Lib.hid (R0.out.ext xa)
  replace R1 := Lib.hid (R1.out.ext xa)
  replace R2 := Lib.hid (R2.out.ext xa)
  replace B0 := Lib.hid (xa.cell B0.out)
  replace B1 := Lib.hid (xa.cell B1.out)
  replace B2 := Lib.hid (xa.cell B2.out)
  replace R6 := Lib.hid (R6.out.ext xa)
  have X_8 := Lib.hid (X_7.out.trans xa)
  clear X_7
  have B6 : Hid (Wb.cell? ⟨w6.heap.size, 0, none⟩ = some (.slice a6 m6 P.length)) := Lib.hid (by simp [World.cell?, hba])
  have HWb := Lib.hid hW
  clear hW xa hba
  have b0 := B0.out
  rw [HWb.out] at b0
  have b1 := B1.out
  rw [HWb.out] at b1
  have b2 := B2.out
  rw [HWb.out] at b2
  go_wp2_with fail
  rw [← HWb.out]
  refine (fit_c _ _ _ _ _ _ L T R n N F _ R0.out R1.out R2.out HN.out HF.out).mono ?_
  rintro e w7 ⟨rfl, x⟩
  clear b0 b1 b2
  replace R0 := Lib.hid (R0.out.ext x)
  replace R1 := Lib.hid (R1.out.ext x)
  replace R2 := Lib.hid (R2.out.ext x)
  replace B0 := Lib.hid (x.cell B0.out)
  replace B1 := Lib.hid (x.cell B1.out)
  replace B2 := Lib.hid (x.cell B2.out)
  replace R6 := Lib.hid (R6.out.ext x)
  replace B6 := Lib.hid (x.cell B6.out)
  have X_9 := Lib.hid (X_8.out.trans x)
  clear X_8
  clear x
  have hk1 := HK1.out; have hk2 := HK2.out; have hu1 := HU1.out; have hu2 := HU2.out
  have b0 := B0.out
  have b1 := B1.out
  have b2 := B2.out
  go_wp2_with fail
  refine (rstack_c _ _ _ _ _ _ L T R K U _ P E R0.out R1.out R2.out HK100.out HU100.out HS.out HE2.out HP2.out).mono ?_
  rintro e w8 ⟨v8, c8, rfl, r8, x⟩
  clear hk1 hk2 hu1 hu2
  clear b0 b1 b2
  replace R0 := Lib.hid (R0.out.ext x)
  replace R1 := Lib.hid (R1.out.ext x)
  replace R2 := Lib.hid (R2.out.ext x)
  replace B0 := Lib.hid (x.cell B0.out)
  replace B1 := Lib.hid (x.cell B1.out)
  replace B2 := Lib.hid (x.cell B2.out)
  replace R6 := Lib.hid (R6.out.ext x)
  replace B6 := Lib.hid (x.cell B6.out)
  have X_10 := Lib.hid (X_9.out.trans x)
  clear X_9
  clear x
  obtain ⟨a8, m8, hv, j1, j2, j3, j4⟩ := r8.open
  subst hv
  have R8 := Lib.hid r8
  clear r8 j1 j2 j3 j4
  obtain ⟨Wc, hW⟩ : ∃ Wc, Wc = w8.alloc (.cells #[.slice a8 m8 c8] 24) := ⟨_, rfl⟩
  have xa : Ext w8 Wc := by rw [hW]; exact (Ext.refl w8).alloc _
  have hba : Wc.heap[w8.heap.size]? = some (Obj.cells #[.slice a8 m8 c8] 24 (0, 0)) := by rw [hW]; exact blk_at rfl
  replace R0 := Lib.hid (R0.out.ext xa)
  replace R1 := Lib.hid (R1.out.ext xa)
  replace R2 := Lib.hid (R2.out.ext xa)
  replace B0 := Lib.hid (xa.cell B0.out)
  replace B1 := Lib.hid (xa.cell B1.out)
  replace B2 := Lib.hid (xa.cell B2.out)
  replace R6 := Lib.hid (R6.out.ext xa)
  replace B6 := Lib.hid (xa.cell B6.out)
  replace R8 := Lib.hid (R8.out.ext xa)
  have X_11 := Lib.hid (X_10.out.trans xa)
  clear X_10
  have B8 : Hid (Wc.cell? ⟨w8.heap.size, 0, none⟩ = some (.slice a8 m8 c8)) := Lib.hid (by simp [World.cell?, hba])
  have HWc := Lib.hid hW
  clear hW xa hba
  have b6 := B6.out
  rw [HWc.out] at b6
  have b8 := B8.out
  rw [HWc.out] at b8
  go_wp2_with fail
  rw [← HWc.out]
  refine (df_c _ _ _ _ P _ R6.out R8.out).mono ?_
  rintro e w9 ⟨rfl, x⟩
  clear b6 b8
  replace R0 := Lib.hid (R0.out.ext x)
  replace R1 := Lib.hid (R1.out.ext x)
  replace R2 := Lib.hid (R2.out.ext x)
  replace B0 := Lib.hid (x.cell B0.out)
  replace B1 := Lib.hid (x.cell B1.out)
  replace B2 := Lib.hid (x.cell B2.out)
  replace R6 := Lib.hid (R6.out.ext x)
  replace B6 := Lib.hid (x.cell B6.out)
  replace R8 := Lib.hid (R8.out.ext x)
  replace B8 := Lib.hid (x.cell B8.out)
  have X_12 := Lib.hid (X_11.out.trans x)
  clear X_11
  clear x
  have hf1 := HF1.out; have hf2 := HF2.out
  clear HF1 HF2 HF HN HM
  by_cases hM0 : M = 0
  · subst hM0
    by_cases hn1 : n < 1
    · have hf : F = 1 := hf2 rfl (.inl hn1)
      subst hf
      clear hf1 hf2
      go_wp2_with fail
      refine (lives15_calls _).mono ?_
      rintro e w10 ⟨rfl, x⟩
      replace R0 := Lib.hid (R0.out.ext x)
      replace R1 := Lib.hid (R1.out.ext x)
      replace R2 := Lib.hid (R2.out.ext x)
      replace B0 := Lib.hid (x.cell B0.out)
      replace B1 := Lib.hid (x.cell B1.out)
      replace B2 := Lib.hid (x.cell B2.out)
      replace R6 := Lib.hid (R6.out.ext x)
      replace B6 := Lib.hid (x.cell B6.out)
      replace R8 := Lib.hid (R8.out.ext x)
      replace B8 := Lib.hid (x.cell B8.out)
      have X_13 := Lib.hid (X_12.out.trans x)
      clear X_12
      clear x
      go_wp2
      go_ret
      exact ⟨rfl, X_13.out⟩
    · by_cases hn2 : 16 < n
      · have hf : F = 1 := hf2 rfl (.inr hn2)
        subst hf
        clear hf1 hf2
        go_wp2_with fail
        refine (lives15_calls _).mono ?_
        rintro e w10 ⟨rfl, x⟩
        replace R0 := Lib.hid (R0.out.ext x)
        replace R1 := Lib.hid (R1.out.ext x)
        replace R2 := Lib.hid (R2.out.ext x)
        replace B0 := Lib.hid (x.cell B0.out)
        replace B1 := Lib.hid (x.cell B1.out)
        replace B2 := Lib.hid (x.cell B2.out)
        replace R6 := Lib.hid (R6.out.ext x)
        replace B6 := Lib.hid (x.cell B6.out)
        replace R8 := Lib.hid (R8.out.ext x)
        replace B8 := Lib.hid (x.cell B8.out)
        have X_13 := Lib.hid (X_12.out.trans x)
        clear X_12
        clear x
        go_wp2
        go_ret
        exact ⟨rfl, X_13.out⟩
      · clear hf1 hf2
        go_wp2_with fail
        refine (lives15_calls _).mono ?_
        rintro e w10 ⟨rfl, x⟩
        replace R0 := Lib.hid (R0.out.ext x)
        replace R1 := Lib.hid (R1.out.ext x)
        replace R2 := Lib.hid (R2.out.ext x)
        replace B0 := Lib.hid (x.cell B0.out)
        replace B1 := Lib.hid (x.cell B1.out)
        replace B2 := Lib.hid (x.cell B2.out)
        replace R6 := Lib.hid (R6.out.ext x)
        replace B6 := Lib.hid (x.cell B6.out)
        replace R8 := Lib.hid (R8.out.ext x)
        replace B8 := Lib.hid (x.cell B8.out)
        have X_13 := Lib.hid (X_12.out.trans x)
        clear X_12
        clear x
        go_wp2
        go_ret
        exact ⟨rfl, X_13.out⟩
  · have hf : F = M := hf1 hM0
    subst hf
    have t1 : (F != 0) = true := by simpa using hM0
    have t2 : (F == 0) = false := by simpa using hM0
    clear hf1 hf2 hM0
    go_wp2_with fail
    refine (lives15_calls _).mono ?_
    rintro e w10 ⟨rfl, x⟩
    replace R0 := Lib.hid (R0.out.ext x)
    replace R1 := Lib.hid (R1.out.ext x)
    replace R2 := Lib.hid (R2.out.ext x)
    replace B0 := Lib.hid (x.cell B0.out)
    replace B1 := Lib.hid (x.cell B1.out)
    replace B2 := Lib.hid (x.cell B2.out)
    replace R6 := Lib.hid (R6.out.ext x)
    replace B6 := Lib.hid (x.cell B6.out)
    replace R8 := Lib.hid (R8.out.ext x)
    replace B8 := Lib.hid (x.cell B8.out)
    have X_13 := Lib.hid (X_12.out.trans x)
    clear X_12
    clear x
    go_wp2
    go_ret
    exact ⟨rfl, X_13.out⟩
end Go.Proofs.Ytlmkcojimhbmiaa
