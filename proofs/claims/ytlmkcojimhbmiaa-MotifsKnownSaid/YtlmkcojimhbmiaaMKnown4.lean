/- Texts of this claim in one file: libraries and walks. -/
import Derived.Test.YtlmkcojimhbmiaaL11
import Derived.Test.YtlmkcojimhbmiaaL12
import Derived.Test.YtlmkcojimhbmiaaL19
/- Blocks put together in different orders, in plain Lean. -/
namespace Go.Proofs.Ytlmkcojimhbmiaa
set_option linter.unusedVariables false
set_option linter.unusedSimpArgs false
set_option maxRecDepth 8000
open Go Go.RowKit

theorem besRows2 {A B : List (List St)} (h : A.length = B.length) : besRows [A, B] = zA A B := by
  apply sw_ext
  · rw [besRows_len, zA_len h]; rfl
  · intro i hi
    rw [besRows_len] at hi
    rw [besRows_at hi, sw_zA h]
    simp [rowB]
theorem besRows3 {A B C : List (List St)} (h : A.length = B.length) (h' : A.length = C.length) : besRows [A, B, C] = zA (zA A B) C := by
  have h2 : (zA A B).length = C.length := by rw [zA_len h, h']
  apply sw_ext
  · rw [besRows_len, zA_len h2, zA_len h]; rfl
  · intro i hi
    rw [besRows_len] at hi
    rw [besRows_at hi, sw_zA h2, sw_zA h]
    simp [rowB]
theorem zA_assoc {A B C : List (List St)} (h : A.length = B.length) (h' : A.length = C.length) : zA (zA A B) C = zA A (zA B C) := by
  have h2 : (zA A B).length = C.length := by rw [zA_len h, h']
  have h3 : B.length = C.length := by omega
  have h4 : A.length = (zA B C).length := by rw [zA_len h3, h]
  apply sw_ext
  · rw [zA_len h2, zA_len h, zA_len h4]
  · intro i _
    rw [sw_zA h2, sw_zA h, sw_zA h4, sw_zA h3, List.append_assoc]
theorem zA_app {A B A' B' : List (List St)} (h : A.length = B.length) : zA (A ++ A') (B ++ B') = zA A B ++ zA A' B' := by
  unfold zA; exact List.zipWith_append h
theorem lrg_if (C : List (List St)) : (if lrg C = 1 then (3 : Int) else 0) = if big C = true then 3 else 0 := by
  unfold lrg; cases big C <;> simp
theorem besE2 {A B : List (List St)} (h : A.length = B.length) : besE [A, B] = if big (zA A B) = true then 3 else 0 := by
  rw [besE_ref (by simp) (fun k hk => by
    have hk' : k < 2 := hk
    rcases (show k = 0 ∨ k = 1 by omega) with rfl | rfl
    · rfl
    · exact h.symm), besRows2 h, ← lrg_if]
  simp
theorem besE3 {A B C : List (List St)} (h : A.length = B.length) (h' : A.length = C.length) : besE [A, B, C] = if big (zA (zA A B) C) = true then 3 else 0 := by
  rw [besE_ref (by simp) (fun k hk => by
    have hk' : k < 3 := hk
    rcases (show k = 0 ∨ k = 1 ∨ k = 2 by omega) with rfl | rfl | rfl
    · rfl
    · exact h.symm
    · exact h'.symm), besRows3 h h', ← lrg_if]
  simp
theorem besR2 {A B : List (List St)} (h : A.length = B.length) (h0 : besE [A, B] = 0) : besR [A, B] = zA A B := by unfold besR; rw [if_pos h0, besRows2 h]
/-- Three blocks: the order does not matter. -/
theorem bes_assoc {A B C : List (List St)} (h : A.length = B.length) (h' : A.length = C.length) (e1 : besE [A, B] = 0) (e2 : besE [B, C] = 0) :
    besE [besR [A, B], C] = besE [A, B, C] ∧ besR [besR [A, B], C] = besR [A, B, C] ∧ besE [A, besR [B, C]] = besE [A, B, C] ∧ besR [A, besR [B, C]] = besR [A, B, C] := by
  have h2 : (zA A B).length = C.length := by rw [zA_len h, h']
  have h3 : B.length = C.length := by omega
  have h4 : A.length = (zA B C).length := by rw [zA_len h3, h]
  rw [besR2 h e1, besR2 h3 e2]
  have g1 : besE [zA A B, C] = besE [A, B, C] := by rw [besE2 h2, besE3 h h']
  have g2 : besE [A, zA B C] = besE [A, B, C] := by rw [besE2 h4, besE3 h h', zA_assoc h h']
  refine ⟨g1, ?_, g2, ?_⟩
  · unfold besR; rw [g1, besRows2 h2, besRows3 h h']
  · unfold besR; rw [g2, besRows2 h4, besRows3 h h', zA_assoc h h']
theorem big_app {X Y : List (List St)} (h : (X ++ Y).length ≤ 31) : big (X ++ Y) = (big X || big Y) := by
  have h' := h
  rw [List.length_append] at h'
  unfold big
  rw [List.any_append, decide_eq_false (by omega), decide_eq_false (by omega), decide_eq_false (by omega)]
  simp
theorem abo2 {A B : List (List St)} (h : (A ++ B).length ≤ 31) (hA : big A = false) (hB : big B = false) : aboE [A, B] = 0 ∧ aboR [A, B] = A ++ B := by
  have h1 : aboE [A, B] = 0 := by
    unfold aboE
    have hs : smallB [A, B] = true := by unfold smallB; simp [hA, hB]
    rw [if_neg (by rw [hs]; simp), if_neg]
    simpa using h
  refine ⟨h1, ?_⟩
  unfold aboR
  rw [if_pos h1]; simp
/-- Beside and Above can be exchanged. -/
theorem bes_abo {A B A' B' : List (List St)} (h : A.length = B.length) (h' : A'.length = B'.length) (hs : A.length + A'.length ≤ 31) :
    besE [A ++ A', B ++ B'] = (if besE [A, B] ≠ 0 ∨ besE [A', B'] ≠ 0 then 3 else 0) ∧
    (besE [A, B] = 0 → besE [A', B'] = 0 → aboE [besR [A, B], besR [A', B']] = 0 ∧ aboR [besR [A, B], besR [A', B']] = besR [A ++ A', B ++ B']) := by
  have h2 : (A ++ A').length = (B ++ B').length := by simp [h, h']
  have hl : (zA A B ++ zA A' B').length ≤ 31 := by rw [List.length_append, zA_len h, zA_len h']; omega
  have e : besE [A ++ A', B ++ B'] = (if besE [A, B] ≠ 0 ∨ besE [A', B'] ≠ 0 then 3 else 0) := by
    rw [besE2 h2, besE2 h, besE2 h', zA_app h, big_app hl]
    cases big (zA A B) <;> cases big (zA A' B') <;> simp
  refine ⟨e, fun e1 e2 => ?_⟩
  have b1 : big (zA A B) = false := by
    rw [besE2 h] at e1
    cases hb : big (zA A B)
    · rfl
    · rw [hb] at e1; simp at e1
  have b2 : big (zA A' B') = false := by
    rw [besE2 h'] at e2
    cases hb : big (zA A' B')
    · rfl
    · rw [hb] at e2; simp at e2
  rw [besR2 h e1, besR2 h' e2]
  obtain ⟨a1, a2⟩ := abo2 hl b1 b2
  refine ⟨a1, ?_⟩
  rw [a2, besR2 h2 (by rw [e, if_neg (by simp [e1, e2])]), zA_app h]
theorem bes2_vals {A B : List (List St)} (h : A.length = B.length) : besE [A, B] = 0 ∨ besE [A, B] = 3 := by
  rw [besE2 h]; split <;> simp
theorem bes3_vals {A B C : List (List St)} (h : A.length = B.length) (h' : A.length = C.length) : besE [A, B, C] = 0 ∨ besE [A, B, C] = 3 := by
  rw [besE3 h h']; split <;> simp
end Go.Proofs.Ytlmkcojimhbmiaa
