/- Contracts of permutations: Join, Meet. -/
import Derived.Test.YtpcbadagffeehaaPh
namespace Go.Proofs.Ytpcbadagffeehaa
set_option linter.unusedVariables false
set_option linter.unusedSimpArgs false
open Go Go.RowKit

theorem Join_calls (v1 v2 : Value) (c1 c2 : Nat) (xs ys : List Int) (w : World) (h : IS .u8 w v1 c1 xs) (h' : IS .u8 w v2 c2 ys) (hb : U8L xs) (hb' : U8L ys) :
    Calls Try.prog 25 #[v1, v2] w (RetIE .u8 w (if bothE xs ys = 0 then xs.length else 0) (if bothE xs ys = 0 then joinL xs ys else []) (bothE xs ys)) := by
  have hP := both_calls _ _ _ _ _ _ _ h h' hb hb'
  obtain ⟨L, hL⟩ : ∃ L, L = joinL xs ys := ⟨_, rfl⟩
  obtain ⟨cc, hcc⟩ : ∃ L, L = xs.length := ⟨_, rfl⟩
  have hF : bothE xs ys = 0 → ∀ w1, Ext w w1 → Calls Try.prog 41 #[v1, v2] w1 (RetI .u8 w1 cc L) := fun h0 w1 hx => by
    rw [hL, hcc]
    have hz := bothE_zero h0
    exact join_calls 5 (by omega) v1 v2 c1 c2 xs ys w1 (h.ext hx) (h'.ext hx) (pcheck_zero hz.1).2.1 hz.2.2.symm
  rw [← hL]
  obtain ⟨e1, he1⟩ : ∃ e, e = bothE xs ys := ⟨_, rfl⟩
  obtain ⟨_, _, ao, rfl, _⟩ := h.open
  obtain ⟨_, _, bo, rfl, _⟩ := h'.open
  obtain ⟨n2, hn2⟩ : ∃ e, e = ys.length := ⟨_, rfl⟩
  rw [← he1] at hP hF ⊢
  rw [← hn2] at hP hF ⊢
  rw [← hcc] at hP hF ⊢
  have HP := Lib.hid hP; have HF := Lib.hid hF
  clear hP hF he1 hn2 h hb h' hb' hL hcc
  by_cases h1 : e1 = 0
  · subst h1
    rw [if_pos rfl, if_pos rfl]
    go_enter Try.func25, Try.ntmps25
    go_wp2_with fail
    refine HP.out.mono ?_
    rintro e w1 ⟨rfl, hx⟩
    have HR := Lib.hid (HF.out (by simp) w1 hx)
    go_wp2_with fail
    refine HR.out.mono ?_
    rintro e w2 hret
    obtain ⟨v2, rfl, r1, r2, r3⟩ := hret
    obtain ⟨a2, n2, c2, rfl, rfl, rfl, r1⟩ := r1.out
    go_wp2
    go_ret2
    exact ⟨_, rfl, r1, hx.trans r2⟩
  · have hne : (e1 != 0) = true := by simpa using h1
    rw [if_neg h1, if_neg h1]
    clear h1
    go_enter Try.func25, Try.ntmps25
    go_wp2_with fail
    refine HP.out.mono ?_
    rintro e w1 ⟨rfl, hx⟩
    go_wp2
    go_ret2
    exact ⟨_, rfl, IS.nil _ _, hx⟩


theorem Meet_calls (v1 v2 : Value) (c1 c2 : Nat) (xs ys : List Int) (w : World) (h : IS .u8 w v1 c1 xs) (h' : IS .u8 w v2 c2 ys) (hb : U8L xs) (hb' : U8L ys) :
    Calls Try.prog 19 #[v1, v2] w (RetIE .u8 w (if bothE xs ys = 0 then xs.length else 0) (if bothE xs ys = 0 then meetL xs ys else []) (bothE xs ys)) := by
  have hP := both_calls _ _ _ _ _ _ _ h h' hb hb'
  obtain ⟨L, hL⟩ : ∃ L, L = meetL xs ys := ⟨_, rfl⟩
  obtain ⟨T1, hT1⟩ : ∃ L, L = turnL xs := ⟨_, rfl⟩
  obtain ⟨T2, hT2⟩ : ∃ L, L = turnL ys := ⟨_, rfl⟩
  obtain ⟨J, hJ⟩ : ∃ L, L = joinL T1 T2 := ⟨_, rfl⟩
  obtain ⟨cc, hcc⟩ : ∃ L, L = xs.length := ⟨_, rfl⟩
  have hF1 : bothE xs ys = 0 → ∀ w1, Ext w w1 → Calls Try.prog 40 #[v1] w1 (RetI .u8 w1 cc T1) := fun h0 w1 hx => by
    rw [hT1, hcc]
    have hz := bothE_zero h0
    exact turned_calls v1 c1 xs w1 (h.ext hx) (pcheck_zero hz.1).2.1 (pok_inR (pcheck_zero hz.1).2.2)
  have hF2 : bothE xs ys = 0 → ∀ w1, Ext w w1 → Calls Try.prog 40 #[v2] w1 (RetI .u8 w1 cc T2) := fun h0 w1 hx => by
    have hz := bothE_zero h0
    rw [hT2, hcc, hz.2.2]
    exact turned_calls v2 c2 ys w1 (h'.ext hx) (pcheck_zero hz.2.1).2.1 (pok_inR (pcheck_zero hz.2.1).2.2)
  have hF3 : bothE xs ys = 0 → ∀ w1 u1 u2, IS .u8 w1 u1 cc T1 → IS .u8 w1 u2 cc T2 → Calls Try.prog 41 #[u1, u2] w1 (RetI .u8 w1 cc J) := fun h0 w1 u1 u2 k1 k2 => by
    have hz := bothE_zero h0
    have := join_calls 5 (by omega) u1 u2 cc cc T1 T2 w1 k1 k2 (by rw [hT1, turnL_len]; exact (pcheck_zero hz.1).2.1) (by rw [hT1, hT2, turnL_len, turnL_len]; exact hz.2.2.symm)
    rw [← hJ] at this
    have hl : T1.length = cc := by rw [hT1, turnL_len, hcc]
    rw [hl] at this
    exact this
  have hF4 : bothE xs ys = 0 → ∀ w1 u1, IS .u8 w1 u1 cc J → Calls Try.prog 40 #[u1] w1 (RetI .u8 w1 cc L) := fun h0 w1 u1 k1 => by
    have hz := bothE_zero h0
    have hl : J.length = cc := by rw [hJ, joinL_len, hT1, turnL_len, hcc]
    have := turned_calls u1 cc J w1 k1 (by rw [hl, hcc]; exact (pcheck_zero hz.1).2.1) (by rw [hJ]; exact pok_inR (joinL_pok _ _))
    have e : L = updL (fun k => k) (fun k => (J.length : Int) + 1 - gi J k) J.length := by rw [hL, hJ, hT1, hT2]; rfl
    rw [← e, hl] at this
    exact this
  rw [← hL]
  obtain ⟨e1, he1⟩ : ∃ e, e = bothE xs ys := ⟨_, rfl⟩
  obtain ⟨_, _, ao, rfl, _⟩ := h.open
  obtain ⟨_, _, bo, rfl, _⟩ := h'.open
  obtain ⟨n2, hn2⟩ : ∃ e, e = ys.length := ⟨_, rfl⟩
  rw [← he1] at hP hF1 hF2 hF3 hF4 ⊢
  rw [← hn2] at hP hF2 ⊢
  rw [← hcc] at hP hF1 ⊢
  have HP := Lib.hid hP; have HF1 := Lib.hid hF1; have HF2 := Lib.hid hF2; have HF3 := Lib.hid hF3; have HF4 := Lib.hid hF4
  clear hP hF1 hF2 hF3 hF4 he1 hn2 h hb h' hb' hL hcc hJ hT1 hT2
  by_cases h1 : e1 = 0
  · subst h1
    rw [if_pos rfl, if_pos rfl]
    go_enter Try.func19, Try.ntmps19
    go_wp2_with fail
    refine HP.out.mono ?_
    rintro e w1 ⟨rfl, hx⟩
    have HR := Lib.hid (HF1.out (by simp) w1 hx)
    go_wp2_with fail
    refine HR.out.mono ?_
    rintro e w2 hret
    obtain ⟨v2, rfl, r1, r2, r3⟩ := hret
    obtain ⟨a2, n2', c2', rfl, rfl, rfl, r1⟩ := r1.out
    have HX2 := Lib.hid (hx.trans r2)
    have HR2 := Lib.hid (HF2.out (by simp) w2 (hx.trans r2))
    clear hx r2
    go_wp2_with fail
    refine HR2.out.mono ?_
    rintro e w3 hret
    obtain ⟨v3, rfl, s1, s2, s3⟩ := hret
    obtain ⟨a3, n3, c3, rfl, rfl, rfl, s1⟩ := s1.out
    have HX3 := Lib.hid (HX2.out.trans s2)
    have HR3 := Lib.hid (HF3.out (by simp) w3 _ _ (r1.ext s2) s1)
    clear s2
    go_wp2_with fail
    refine HR3.out.mono ?_
    rintro e w4 hret
    obtain ⟨v4, rfl, t1, t2, t3⟩ := hret
    obtain ⟨a4, n4, c4, rfl, rfl, rfl, t1⟩ := t1.out
    have HX4 := Lib.hid (HX3.out.trans t2)
    have HR4 := Lib.hid (HF4.out (by simp) w4 _ t1)
    clear t2
    go_wp2_with fail
    refine HR4.out.mono ?_
    rintro e w5 hret
    obtain ⟨v5, rfl, u1, u2, u3⟩ := hret
    obtain ⟨a5, n5, c5, rfl, rfl, rfl, u1⟩ := u1.out
    go_wp2
    go_ret2
    exact ⟨_, rfl, u1, HX4.out.trans u2⟩
  · have hne : (e1 != 0) = true := by simpa using h1
    rw [if_neg h1, if_neg h1]
    clear h1
    go_enter Try.func19, Try.ntmps19
    go_wp2_with fail
    refine HP.out.mono ?_
    rintro e w1 ⟨rfl, hx⟩
    go_wp2
    go_ret2
    exact ⟨_, rfl, IS.nil _ _, hx⟩
end Go.Proofs.Ytpcbadagffeehaa
