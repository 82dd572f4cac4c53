/- Contracts of permutations: Rest, Identity, Half, Flip. -/
import Derived.Test.YtpcbadagffeehaaPj
namespace Go.Proofs.Ytpcbadagffeehaa
set_option linter.unusedVariables false
set_option linter.unusedSimpArgs false
open Go Go.RowKit

def restE (xs ys : List Int) : Int := if bothE xs ys ≠ 0 then bothE xs ys else if belowB xs ys = true then 0 else 7
def restL (xs ys : List Int) : List Int := timesL (invL xs) ys
theorem invL_inR {xs : List Int} : inR (invL xs) (invL xs).length → inR (invL xs) xs.length := by rw [invL_len]; exact id

theorem Rest_calls (v1 v2 : Value) (c1 c2 : Nat) (xs ys : List Int) (w : World) (h : IS .u8 w v1 c1 xs) (h' : IS .u8 w v2 c2 ys) (hb : U8L xs) (hb' : U8L ys) (hinv : bothE xs ys = 0 → inR (invL xs) xs.length) :
    Calls Try.prog 21 #[v1, v2] w (RetIE .u8 w (if restE xs ys = 0 then xs.length else 0) (if restE xs ys = 0 then restL xs ys else []) (restE xs ys)) := by
  have hP := both_calls _ _ _ _ _ _ _ h h' hb hb'
  unfold restE
  obtain ⟨L, hL⟩ : ∃ L, L = restL xs ys := ⟨_, rfl⟩
  obtain ⟨Q, hQ⟩ : ∃ Q, Q = invL xs := ⟨_, rfl⟩
  obtain ⟨b, hbb⟩ : ∃ b, b = belowB xs ys := ⟨_, rfl⟩
  obtain ⟨cc, hcc⟩ : ∃ L, L = xs.length := ⟨_, rfl⟩
  have hF : bothE xs ys = 0 → ∀ w1, Ext w w1 → Calls Try.prog 42 #[v1, v2] w1 fun e w' => e = .returned (.bool b) ∧ Ext w1 w' := fun h0 w1 hx => by
    rw [hbb]
    have hz := bothE_zero h0
    exact below_calls 5 (by omega) v1 v2 c1 c2 xs ys w1 (h.ext hx) (h'.ext hx) (pcheck_zero hz.1).2.1 hz.2.2.symm
  have hG : bothE xs ys = 0 → ∀ w1, Ext w w1 → Calls Try.prog 38 #[v1] w1 (RetI .u8 w1 cc Q) := fun h0 w1 hx => by
    rw [hQ, hcc]
    have hz := bothE_zero h0
    exact inverse_calls v1 c1 xs w1 (h.ext hx) (pcheck_zero hz.1).2.1 (pok_inR (pcheck_zero hz.1).2.2)
  have hH : bothE xs ys = 0 → ∀ w1 v3 c3, IS .u8 w1 v3 c3 Q → Ext w w1 → Calls Try.prog 43 #[v3, v2] w1 (RetI .u8 w1 cc L) := fun h0 w1 v3 c3 h3 hx => by
    rw [hL, hcc]
    have hz := bothE_zero h0
    have := times_calls v3 c3 Q w1 h3 (by rw [hQ, invL_len]; exact (pcheck_zero hz.1).2.1) (by rw [hQ]; rw [invL_len]; exact hinv h0) v2 c2 ys (h'.ext hx) (by rw [hQ, invL_len]; exact hz.2.2.symm) hb'
    rw [hQ, invL_len] at this
    have e : restL xs ys = updL (fun k => k) (fun k => gi ys (gi (invL xs) k - 1).toNat) xs.length := by unfold restL timesL; rw [invL_len]
    rw [e]
    exact this
  have hQl : Q.length = cc := by rw [hQ, hcc, invL_len]
  rw [← hL, ← hbb]
  obtain ⟨e1, he1⟩ : ∃ e, e = bothE xs ys := ⟨_, rfl⟩
  obtain ⟨_, _, ao, rfl, _⟩ := h.open
  obtain ⟨_, _, bo, rfl, _⟩ := h'.open
  obtain ⟨n2, hn2⟩ : ∃ e, e = ys.length := ⟨_, rfl⟩
  rw [← he1] at hP hF hG hH ⊢
  rw [← hn2] at hP hF hH ⊢
  rw [← hcc] at hP hF hG ⊢
  have HP := Lib.hid hP; have HF := Lib.hid hF; have HG := Lib.hid hG; have HH := Lib.hid hH; have HQl := Lib.hid hQl
  clear hP hF hG hH he1 hn2 h hb h' hb' hL hcc hQ hbb hinv hQl
  by_cases h1 : e1 = 0
  · subst h1
    cases b with
    | true =>
      simp only [ne_eq, not_true_eq_false, if_false, if_true]
      go_enter Try.func21, Try.ntmps21
      go_wp2_with fail
      refine HP.out.mono ?_
      rintro e w1 ⟨rfl, hx⟩
      have HR := Lib.hid (HF.out (by simp) w1 hx)
      go_wp2_with fail
      refine HR.out.mono ?_
      rintro e w2 ⟨rfl, hx2⟩
      have HS := Lib.hid (HG.out (by simp) w2 (hx.trans hx2))
      go_wp2_with fail
      refine HS.out.mono ?_
      rintro e w3 hret
      obtain ⟨v3, rfl, r1, r2, r3⟩ := hret
      have HT := Lib.hid (HH.out (by simp) w3 v3 _ r1 ((hx.trans hx2).trans r2))
      obtain ⟨a2, n2', c2', rfl, rfl, rfl, r1⟩ := r1.out
      go_wp2_with fail
      refine HT.out.mono ?_
      rintro e w4 hret
      obtain ⟨v4, rfl, t1, t2, t3⟩ := hret
      obtain ⟨a4, n4, c4, rfl, rfl, rfl, t1⟩ := t1.out
      go_wp2
      go_ret2
      exact ⟨_, rfl, t1, ((hx.trans hx2).trans r2).trans t2⟩
    | false =>
      simp only [ne_eq, not_true_eq_false, if_false, Bool.false_eq_true]
      go_enter Try.func21, Try.ntmps21
      go_wp2_with fail
      refine HP.out.mono ?_
      rintro e w1 ⟨rfl, hx⟩
      have HR := Lib.hid (HF.out (by simp) w1 hx)
      go_wp2_with fail
      refine HR.out.mono ?_
      rintro e w2 ⟨rfl, hx2⟩
      go_wp2
      go_ret2
      exact ⟨_, rfl, IS.nil _ _, hx.trans hx2⟩
  · have hne : (e1 != 0) = true := by simpa using h1
    simp only [ne_eq, h1, not_false_eq_true, if_true, if_false]
    clear h1
    go_enter Try.func21, Try.ntmps21
    go_wp2_with fail
    refine HP.out.mono ?_
    rintro e w1 ⟨rfl, hx⟩
    go_wp2
    go_ret2
    exact ⟨_, rfl, IS.nil _ _, hx⟩
end Go.Proofs.Ytpcbadagffeehaa
