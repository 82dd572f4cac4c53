/- Contracts of permutations: Inverse, Times, Starts, Ends, Below, Rest. -/
import Derived.Test.YtpcbadagffeehaaPi
namespace Go.Proofs.Ytpcbadagffeehaa
set_option linter.unusedVariables false
set_option linter.unusedSimpArgs false
open Go Go.RowKit

def turnL (xs : List Int) : List Int := updL (fun k => k) (fun k => (xs.length : Int) + 1 - gi xs k) xs.length
def invL (xs : List Int) : List Int := updL (fun k => (gi xs k - 1).toNat) (fun k => (k : Int) + 1) xs.length
def timesL (xs ys : List Int) : List Int := updL (fun k => k) (fun k => gi ys (gi xs k - 1).toNat) xs.length
theorem turnL_len (xs : List Int) : (turnL xs).length = xs.length := updL_len _ _ _
theorem invL_len (xs : List Int) : (invL xs).length = xs.length := updL_len _ _ _
theorem timesL_len (xs ys : List Int) : (timesL xs ys).length = xs.length := updL_len _ _ _
theorem pok_inR {xs : List Int} (h : pok xs) : inR xs xs.length := fun i hi => h.1 _ (gi_mem hi)
theorem pok_u8 {xs : List Int} (h : pok xs) (h8 : xs.length ≤ 8) : U8L xs := fun i hi => by have := pok_inR h i hi; omega
theorem upd_id (new : Nat → Int) : ∀ (n j : Nat), j < n → upd (fun k => k) new n j = new j
  | 0, j, h => absurd h (Nat.not_lt_zero _)
  | n + 1, j, h => by
    unfold upd
    by_cases e : j = n
    · subst e; rw [if_pos rfl]
    · rw [if_neg e]; exact upd_id new n j (by omega)
theorem timesL_gi {xs ys : List Int} {i : Nat} (h : i < xs.length) : gi (timesL xs ys) i = gi ys (gi xs i - 1).toNat := by
  unfold timesL; rw [updL_gi h, upd_id _ _ _ h]
theorem turnL_gi {xs : List Int} {i : Nat} (h : i < xs.length) : gi (turnL xs) i = (xs.length : Int) + 1 - gi xs i := by
  unfold turnL; rw [updL_gi h, upd_id _ _ _ h]
theorem bothE_zero {xs ys : List Int} (h : bothE xs ys = 0) : pcheck xs = 0 ∧ pcheck ys = 0 ∧ xs.length = ys.length := by
  unfold bothE at h
  split at h
  · rename_i a; exact absurd h a
  · rename_i a
    split at h
    · rename_i b; exact absurd h b
    · rename_i b
      split at h
      · omega
      · rename_i c
        exact ⟨by simpa using a, by simpa using b, by simpa using c⟩

theorem Inverse_calls (v : Value) (c : Nat) (xs : List Int) (w : World) (h : IS .u8 w v c xs) (hb : U8L xs) :
    Calls Try.prog 27 #[v] w (RetIE .u8 w (if pcheck xs = 0 then xs.length else 0) (if pcheck xs = 0 then invL xs else []) (pcheck xs)) := by
  have hP := Pcheck_calls _ _ _ _ h hb
  obtain ⟨L, hL⟩ : ∃ L, L = invL xs := ⟨_, rfl⟩
  obtain ⟨cc, hcc⟩ : ∃ L, L = xs.length := ⟨_, rfl⟩
  have hF : pcheck xs = 0 → ∀ w1, Ext w w1 → Calls Try.prog 38 #[v] w1 (RetI .u8 w1 cc L) := fun h0 w1 hx => by rw [hL, hcc]; exact inverse_calls v c xs w1 (h.ext hx) (pcheck_zero h0).2.1 (pok_inR (pcheck_zero h0).2.2)
  rw [← hcc, ← hL]
  obtain ⟨_, _, ao, rfl, _⟩ := h.open
  obtain ⟨e1, he1⟩ : ∃ e, e = pcheck xs := ⟨_, rfl⟩
  obtain ⟨n1, hn1⟩ : ∃ e, e = xs.length := ⟨_, rfl⟩
  rw [← he1] at hP hF ⊢
  rw [← hn1] at hP hF ⊢
  have HP := Lib.hid hP; have HF := Lib.hid hF
  clear hP hF he1 hn1 h hb hL hcc
  by_cases h1 : e1 = 0
  · subst h1
    rw [if_pos rfl, if_pos rfl]
    go_enter Try.func27, Try.ntmps27
    go_wp2_with fail
    refine HP.out.mono ?_
    rintro e w1 ⟨rfl, hx⟩
    have HR := Lib.hid (HF.out (by simp) w1 hx)
    go_wp2_with fail
    refine HR.out.mono ?_
    rintro e w2 hret
    obtain ⟨v2, rfl, r1, r2, r3⟩ := hret
    obtain ⟨a2, n2, c2, rfl, rfl, rfl, r1⟩ := r1.out
    go_wp2
    go_ret2
    exact ⟨_, rfl, r1, hx.trans r2⟩
  · have hne : (e1 != 0) = true := by simpa using h1
    rw [if_neg h1, if_neg h1]
    clear h1
    go_enter Try.func27, Try.ntmps27
    go_wp2_with fail
    refine HP.out.mono ?_
    rintro e w1 ⟨rfl, hx⟩
    go_wp2
    go_ret2
    exact ⟨_, rfl, IS.nil _ _, hx⟩

theorem Starts_calls (v : Value) (c : Nat) (xs : List Int) (w : World) (h : IS .u8 w v c xs) (hb : U8L xs) :
    Calls Try.prog 13 #[v] w (RetIE .i64 w (if pcheck xs = 0 then (fallsL xs).length else 0) (if pcheck xs = 0 then fallsL xs else []) (pcheck xs)) := by
  have hP := Pcheck_calls _ _ _ _ h hb
  obtain ⟨L, hL⟩ : ∃ L, L = fallsL xs := ⟨_, rfl⟩
  obtain ⟨cc, hcc⟩ : ∃ L, L = (fallsL xs).length := ⟨_, rfl⟩
  have hF : pcheck xs = 0 → ∀ w1, Ext w w1 → Calls Try.prog 37 #[v] w1 (RetI .i64 w1 cc L) := fun h0 w1 hx => by rw [hL, hcc]; exact falls_calls v c xs w1 (h.ext hx) (pcheck_zero h0).2.1
  rw [← hcc, ← hL]
  obtain ⟨_, _, ao, rfl, _⟩ := h.open
  obtain ⟨e1, he1⟩ : ∃ e, e = pcheck xs := ⟨_, rfl⟩
  obtain ⟨n1, hn1⟩ : ∃ e, e = xs.length := ⟨_, rfl⟩
  rw [← he1] at hP hF ⊢
  rw [← hn1] at hP hF ⊢
  have HP := Lib.hid hP; have HF := Lib.hid hF
  clear hP hF he1 hn1 h hb hL hcc
  by_cases h1 : e1 = 0
  · subst h1
    rw [if_pos rfl, if_pos rfl]
    go_enter Try.func13, Try.ntmps13
    go_wp2_with fail
    refine HP.out.mono ?_
    rintro e w1 ⟨rfl, hx⟩
    have HR := Lib.hid (HF.out (by simp) w1 hx)
    go_wp2_with fail
    refine HR.out.mono ?_
    rintro e w2 hret
    obtain ⟨v2, rfl, r1, r2, r3⟩ := hret
    obtain ⟨a2, n2, c2, rfl, rfl, rfl, r1⟩ := r1.out
    go_wp2
    go_ret2
    exact ⟨_, rfl, r1, hx.trans r2⟩
  · have hne : (e1 != 0) = true := by simpa using h1
    rw [if_neg h1, if_neg h1]
    clear h1
    go_enter Try.func13, Try.ntmps13
    go_wp2_with fail
    refine HP.out.mono ?_
    rintro e w1 ⟨rfl, hx⟩
    go_wp2
    go_ret2
    exact ⟨_, rfl, IS.nil _ _, hx⟩

theorem IS.nn2 {k : IntKind} {w : World} {xs : List Int} {c : Nat} {v : Value} (h : IS k w v c xs) : ∃ a, v = .slice a xs.length c := by
  obtain ⟨a, n, c', rfl, rfl, rfl, _⟩ := h.out
  exact ⟨a, rfl⟩

/-- Ends. -/
theorem Ends_calls (v : Value) (c : Nat) (xs : List Int) (w : World) (h : IS .u8 w v c xs) (hb : U8L xs) :
    Calls Try.prog 14 #[v] w (RetIE .i64 w (if pcheck xs = 0 then (fallsL (invL xs)).length else 0) (if pcheck xs = 0 then fallsL (invL xs) else []) (pcheck xs)) := by
  have hP := Pcheck_calls _ _ _ _ h hb
  obtain ⟨Q, hQ⟩ : ∃ Q, Q = invL xs := ⟨_, rfl⟩
  obtain ⟨L, hL⟩ : ∃ L, L = fallsL Q := ⟨_, rfl⟩
  have hF : pcheck xs = 0 → ∀ w1, Ext w w1 → Calls Try.prog 38 #[v] w1 (RetI .u8 w1 Q.length Q) := fun h0 w1 hx => by
    rw [hQ, invL_len]; exact inverse_calls v c xs w1 (h.ext hx) (pcheck_zero h0).2.1 (pok_inR (pcheck_zero h0).2.2)
  have hG : pcheck xs = 0 → ∀ w2 v2 c2, IS .u8 w2 v2 c2 Q → Calls Try.prog 37 #[v2] w2 (RetI .i64 w2 L.length L) := fun h0 w2 v2 c2 h2 => by
    rw [hL]; exact falls_calls v2 c2 Q w2 h2 (by rw [hQ, invL_len]; exact (pcheck_zero h0).2.1)
  rw [← hQ, ← hL]
  obtain ⟨_, _, ao, rfl, _⟩ := h.open
  obtain ⟨e1, he1⟩ : ∃ e, e = pcheck xs := ⟨_, rfl⟩
  obtain ⟨n1, hn1⟩ : ∃ e, e = xs.length := ⟨_, rfl⟩
  rw [← he1] at hP hF hG ⊢
  rw [← hn1] at hP hF ⊢
  have HP := Lib.hid hP; have HF := Lib.hid hF; have HG := Lib.hid hG
  clear hP hF hG he1 hn1 h hb hL hQ
  by_cases h1 : e1 = 0
  · subst h1
    rw [if_pos rfl, if_pos rfl]
    go_enter Try.func14, Try.ntmps14
    go_wp2_with fail
    refine HP.out.mono ?_
    rintro e w1 ⟨rfl, hx⟩
    have HR := Lib.hid (HF.out (by simp) w1 hx)
    go_wp2_with fail
    refine HR.out.mono ?_
    rintro e w2 hret
    obtain ⟨v2, rfl, r1, r2, r3⟩ := hret
    have HS := Lib.hid (HG.out (by simp) w2 v2 _ r1)
    obtain ⟨a2, n2, c2, rfl, rfl, rfl, r1⟩ := r1.out
    go_wp2_with fail
    refine HS.out.mono ?_
    rintro e w3 hret
    obtain ⟨v3, rfl, t1, t2, t3⟩ := hret
    obtain ⟨a3, n3, c3, rfl, rfl, rfl, t1⟩ := t1.out
    go_wp2
    go_ret2
    exact ⟨_, rfl, t1, (hx.trans r2).trans t2⟩
  · have hne : (e1 != 0) = true := by simpa using h1
    rw [if_neg h1, if_neg h1]
    clear h1
    go_enter Try.func14, Try.ntmps14
    go_wp2_with fail
    refine HP.out.mono ?_
    rintro e w1 ⟨rfl, hx⟩
    go_wp2
    go_ret2
    exact ⟨_, rfl, IS.nil _ _, hx⟩

/-- Times. -/
theorem Times_calls (v1 v2 : Value) (c1 c2 : Nat) (xs ys : List Int) (w : World) (h : IS .u8 w v1 c1 xs) (h' : IS .u8 w v2 c2 ys) (hb : U8L xs) (hb' : U8L ys) :
    Calls Try.prog 23 #[v1, v2] w (RetIE .u8 w (if bothE xs ys = 0 then xs.length else 0) (if bothE xs ys = 0 then timesL xs ys else []) (bothE xs ys)) := by
  have hP := both_calls _ _ _ _ _ _ _ h h' hb hb'
  obtain ⟨L, hL⟩ : ∃ L, L = timesL xs ys := ⟨_, rfl⟩
  obtain ⟨cc, hcc⟩ : ∃ L, L = xs.length := ⟨_, rfl⟩
  have hF : bothE xs ys = 0 → ∀ w1, Ext w w1 → Calls Try.prog 43 #[v1, v2] w1 (RetI .u8 w1 cc L) := fun h0 w1 hx => by
    rw [hL, hcc]
    have hz := bothE_zero h0
    exact times_calls v1 c1 xs w1 (h.ext hx) (pcheck_zero hz.1).2.1 (pok_inR (pcheck_zero hz.1).2.2) v2 c2 ys (h'.ext hx) hz.2.2.symm hb'
  rw [← hL]
  obtain ⟨e1, he1⟩ : ∃ e, e = bothE xs ys := ⟨_, rfl⟩
  obtain ⟨_, _, ao, rfl, _⟩ := h.open
  obtain ⟨_, _, bo, rfl, _⟩ := h'.open
  obtain ⟨n2, hn2⟩ : ∃ e, e = ys.length := ⟨_, rfl⟩
  rw [← he1] at hP hF ⊢
  rw [← hn2] at hP hF ⊢
  rw [← hcc] at hP hF ⊢
  have HP := Lib.hid hP; have HF := Lib.hid hF
  clear hP hF he1 hn2 h hb h' hb' hL hcc
  by_cases h1 : e1 = 0
  · subst h1
    rw [if_pos rfl, if_pos rfl]
    go_enter Try.func23, Try.ntmps23
    go_wp2_with fail
    refine HP.out.mono ?_
    rintro e w1 ⟨rfl, hx⟩
    have HR := Lib.hid (HF.out (by simp) w1 hx)
    go_wp2_with fail
    refine HR.out.mono ?_
    rintro e w2 hret
    obtain ⟨v2, rfl, r1, r2, r3⟩ := hret
    obtain ⟨a2, n2, c2, rfl, rfl, rfl, r1⟩ := r1.out
    go_wp2
    go_ret2
    exact ⟨_, rfl, r1, hx.trans r2⟩
  · have hne : (e1 != 0) = true := by simpa using h1
    rw [if_neg h1, if_neg h1]
    clear h1
    go_enter Try.func23, Try.ntmps23
    go_wp2_with fail
    refine HP.out.mono ?_
    rintro e w1 ⟨rfl, hx⟩
    go_wp2
    go_ret2
    exact ⟨_, rfl, IS.nil _ _, hx⟩

/-- Below. -/
theorem Below_calls (v1 v2 : Value) (c1 c2 : Nat) (xs ys : List Int) (w : World) (h : IS .u8 w v1 c1 xs) (h' : IS .u8 w v2 c2 ys) (hb : U8L xs) (hb' : U8L ys) :
    Calls Try.prog 20 #[v1, v2] w fun e w' => e = .returned (.tuple #[.bool (if bothE xs ys = 0 then belowB xs ys else false), .int .i64 (bothE xs ys)]) ∧ Ext w w' := by
  have hP := both_calls _ _ _ _ _ _ _ h h' hb hb'
  obtain ⟨L, hL⟩ : ∃ L, L = belowB xs ys := ⟨_, rfl⟩
  have hF : bothE xs ys = 0 → ∀ w1, Ext w w1 → Calls Try.prog 42 #[v1, v2] w1 fun e w' => e = .returned (.bool L) ∧ Ext w1 w' := fun h0 w1 hx => by
    rw [hL]
    have hz := bothE_zero h0
    exact below_calls 5 (by omega) v1 v2 c1 c2 xs ys w1 (h.ext hx) (h'.ext hx) (pcheck_zero hz.1).2.1 hz.2.2.symm
  rw [← hL]
  obtain ⟨e1, he1⟩ : ∃ e, e = bothE xs ys := ⟨_, rfl⟩
  obtain ⟨_, _, ao, rfl, _⟩ := h.open
  obtain ⟨_, _, bo, rfl, _⟩ := h'.open
  obtain ⟨n2, hn2⟩ : ∃ e, e = ys.length := ⟨_, rfl⟩
  obtain ⟨n1, hn1⟩ : ∃ e, e = xs.length := ⟨_, rfl⟩
  rw [← he1] at hP hF ⊢
  rw [← hn2, ← hn1] at hP hF ⊢
  have HP := Lib.hid hP; have HF := Lib.hid hF
  clear hP hF he1 hn2 hn1 h hb h' hb' hL
  by_cases h1 : e1 = 0
  · subst h1
    rw [if_pos rfl]
    go_enter Try.func20, Try.ntmps20
    go_wp2_with fail
    refine HP.out.mono ?_
    rintro e w1 ⟨rfl, hx⟩
    have HR := Lib.hid (HF.out (by simp) w1 hx)
    go_wp2_with fail
    refine HR.out.mono ?_
    rintro e w2 ⟨rfl, hx2⟩
    go_wp2
    go_ret2
    exact ⟨rfl, hx.trans hx2⟩
  · have hne : (e1 != 0) = true := by simpa using h1
    rw [if_neg h1]
    clear h1
    go_enter Try.func20, Try.ntmps20
    go_wp2_with fail
    refine HP.out.mono ?_
    rintro e w1 ⟨rfl, hx⟩
    go_wp2
    go_ret2
    exact ⟨rfl, hx⟩
end Go.Proofs.Ytpcbadagffeehaa
