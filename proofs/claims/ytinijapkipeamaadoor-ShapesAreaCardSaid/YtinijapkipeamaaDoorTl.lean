/- Charts of outlines in plain Lean: what their rows need and make; the reference's rows. -/
import Derived.Test.YtinijapkipeamaaDoorTk
import Derived.Test.YtinijapkipeamaaDoorSg
namespace Go.Proofs.YtinijapkipeamaaDoor
set_option linter.unusedVariables false
set_option linter.unusedSimpArgs false
set_option maxRecDepth 8000
open Go Go.RowKit

theorem rneed_app (a b : List St) : rneed (a ++ b) = rneed a + rneed b := by
  induction a with
  | nil => simp [rneed]
  | cons s a ih => rw [List.cons_append, rneed_cons, rneed_cons, ih]; omega
theorem rmake_app (a b : List St) : rmake (a ++ b) = rmake a + rmake b := by
  induction a with
  | nil => simp [rmake]
  | cons s a ih => rw [List.cons_append, rmake_cons, rmake_cons, ih]; omega
theorem rneed_rep (n : Nat) (s : St) : rneed (List.replicate n s) = n * s.need := by
  induction n with
  | zero => simp [rneed]
  | succ n ih => rw [List.replicate_succ, rneed_cons, ih, Int.natCast_succ, Int.add_mul]; omega
theorem rmake_rep (n : Nat) (s : St) : rmake (List.replicate n s) = n * s.make := by
  induction n with
  | zero => simp [rmake]
  | succ n ih => rw [List.replicate_succ, rmake_cons, ih, Int.natCast_succ, Int.add_mul]; omega

def sty (y : Int) (s : St) : St := { s with y := y }
/-- A stitch of a kind and a yarn. -/
def ksty (k y : Int) : St := ⟨k, y, 0, 0, false⟩
theorem sty_kst (k y : Int) : sty y (kst k) = ksty k y := rfl
/-- The row of a step of an outline; the yarn is not told. -/
def shR (n i : Nat) (m : Int) : List St := if m = 2 ∨ m = 1 then (widR n (endL i m) (endR i m)).flatten else if m = -2 ∨ m = -1 then (narR n (endL i m) (endR i m)).flatten else List.replicate n (kst 1)
/-- The same row with its yarn. -/
def shY (n i : Nat) (m y : Int) : List St := (shR n i m).map (sty y)
/-- The chart of an outline. -/
def chartOf (l : List Int) (y : Int) : List (List St) := (List.range (l.length - 1)).map fun i => shY (gi l i).toNat i (gi l (i + 1) - gi l i) y
theorem chartOf_len (l : List Int) (y : Int) : (chartOf l y).length = l.length - 1 := by simp [chartOf]
theorem chartOf_sw {l : List Int} {y : Int} {i : Nat} (h : i + 1 < l.length) : sw (chartOf l y) i = shY (gi l i).toNat i (gi l (i + 1) - gi l i) y := by
  rw [sw_of_lt (by rw [chartOf_len]; omega)]; simp [chartOf]
/-- A kind of the rows of outlines. -/
def kok (s : St) : Prop := s.k = 1 ∨ s.k = 3 ∨ s.k = 4
theorem ksty_need {y : Int} (h : 1 ≤ y ∧ y ≤ 6) : (ksty 1 y).need = 1 ∧ (ksty 3 y).need = 0 ∧ (ksty 4 y).need = 2 ∧ (ksty 1 y).make = 1 ∧ (ksty 3 y).make = 1 ∧ (ksty 4 y).make = 1 ∧ (ksty 1 y).chk = 0 ∧ (ksty 3 y).chk = 0 ∧ (ksty 4 y).chk = 0 := by
  have c : ∀ k, 1 ≤ k → k < 8 → (ksty k y).chk = 0 := fun k h1 h2 => by
    unfold St.chk ksty; simp only []; rw [if_neg (by omega), if_pos (by omega), if_neg (by simp)]
  have c1 := c 1 (by omega) (by omega); have c3 := c 3 (by omega) (by omega); have c4 := c 4 (by omega) (by omega)
  refine ⟨?_, ?_, ?_, ?_, ?_, ?_, c1, c3, c4⟩ <;> simp [St.need, St.make, c1, c3, c4] <;> simp [ksty]
/-- The parts of a step's row. -/
theorem shY_wid {n i : Nat} {m : Int} (y : Int) (h : m = 2 ∨ m = 1) : shY n i m y = [ksty 1 y] ++ List.replicate (cnt (endL i m)) (ksty 3 y) ++ List.replicate (n - 2) (ksty 1 y) ++ List.replicate (cnt (endR i m)) (ksty 3 y) ++ [ksty 1 y] := by
  unfold shY shR; rw [if_pos h]; simp [widR, sty_kst]
theorem shY_nar {n i : Nat} {m : Int} (y : Int) (h : m = -2 ∨ m = -1) : shY n i m y = List.replicate (cnt (endL i m)) (ksty 4 y) ++ List.replicate (n - 2 * cnt (endL i m) - 2 * cnt (endR i m)) (ksty 1 y) ++ List.replicate (cnt (endR i m)) (ksty 4 y) := by
  unfold shY shR; rw [if_neg (by omega), if_pos h]; simp [narR, sty_kst]
theorem shY_plain {n i : Nat} {m : Int} (y : Int) (h : m = 0) : shY n i m y = List.replicate n (ksty 1 y) := by
  unfold shY shR; rw [if_neg (by omega), if_neg (by omega)]; simp [sty_kst]
theorem end_sum {i : Nat} {m : Int} (h : -2 ≤ m ∧ m ≤ 2) : ((cnt (endL i m) + cnt (endR i m) : Nat) : Int) = if 0 ≤ m then m else -m := by
  unfold endL endR
  rcases (show m = 2 ∨ m = -2 ∨ m = 1 ∨ m = -1 ∨ m = 0 by omega) with rfl | rfl | rfl | rfl | rfl <;> simp [cnt] <;> cases odd i <;> simp
theorem shY_facts {n i : Nat} {m y : Int} (hy : 1 ≤ y ∧ y ≤ 6) (hm : -2 ≤ m ∧ m ≤ 2) (hn : 2 ≤ (n : Int) ∧ 2 ≤ (n : Int) + m) :
    ((shY n i m y).length : Int) = n + m ∧ rneed (shY n i m y) = n ∧ rmake (shY n i m y) = n + m ∧ (∀ s ∈ shY n i m y, s.chk = 0 ∧ kok s ∧ s.y = y) := by
  obtain ⟨n1, n3, n4, m1, m3, m4, c1, c3, c4⟩ := ksty_need hy
  have hs := end_sum (i := i) hm
  have k1 : (ksty 1 y).chk = 0 ∧ kok (ksty 1 y) ∧ (ksty 1 y).y = y := ⟨c1, .inl rfl, rfl⟩
  have k3 : (ksty 3 y).chk = 0 ∧ kok (ksty 3 y) ∧ (ksty 3 y).y = y := ⟨c3, .inr (.inl rfl), rfl⟩
  have k4 : (ksty 4 y).chk = 0 ∧ kok (ksty 4 y) ∧ (ksty 4 y).y = y := ⟨c4, .inr (.inr rfl), rfl⟩
  rcases (show (m = 2 ∨ m = 1) ∨ (m = -2 ∨ m = -1) ∨ m = 0 by omega) with h | h | h
  · rw [shY_wid y h]
    rw [if_pos (by omega)] at hs
    refine ⟨?_, ?_, ?_, ?_⟩
    · simp only [List.length_append, List.length_replicate, List.length_cons, List.length_nil]; omega
    · simp only [rneed_app, rneed_rep, n1, n3, show [ksty 1 y] = List.replicate 1 (ksty 1 y) from rfl]; omega
    · simp only [rmake_app, rmake_rep, m1, m3, show [ksty 1 y] = List.replicate 1 (ksty 1 y) from rfl]; omega
    · intro s hs
      simp only [List.mem_append, List.mem_cons, List.mem_replicate, List.not_mem_nil, or_false] at hs
      rcases hs with (((rfl | ⟨_, rfl⟩) | ⟨_, rfl⟩) | ⟨_, rfl⟩) | rfl <;> assumption
  · rw [shY_nar y h]
    rw [if_neg (by omega)] at hs
    refine ⟨?_, ?_, ?_, ?_⟩
    · simp only [List.length_append, List.length_replicate]; omega
    · simp only [rneed_app, rneed_rep, n1, n4]; omega
    · simp only [rmake_app, rmake_rep, m1, m4]; omega
    · intro s hs
      simp only [List.mem_append, List.mem_replicate] at hs
      rcases hs with (⟨_, rfl⟩ | ⟨_, rfl⟩) | ⟨_, rfl⟩ <;> assumption
  · rw [shY_plain y h]
    subst h
    refine ⟨by simp, by rw [rneed_rep, n1]; omega, by rw [rmake_rep, m1]; omega, ?_⟩
    intro s hs
    simp only [List.mem_replicate] at hs
    rw [hs.2]; exact k1

/-! ### Loops: each slot has one -/
theorem ld_ones : ∀ (r : List St) (acc : List Int) (x : Nat), (∀ s ∈ r, s.chk = 0 ∧ kok s) → (x : Int) = rneed r → ldRow r (List.replicate x 1) acc = (0, acc ++ List.replicate (rmake r).toNat 1)
  | [], acc, x, _, hx => by simp [ldRow, rmake]
  | s :: r, acc, x, h, hx => by
    obtain ⟨hc, hk⟩ := h s (by simp)
    have hb := St.need_bd s
    have hr := rneed_bd r
    rw [rneed_cons] at hx
    have ht : (List.replicate x (1 : Int)).take s.need.toNat = List.replicate s.need.toNat 1 := by rw [List.take_replicate, Nat.min_eq_left (by omega)]
    have hd : (List.replicate x (1 : Int)).drop s.need.toNat = List.replicate (x - s.need.toNat) 1 := by rw [List.drop_replicate]
    have hg : ∀ i, i < (List.replicate s.need.toNat (1 : Int)).length → gi (List.replicate s.need.toNat 1) i = 1 := fun i hi => by
      rw [gi_of_lt hi]; simp
    have he : s.lerr (List.replicate s.need.toNat 1) = 0 := by
      rw [lerr_in hc (by simp; omega) (fun i hi => by rw [hg i hi]; omega)]
      have h2 : ∀ i, gi (List.replicate s.need.toNat (1 : Int)) i ≤ 1 := fun i => by
        by_cases hi : i < (List.replicate s.need.toNat (1 : Int)).length
        · rw [hg i hi]; omega
        · rw [gi_end (by omega)]; omega
      have a := h2 0; have b := h2 1
      unfold kok at hk
      repeat' split <;> omega
    have hm : s.lmade (List.replicate s.need.toNat 1) = List.replicate s.make.toNat 1 := by
      unfold St.lmade; unfold kok at hk; rw [if_neg (by omega), if_neg (by omega), if_neg (by omega)]
    rw [ldRow, ht, if_neg (by omega), hd, hm, ld_ones r _ _ (fun s hs => h s (by simp [hs])) (by omega), rmake_cons]
    have hmb := St.make_bd s
    have hmr := rmake_bd r
    rw [show (s.make + rmake r).toNat = s.make.toNat + (rmake r).toNat by omega, List.append_assoc, List.replicate_append_replicate]
theorem lds_ones : ∀ (rs : List (List St)) (acc : List (List Int)) (x : Nat), (∀ r ∈ rs, ∀ s ∈ r, s.chk = 0 ∧ kok s) → (0 < rs.length → (x : Int) = rneed (sw rs 0)) → (∀ k, k + 1 < rs.length → rneed (sw rs (k + 1)) = rmake (sw rs k)) →
    (ldRows rs (List.replicate x 1) acc).1 = 0
  | [], _, _, _, _, _ => rfl
  | r :: rs, acc, x, h, hx, hf => by
    have h1 := ld_ones r [] x (h r (by simp)) (hx (by simp))
    rw [ldRows, h1, if_neg (by simp)]
    rw [List.nil_append]
    have hmb := rmake_bd r
    refine lds_ones rs _ _ (fun r hr => h r (by simp [hr])) (fun h0 => ?_) (fun k hk => ?_)
    · have := hf 0 (by simpa using h0)
      have e : sw (r :: rs) (0 + 1) = sw rs 0 := by unfold sw; simp [List.getD]
      have e0 : sw (r :: rs) 0 = r := rfl
      rw [e, e0] at this
      omega
    · have := hf (k + 1) (by simpa using hk)
      have e : ∀ j, sw (r :: rs) (j + 1) = sw rs j := fun j => by unfold sw; simp [List.getD]
      rwa [e, e] at this
theorem rchk_ok {l : List St} (h0 : 0 < l.length) (h1 : l.length ≤ 16) (h2 : ∀ s ∈ l, s.chk = 0) (h3 : 1 ≤ rneed l ∧ rneed l ≤ 16) (h4 : 1 ≤ rmake l ∧ rmake l ≤ 16) : rchk l = 0 := by
  unfold rchk
  rw [if_neg (by omega), if_neg (by omega), if_neg, if_neg (by omega)]
  rw [List.any_eq_true]
  rintro ⟨s, hs, hb⟩
  have := h2 s hs
  simp at hb; omega
theorem cerr_ok2 {rows : List (List St)} (h1 : rows.length ≤ 31) (h2 : rows.length % 2 = 1) (h3 : ∀ i, i < rows.length → rchk (sw rows i) = 0) (h4 : ∀ k, k + 1 < rows.length → rneed (sw rows (k + 1)) = rmake (sw rows k)) : cerr rows = 0 := by
  unfold cerr
  rw [if_neg (by omega), if_neg (by omega), ferr_ok rows h3, if_neg (by omega), if_pos]
  unfold fitB
  rw [List.all_eq_true]
  intro i hi
  rw [List.mem_range] at hi
  simp [h4 i (by omega)]

/-- What the chart of a valid outline is. -/
theorem chartOf_facts {l : List Int} {y : Int} (hl : oerr l = 0) (hy : 1 ≤ y ∧ y ≤ 6) : (∀ i, i + 1 < l.length → ((sw (chartOf l y) i).length : Int) = gi l (i + 1) ∧ rneed (sw (chartOf l y) i) = gi l i ∧ rmake (sw (chartOf l y) i) = gi l (i + 1) ∧ (∀ s ∈ sw (chartOf l y) i, s.chk = 0 ∧ kok s ∧ s.y = y)) := by
  obtain ⟨h1, h2, h3, h4, h5⟩ := oerr_zero hl
  intro i hi
  have a := h4 i (by omega); have b := h4 (i + 1) hi; have c := h5 i hi
  rw [chartOf_sw hi]
  obtain ⟨p, q, r, s⟩ := shY_facts (n := (gi l i).toNat) (i := i) (m := gi l (i + 1) - gi l i) hy c (by omega)
  exact ⟨by omega, by omega, by omega, s⟩
theorem chartOf_loads {l : List Int} {y : Int} (hl : oerr l = 0) (hy : 1 ≤ y ∧ y ≤ 6) : (cloads (chartOf l y)).1 = 0 := by
  have hf := chartOf_facts hl hy
  obtain ⟨h1, h2, h3, h4, h5⟩ := oerr_zero hl
  have hlen := chartOf_len l y
  have hfit : ∀ k, k + 1 < (chartOf l y).length → rneed (sw (chartOf l y) (k + 1)) = rmake (sw (chartOf l y) k) := fun k hk => by
    rw [(hf (k + 1) (by omega)).2.1, (hf k (by omega)).2.2.1]
  have hce : cerr (chartOf l y) = 0 := by
    refine cerr_ok2 (by omega) (by omega) (fun i hi => ?_) hfit
    obtain ⟨p, q, r, s⟩ := hf i (by omega)
    have a := h4 i (by omega); have b := h4 (i + 1) (by omega)
    exact rchk_ok (by omega) (by omega) (fun x hx => (s x hx).1) (by omega) (by omega)
  unfold cloads
  rw [if_neg (by omega)]
  unfold first
  refine lds_ones _ _ _ (fun r hr s hs => ?_) (fun h0 => ?_) hfit
  · obtain ⟨i, hi, rfl⟩ := List.mem_iff_getElem.1 hr
    rw [← sw_of_lt hi] at hs
    have := (hf i (by omega)).2.2.2 s hs
    exact ⟨this.1, this.2.1⟩
  · have := rneed_bd (sw (chartOf l y) 0)
    omega

/-! ### The reference's rows -/
def refL (i : Nat) (d : Int) : Int := if d = 2 ∨ d = -2 then d / 2 else if d = 1 ∨ d = -1 then (if odd i then d else 0) else 0
def refR (i : Nat) (d : Int) : Int := if d = 2 ∨ d = -2 then d / 2 else if d = 1 ∨ d = -1 then (if odd i then 0 else d) else 0
def refP (n a b : Int) : Int := n - (if a = -1 then 2 else 0) - (if a = 1 then 1 else 0) - (if b = -1 then 2 else 0) - (if b = 1 then 1 else 0)
def refRow (n i : Nat) (d y : Int) : List St :=
  (if refL i d = -1 then [ksty 4 y] else if refL i d = 1 then [ksty 1 y, ksty 3 y] else []) ++ List.replicate (refP n (refL i d) (refR i d)).toNat (ksty 1 y) ++ (if refR i d = 1 then [ksty 3 y, ksty 1 y] else if refR i d = -1 then [ksty 4 y] else [])
theorem rep_cons {α : Type} (n : Nat) (x : α) : List.replicate n x ++ [x] = x :: List.replicate n x := by
  rw [← List.replicate_succ', List.replicate_succ]
theorem refRow_eq {n i : Nat} {m y : Int} (hm : -2 ≤ m ∧ m ≤ 2) (hn : 2 ≤ (n : Int) ∧ 2 ≤ (n : Int) + m) : refRow n i m y = shY n i m y := by
  obtain ⟨p, rfl⟩ : ∃ p, n = p + 2 := ⟨n - 2, by omega⟩
  rcases (show m = 2 ∨ m = 1 ∨ m = -2 ∨ m = -1 ∨ m = 0 by omega) with rfl | rfl | rfl | rfl | rfl
  · rw [shY_wid y (by omega)]
    have e : refP ((p + 2 : Nat) : Int) 1 1 = p := by unfold refP; simp; omega
    simp only [refRow, refL, refR, endL, endR, cnt]
    simp only [show (2 : Int) / 2 = 1 from rfl, true_or, if_true]
    rw [e]
    simp
  · rw [shY_wid y (by omega)]
    have e1 : (refP ((p + 2 : Nat) : Int) 1 0).toNat = p + 1 := by unfold refP; simp; omega
    have e2 : (refP ((p + 2 : Nat) : Int) 0 1).toNat = p + 1 := by unfold refP; simp; omega
    have e3 : List.replicate (p + 1) (ksty 1 y) = ksty 1 y :: List.replicate p (ksty 1 y) := rfl
    cases ho : odd i
    · have a1 : refL i 1 = 0 := by simp [refL, ho]
      have a2 : refR i 1 = 1 := by simp [refR, ho]
      have a3 : endL i 1 = false := by simp [endL, ho]
      have a4 : endR i 1 = true := by simp [endR, ho]
      unfold refRow; rw [a1, a2, a3, a4, e2, e3]; simp [cnt]
    · have a1 : refL i 1 = 1 := by simp [refL, ho]
      have a2 : refR i 1 = 0 := by simp [refR, ho]
      have a3 : endL i 1 = true := by simp [endL, ho]
      have a4 : endR i 1 = false := by simp [endR, ho]
      unfold refRow; rw [a1, a2, a3, a4, e1, e3]; simp [cnt, rep_cons]
  · rw [shY_nar y (by omega)]
    have e : (refP ((p + 2 : Nat) : Int) (-1) (-1)).toNat = p - 2 := by unfold refP; simp; omega
    have a1 : refL i (-2) = -1 := rfl
    have a2 : refR i (-2) = -1 := rfl
    have a3 : endL i (-2) = true := rfl
    have a4 : endR i (-2) = true := rfl
    unfold refRow; rw [a1, a2, a3, a4, e]; simp [cnt]
  · rw [shY_nar y (by omega)]
    have e1 : (refP ((p + 2 : Nat) : Int) (-1) 0).toNat = p := by unfold refP; simp; try omega
    have e2 : (refP ((p + 2 : Nat) : Int) 0 (-1)).toNat = p := by unfold refP; simp; try omega
    cases ho : odd i
    · have a1 : refL i (-1) = 0 := by simp [refL, ho]
      have a2 : refR i (-1) = -1 := by simp [refR, ho]
      have a3 : endL i (-1) = false := by simp [endL, ho]
      have a4 : endR i (-1) = true := by simp [endR, ho]
      unfold refRow; rw [a1, a2, a3, a4, e2]; simp [cnt]
    · have a1 : refL i (-1) = -1 := by simp [refL, ho]
      have a2 : refR i (-1) = 0 := by simp [refR, ho]
      have a3 : endL i (-1) = true := by simp [endL, ho]
      have a4 : endR i (-1) = false := by simp [endR, ho]
      unfold refRow; rw [a1, a2, a3, a4, e1]; simp [cnt]
  · rw [shY_plain y rfl]
    have e1 : (refP ((p + 2 : Nat) : Int) 0 0).toNat = p + 2 := by unfold refP; simp; try omega
    have a1 : refL i 0 = 0 := rfl
    have a2 : refR i 0 = 0 := rfl
    unfold refRow; rw [a1, a2, e1]; simp
end Go.Proofs.YtinijapkipeamaaDoor
