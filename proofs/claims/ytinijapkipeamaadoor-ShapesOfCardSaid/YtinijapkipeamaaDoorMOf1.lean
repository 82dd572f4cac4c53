/- Texts of this claim in one file: libraries and walks. -/
import Derived.Test.YtinijapkipeamaaDoorProg
import Derived.Test.YtinijapkipeamaaDoorMOf0
/- Stitches in plain Lean: what is valid, needed and made; how they lie in memory. -/
namespace Go.Proofs.YtinijapkipeamaaDoor
set_option linter.unusedVariables false
set_option linter.unusedSimpArgs false
open Go Go.RowKit

/-- A stitch. -/
structure St where
  k : Int
  y : Int
  a : Int
  b : Int
  f : Bool
deriving DecidableEq
namespace St
/-- Its fields lie in their types. -/
def In (s : St) : Prop := (0 ≤ s.k ∧ s.k ≤ 255) ∧ (0 ≤ s.y ∧ s.y ≤ 255) ∧ (-9223372036854775808 ≤ s.a ∧ s.a ≤ 9223372036854775807) ∧ (-9223372036854775808 ≤ s.b ∧ s.b ≤ 9223372036854775807)
/-- As it lies in memory. -/
def cs (s : St) : List Value := [.int .u8 s.k, .int .u8 s.y, .int .i64 s.a, .int .i64 s.b, .bool s.f]
/-- As a value. -/
def val (s : St) : Value := .agg #[.int .u8 s.k, .int .u8 s.y, .int .i64 s.a, .int .i64 s.b, .bool s.f]
def none : St := ⟨0, 0, 0, 0, false⟩
def knit (y : Int) : St := ⟨1, y, 0, 0, false⟩
def over (y : Int) : St := ⟨3, y, 0, 0, false⟩
def two (y : Int) : St := ⟨4, y, 0, 0, false⟩
/-- The error of a stitch. -/
def chk (s : St) : Int :=
  if s.k < 1 ∨ 8 < s.k ∨ s.y < 1 ∨ 6 < s.y then 1
  else if s.k ≠ 8 then (if s.a ≠ 0 ∨ s.b ≠ 0 ∨ s.f = true then 1 else 0)
  else if s.a < 1 ∨ 4 < s.a ∨ s.b < 1 ∨ 4 - s.a < s.b then 1 else 0
def need (s : St) : Int := if chk s ≠ 0 then 0 else if s.k = 3 then 0 else if s.k = 4 ∨ s.k = 5 then 2 else if s.k = 8 then s.a + s.b else 1
def make (s : St) : Int := if chk s ≠ 0 then 0 else if s.k = 8 then s.a + s.b else 1
theorem chk_cases (s : St) : chk s = 0 ∨ chk s = 1 := by unfold chk; (repeat' split) <;> simp
theorem chk_ok {s : St} (h : chk s = 0) : (1 ≤ s.k ∧ s.k ≤ 8) ∧ (1 ≤ s.y ∧ s.y ≤ 6) ∧ ((s.k ≠ 8 ∧ s.a = 0 ∧ s.b = 0 ∧ s.f = false) ∨ (s.k = 8 ∧ 1 ≤ s.a ∧ s.a ≤ 3 ∧ 1 ≤ s.b ∧ s.b ≤ 3 ∧ s.a + s.b ≤ 4)) := by
  unfold chk at h
  by_cases h1 : s.k < 1 ∨ 8 < s.k ∨ s.y < 1 ∨ 6 < s.y
  · rw [if_pos h1] at h; omega
  rw [if_neg h1] at h
  refine ⟨by omega, by omega, ?_⟩
  by_cases h2 : s.k ≠ 8
  · rw [if_pos h2] at h
    by_cases h3 : s.a ≠ 0 ∨ s.b ≠ 0 ∨ s.f = true
    · rw [if_pos h3] at h; omega
    · refine .inl ⟨h2, by omega, by omega, ?_⟩
      cases hf : s.f
      · rfl
      · exact absurd (.inr (.inr hf)) h3
  · rw [if_neg h2] at h
    by_cases h3 : s.a < 1 ∨ 4 < s.a ∨ s.b < 1 ∨ 4 - s.a < s.b
    · rw [if_pos h3] at h; omega
    · exact .inr (by omega)
theorem need_bd (s : St) : 0 ≤ need s ∧ need s ≤ 4 := by
  unfold need
  split
  · omega
  · rename_i h
    have h := chk_ok (by simpa using h)
    repeat' split <;> omega
theorem make_bd (s : St) : 0 ≤ make s ∧ make s ≤ 4 := by
  unfold make
  split
  · omega
  · rename_i h
    have h := chk_ok (by simpa using h)
    split <;> omega
end St

/-! ### In memory -/
/-- Block b holds a stitch. -/
def B5 (w : World) (b : Nat) (s : St) (t : TypeId) : Prop := w.heap[b]? = some (.cells #[.int .u8 s.k, .int .u8 s.y, .int .i64 s.a, .int .i64 s.b, .bool s.f] t (0, 0))
/-- Five cells in a row hold a stitch. -/
def At5 (w : World) (b o : Nat) (s : St) : Prop :=
  w.cell? ⟨b, o, none⟩ = some (.int .u8 s.k) ∧ w.cell? ⟨b, o + 1, none⟩ = some (.int .u8 s.y) ∧ w.cell? ⟨b, o + 2, none⟩ = some (.int .i64 s.a) ∧ w.cell? ⟨b, o + 3, none⟩ = some (.int .i64 s.b) ∧ w.cell? ⟨b, o + 4, none⟩ = some (.bool s.f)
theorem At5.ext {w w' : World} {b o : Nat} {s : St} (h : At5 w b o s) (e : Ext w w') : At5 w' b o s :=
  ⟨e.cell h.1, e.cell h.2.1, e.cell h.2.2.1, e.cell h.2.2.2.1, e.cell h.2.2.2.2⟩
theorem B5.at {w : World} {b : Nat} {s : St} {t : TypeId} (h : B5 w b s t) : At5 w b 0 s := by
  unfold B5 at h; refine ⟨?_, ?_, ?_, ?_, ?_⟩ <;> simp [World.cell?, h]
theorem B5.fr {w : World} {b : Nat} {s : St} {t : TypeId} (h : B5 w b s t) (o : Nat) : w.frozen? ⟨b, o, none⟩ = false := by unfold B5 at h; simp [World.frozen?, h]
theorem B5.ext {w w' : World} {b : Nat} {s : St} {t : TypeId} (h : B5 w b s t) (e : Ext w w') : B5 w' b s t := Ext.block e h
theorem B5.new (w : World) (s : St) (t : TypeId) : B5 (w.alloc (.cells #[.int .u8 s.k, .int .u8 s.y, .int .i64 s.a, .int .i64 s.b, .bool s.f] t)) w.heap.size s t := Deep.blk_alloc_new _ _

def si (l : List St) (i : Nat) : St := l.getD i St.none
theorem si_of_lt {l : List St} {i : Nat} (h : i < l.length) : si l i = l[i] := by unfold si; simp [List.getD, h]
theorem si_mem {l : List St} {i : Nat} (h : i < l.length) : si l i ∈ l := by rw [si_of_lt h]; exact List.getElem_mem h
theorem si_ext {l m : List St} (hl : l.length = m.length) (h : ∀ i, i < l.length → si l i = si m i) : l = m := by
  apply List.ext_getElem hl
  intro i h1 h2
  have := h i h1
  rwa [si_of_lt h1, si_of_lt h2] at this
theorem take_succ_si {l : List St} {k : Nat} (h : k < l.length) : l.take (k + 1) = l.take k ++ [si l k] := by rw [si_of_lt h]; exact List.take_succ_eq_append_getElem h

/-- The slice value v, of capacity c, holds the stitches l. -/
def RS (w : World) (v : Value) (c : Nat) (l : List St) : Prop :=
  ∃ ao : Option Addr, v = .slice ao l.length c ∧ l.length ≤ c ∧ c ≤ maxLen ∧ (l = [] ∨ ∃ b o, ao = some ⟨b, o, none⟩ ∧ ∀ i, i < l.length → At5 w b (o + i * 5) (si l i))
theorem RS.ext {w w' : World} {v : Value} {c : Nat} {l : List St} (h : RS w v c l) (e : Ext w w') : RS w' v c l := by
  obtain ⟨ao, h1, h2, h3, h4⟩ := h
  refine ⟨ao, h1, h2, h3, ?_⟩
  rcases h4 with h4 | ⟨b, o, h5, h6⟩
  · exact .inl h4
  · exact .inr ⟨b, o, h5, fun i hi => (h6 i hi).ext e⟩
theorem RS.nil (w : World) : RS w (.slice none 0 0) 0 [] := ⟨none, rfl, Nat.le_refl _, by unfold maxLen; omega, .inl rfl⟩
theorem RS.open {w : World} {v : Value} {c : Nat} {l : List St} (h : RS w v c l) : ∃ ao n, v = .slice ao n c ∧ n = l.length ∧ n ≤ c ∧ c ≤ maxLen ∧ ∀ i, i < n → ∃ b o, ao = some ⟨b, o, none⟩ ∧ At5 w b (o + i * 5) (si l i) := by
  obtain ⟨ao, h1, h2, h3, h4⟩ := h
  refine ⟨ao, _, h1, rfl, h2, h3, fun i hi => ?_⟩
  rcases h4 with h4 | ⟨b, o, h5, h6⟩
  · rw [h4] at hi; simp at hi
  · exact ⟨b, o, h5, h6 i hi⟩

/-! ### Rows -/
def rneed (l : List St) : Int := (l.map St.need).foldl (· + ·) 0
def rmake (l : List St) : Int := (l.map St.make).foldl (· + ·) 0
theorem rneed_snoc (l : List St) (s : St) : rneed (l ++ [s]) = rneed l + s.need := by unfold rneed; simp
theorem rmake_snoc (l : List St) (s : St) : rmake (l ++ [s]) = rmake l + s.make := by unfold rmake; simp
theorem foldl_add (l : List Int) : ∀ x : Int, l.foldl (· + ·) x = x + l.foldl (· + ·) 0 := by
  induction l with
  | nil => intro x; simp
  | cons a l ih => intro x; simp only [List.foldl_cons]; rw [ih (x + a), ih (0 + a)]; omega
theorem rneed_cons (s : St) (l : List St) : rneed (s :: l) = s.need + rneed l := by unfold rneed; simp only [List.map_cons, List.foldl_cons]; rw [foldl_add]; omega
theorem rmake_cons (s : St) (l : List St) : rmake (s :: l) = s.make + rmake l := by unfold rmake; simp only [List.map_cons, List.foldl_cons]; rw [foldl_add]; omega
theorem rneed_bd (l : List St) : 0 ≤ rneed l ∧ rneed l ≤ 4 * l.length := by
  induction l with
  | nil => simp [rneed]
  | cons s l ih => rw [rneed_cons]; have := St.need_bd s; simp only [List.length_cons]; omega
theorem rmake_bd (l : List St) : 0 ≤ rmake l ∧ rmake l ≤ 4 * l.length := by
  induction l with
  | nil => simp [rmake]
  | cons s l ih => rw [rmake_cons]; have := St.make_bd s; simp only [List.length_cons]; omega
/-- The error of a row. -/
def rchk (l : List St) : Int :=
  if 16 < l.length then 3 else if l.length = 0 then 1 else if l.any (fun s => decide (s.chk ≠ 0)) then 1
  else if rneed l < 1 ∨ 16 < rneed l ∨ rmake l < 1 ∨ 16 < rmake l then 5 else 0

def sw (rows : List (List St)) (i : Nat) : List St := rows.getD i []
theorem sw_of_lt {rows : List (List St)} {i : Nat} (h : i < rows.length) : sw rows i = rows[i] := by unfold sw; simp [List.getD, h]
theorem take_succ_sw {l : List (List St)} {k : Nat} (h : k < l.length) : l.take (k + 1) = l.take k ++ [sw l k] := by rw [sw_of_lt h]; exact List.take_succ_eq_append_getElem h
/-- The slice value v, of capacity c, holds the rows. -/
def RR (w : World) (v : Value) (c : Nat) (rows : List (List St)) : Prop :=
  ∃ (ao : Option Addr) (vs : Nat → Value) (caps : Nat → Nat), v = .slice ao rows.length c ∧ rows.length ≤ c ∧ c ≤ maxLen ∧ (rows = [] ∨ ∃ b o, ao = some ⟨b, o, none⟩ ∧ ∀ i, i < rows.length → w.cell? ⟨b, o + i, none⟩ = some (vs i)) ∧ ∀ i, i < rows.length → RS w (vs i) (caps i) (sw rows i)
theorem RR.ext {w w' : World} {v : Value} {c : Nat} {rows : List (List St)} (h : RR w v c rows) (e : Ext w w') : RR w' v c rows := by
  obtain ⟨ao, vs, caps, h1, h2, h3, h4, h5⟩ := h
  refine ⟨ao, vs, caps, h1, h2, h3, ?_, fun i hi => (h5 i hi).ext e⟩
  rcases h4 with h4 | ⟨b, o, h6, h7⟩
  · exact .inl h4
  · exact .inr ⟨b, o, h6, fun i hi => e.cell (h7 i hi)⟩
theorem RR.nil (w : World) : RR w (.slice Option.none 0 0) 0 [] := ⟨Option.none, fun _ => undef, fun _ => 0, rfl, Nat.le_refl _, by unfold maxLen; omega, .inl rfl, fun i hi => by simp at hi⟩
theorem RR.open {w : World} {v : Value} {c : Nat} {rows : List (List St)} (h : RR w v c rows) : ∃ ao n, v = .slice ao n c ∧ n = rows.length ∧ n ≤ c ∧ c ≤ maxLen ∧
    ∀ i, i < n → ∃ b o a m d, ao = some ⟨b, o, none⟩ ∧ w.cell? ⟨b, o + i, none⟩ = some (.slice a m d) ∧ RS w (.slice a m d) d (sw rows i) := by
  obtain ⟨ao, vs, caps, h1, h2, h3, h4, h5⟩ := h
  refine ⟨ao, _, h1, rfl, h2, h3, fun i hi => ?_⟩
  rcases h4 with h4 | ⟨b, o, h6, h7⟩
  · rw [h4] at hi; simp at hi
  · obtain ⟨a, m, hv, _⟩ := (h5 i hi).open
    have hr := h5 i hi
    rw [hv] at hr
    exact ⟨b, o, a, m, _, h6, by rw [h7 i hi, hv], hr⟩
/-- The first error of a row. -/
def ferr : List (List St) → Int
  | [] => 0
  | r :: rs => if rchk r ≠ 0 then rchk r else ferr rs
theorem ferr_at : ∀ (rows : List (List St)) (k : Nat), k < rows.length → (∀ i, i < k → rchk (sw rows i) = 0) → rchk (sw rows k) ≠ 0 → ferr rows = rchk (sw rows k)
  | [], k, h, _, _ => by simp at h
  | r :: rs, 0, _, _, hb => if_pos hb
  | r :: rs, k + 1, h, hg, hb => by
    have h0 : rchk r = 0 := hg 0 (by omega)
    have e : sw (r :: rs) (k + 1) = sw rs k := by unfold sw; simp [List.getD]
    rw [e] at hb ⊢
    unfold ferr
    rw [if_neg (by omega)]
    exact ferr_at rs k (by simpa using h) (fun i hi => by
      have := hg (i + 1) (by omega)
      have e : sw (r :: rs) (i + 1) = sw rs i := by unfold sw; simp [List.getD]
      rwa [e] at this) hb
theorem ferr_ok : ∀ (rows : List (List St)), (∀ i, i < rows.length → rchk (sw rows i) = 0) → ferr rows = 0
  | [], _ => rfl
  | r :: rs, hg => by
    have h0 : rchk r = 0 := hg 0 (by simp)
    unfold ferr
    rw [if_neg (by omega)]
    exact ferr_ok rs (fun i hi => by
      have := hg (i + 1) (by simp; omega)
      have e : sw (r :: rs) (i + 1) = sw rs i := by unfold sw; simp [List.getD]
      rwa [e] at this)
/-- The rows fit on one another. -/
def fitB (rows : List (List St)) : Bool := (List.range (rows.length - 1)).all fun i => decide (rneed (sw rows (i + 1)) = rmake (sw rows i))
/-- The error of a chart but for the loops. -/
def cerr (rows : List (List St)) : Int := if 31 < rows.length then 3 else if rows.length % 2 = 0 then 1 else if ferr rows ≠ 0 then ferr rows else if fitB rows then 0 else 14
theorem rchk_zero {l : List St} (h : rchk l = 0) : l.length ≤ 16 ∧ 0 < l.length ∧ (∀ i, i < l.length → (si l i).chk = 0) ∧ 1 ≤ rneed l ∧ rneed l ≤ 16 ∧ 1 ≤ rmake l ∧ rmake l ≤ 16 := by
  unfold rchk at h
  by_cases h1 : 16 < l.length
  · rw [if_pos h1] at h; omega
  rw [if_neg h1] at h
  by_cases h2 : l.length = 0
  · rw [if_pos h2] at h; omega
  rw [if_neg h2] at h
  by_cases h3 : l.any (fun s => decide (s.chk ≠ 0)) = true
  · rw [if_pos h3] at h; omega
  rw [if_neg h3] at h
  by_cases h4 : rneed l < 1 ∨ 16 < rneed l ∨ rmake l < 1 ∨ 16 < rmake l
  · rw [if_pos h4] at h; omega
  refine ⟨by omega, by omega, fun i hi => ?_, by omega, by omega, by omega, by omega⟩
  rcases St.chk_cases (si l i) with e | e
  · exact e
  · exact absurd (List.any_eq_true.2 ⟨_, si_mem hi, by simp [e]⟩) h3
end Go.Proofs.YtinijapkipeamaaDoor
/- Contracts of stitches.Check, Needs, Makes. -/
namespace Go.Proofs.YtinijapkipeamaaDoor
set_option linter.unusedVariables false
set_option linter.unusedSimpArgs false
set_option maxRecDepth 8000
open Go Go.RowKit

set_option maxHeartbeats 1000000 in
theorem SCheck_calls (s : St) (w : World) : Calls Tryd.prog 36 #[s.val] w fun e w' => e = .returned (.int .i64 s.chk) ∧ Ext w w' := by
  obtain ⟨k, y, a, b, f⟩ := s
  have hx := fun o => (Ext.refl w).alloc o
  have HX := Lib.hid hx
  clear hx
  have fin : ∀ r : Int, r = St.chk ⟨k, y, a, b, f⟩ → ∀ w', Ext w w' → (Ending.returned (.int .i64 r) = .returned (.int .i64 (St.chk ⟨k, y, a, b, f⟩)) ∧ Ext w w') := fun r h w' hx => ⟨by rw [h], hx⟩
  have Fin := Lib.hid fin
  clear fin
  unfold St.val
  cases f
  all_goals
    go_enter Tryd.func36, Tryd.ntmps36
    go_wp2
    all_goals (go_ret; refine Fin.out _ ?_ _ (HX.out _); unfold St.chk; dsimp only; (repeat' split) <;> first | rfl | (exfalso; omega) | (exfalso; simp_all; done) | (exfalso; simp_all; omega))
end Go.Proofs.YtinijapkipeamaaDoor
/- Contracts of stitches.Needs, Makes. -/
namespace Go.Proofs.YtinijapkipeamaaDoor
set_option linter.unusedVariables false
set_option linter.unusedSimpArgs false
set_option maxRecDepth 8000
open Go Go.RowKit

set_option maxHeartbeats 1000000 in
theorem SNeeds_calls (s : St) (w : World) : Calls Tryd.prog 54 #[s.val] w fun e w' => e = .returned (.int .i64 s.need) ∧ Ext w w' := by
  have hB := fun (_ : Nat) => B5.new w s 52
  have HB := Lib.hid hB
  clear hB
  obtain ⟨k, y, a, b, f⟩ := s
  have hc := SCheck_calls ⟨k, y, a, b, f⟩
  have hcc := St.chk_cases ⟨k, y, a, b, f⟩
  have hok := St.chk_ok (s := ⟨k, y, a, b, f⟩)
  have hfin : ∀ r : Int, r = St.need ⟨k, y, a, b, f⟩ → ∀ w', Ext w w' → (Ending.returned (.int .i64 r) = .returned (.int .i64 (St.need ⟨k, y, a, b, f⟩)) ∧ Ext w w') := fun r h w' hx => ⟨by rw [h], hx⟩
  have Fin := Lib.hid hfin; have Hc := Lib.hid hc
  clear hc hfin
  unfold St.val at *
  generalize hq : St.chk ⟨k, y, a, b, f⟩ = q at *
  have Hq := Lib.hid hq
  dsimp only at hok
  clear hq
  rcases hcc with rfl | rfl
  · obtain ⟨h1, h2, h3⟩ := hok rfl
    go_enter Tryd.func54, Tryd.ntmps54
    go_wp2_with fail
    refine (Hc.out _).mono ?_
    rintro e w1 ⟨rfl, x1⟩
    have hb := (HB.out 0).ext x1
    have c0 := hb.at.1; have c2 := hb.at.2.2.1; have c3 := hb.at.2.2.2.1
    have X1 := Lib.hid (((Ext.refl w).alloc _).trans x1)
    clear hb x1 HB Hc
    dsimp only at c0 c2 c3
    simp only [Nat.zero_add] at c2 c3
    by_cases k8 : k = 8
    · subst k8
      have b1 : 1 ≤ a ∧ a ≤ 3 ∧ 1 ≤ b ∧ b ≤ 3 := by omega
      obtain ⟨b1, b2, b3, b4⟩ := b1
      clear h3
      go_wp2
      go_ret
      exact Fin.out _ (by unfold St.need; rw [Hq.out]; simp) _ X1.out
    · clear h3
      by_cases k3 : k = 3
      · subst k3
        go_wp2
        go_ret
        exact Fin.out _ (by unfold St.need; rw [Hq.out]; simp) _ X1.out
      · by_cases k4 : k = 4
        · subst k4
          go_wp2
          go_ret
          exact Fin.out _ (by unfold St.need; rw [Hq.out]; simp) _ X1.out
        · by_cases k5 : k = 5
          · subst k5
            go_wp2
            go_ret
            exact Fin.out _ (by unfold St.need; rw [Hq.out]; simp) _ X1.out
          · have e3 : (k == 3) = false := beq_eq_false_iff_ne.2 k3
            have e4 : (k == 4) = false := beq_eq_false_iff_ne.2 k4
            have e5 : (k == 5) = false := beq_eq_false_iff_ne.2 k5
            have e8 : (k == 8) = false := beq_eq_false_iff_ne.2 k8
            have hf : (1 : Int) = St.need ⟨k, y, a, b, f⟩ := by unfold St.need; rw [Hq.out]; simp [k3, k4, k5, k8]
            have Hf := Lib.hid hf
            clear hf k3 k4 k5 k8
            go_wp2
            go_ret
            exact Fin.out _ Hf.out _ X1.out
  · go_enter Tryd.func54, Tryd.ntmps54
    go_wp2_with fail
    refine (Hc.out _).mono ?_
    rintro e w1 ⟨rfl, x1⟩
    have X1 := Lib.hid (((Ext.refl w).alloc _).trans x1)
    clear x1
    go_wp2
    go_ret
    exact Fin.out _ (by unfold St.need; rw [Hq.out]; simp) _ X1.out

set_option maxHeartbeats 1000000 in
theorem SMakes_calls (s : St) (w : World) : Calls Tryd.prog 22 #[s.val] w fun e w' => e = .returned (.int .i64 s.make) ∧ Ext w w' := by
  have hB := fun (_ : Nat) => B5.new w s 52
  have HB := Lib.hid hB
  clear hB
  obtain ⟨k, y, a, b, f⟩ := s
  have hc := SCheck_calls ⟨k, y, a, b, f⟩
  have hcc := St.chk_cases ⟨k, y, a, b, f⟩
  have hok := St.chk_ok (s := ⟨k, y, a, b, f⟩)
  have hfin : ∀ r : Int, r = St.make ⟨k, y, a, b, f⟩ → ∀ w', Ext w w' → (Ending.returned (.int .i64 r) = .returned (.int .i64 (St.make ⟨k, y, a, b, f⟩)) ∧ Ext w w') := fun r h w' hx => ⟨by rw [h], hx⟩
  have Fin := Lib.hid hfin; have Hc := Lib.hid hc
  clear hc hfin
  unfold St.val at *
  generalize hq : St.chk ⟨k, y, a, b, f⟩ = q at *
  have Hq := Lib.hid hq
  dsimp only at hok
  clear hq
  rcases hcc with rfl | rfl
  · obtain ⟨h1, h2, h3⟩ := hok rfl
    go_enter Tryd.func22, Tryd.ntmps22
    go_wp2_with fail
    refine (Hc.out _).mono ?_
    rintro e w1 ⟨rfl, x1⟩
    have hb := (HB.out 0).ext x1
    have c0 := hb.at.1; have c2 := hb.at.2.2.1; have c3 := hb.at.2.2.2.1
    have X1 := Lib.hid (((Ext.refl w).alloc _).trans x1)
    clear hb x1 HB Hc
    dsimp only at c0 c2 c3
    simp only [Nat.zero_add] at c2 c3
    by_cases k8 : k = 8
    · subst k8
      have b1 : 1 ≤ a ∧ a ≤ 3 ∧ 1 ≤ b ∧ b ≤ 3 := by omega
      obtain ⟨b1, b2, b3, b4⟩ := b1
      clear h3
      go_wp2
      go_ret
      exact Fin.out _ (by unfold St.make; rw [Hq.out]; simp) _ X1.out
    · have e8 : (k == 8) = false := beq_eq_false_iff_ne.2 k8
      have hf : (1 : Int) = St.make ⟨k, y, a, b, f⟩ := by unfold St.make; rw [Hq.out]; simp [k8]
      have Hf := Lib.hid hf
      clear hf k8 h3
      go_wp2
      go_ret
      exact Fin.out _ Hf.out _ X1.out
  · go_enter Tryd.func22, Tryd.ntmps22
    go_wp2_with fail
    refine (Hc.out _).mono ?_
    rintro e w1 ⟨rfl, x1⟩
    have X1 := Lib.hid (((Ext.refl w).alloc _).trans x1)
    clear x1
    go_wp2
    go_ret
    exact Fin.out _ (by unfold St.make; rw [Hq.out]; simp) _ X1.out
end Go.Proofs.YtinijapkipeamaaDoor
/- ganseyref12.Valid, Needs, Makes. -/
namespace Go.Proofs.YtinijapkipeamaaDoor
set_option linter.unusedVariables false
set_option linter.unusedSimpArgs false
set_option maxRecDepth 8000
open Go Go.RowKit

def St.vld (s : St) : Int := if s.chk = 0 then 1 else 0
theorem vld_head {s : St} (h : s.k < 1 ∨ 8 < s.k ∨ s.y < 1 ∨ 6 < s.y) : s.vld = 0 := by
  have : s.chk = 1 := by unfold St.chk; rw [if_pos h]
  unfold St.vld; rw [if_neg (by omega)]
theorem vld_plain {s : St} (h : ¬ (s.k < 1 ∨ 8 < s.k ∨ s.y < 1 ∨ 6 < s.y)) (h8 : s.k ≠ 8) : s.vld = if s.a ≠ 0 ∨ s.b ≠ 0 ∨ s.f = true then 0 else 1 := by
  unfold St.vld St.chk; rw [if_neg h, if_pos h8]
  by_cases h2 : s.a ≠ 0 ∨ s.b ≠ 0 ∨ s.f = true
  · rw [if_pos h2, if_pos h2, if_neg (by omega)]
  · rw [if_neg h2, if_neg h2, if_pos rfl]
theorem vld_cable {s : St} (h : ¬ (s.k < 1 ∨ 8 < s.k ∨ s.y < 1 ∨ 6 < s.y)) (h8 : s.k = 8) : s.vld = if 1 ≤ s.a ∧ 1 ≤ s.b ∧ s.a + s.b ≤ 4 then 1 else 0 := by
  have hc : s.chk = if s.a < 1 ∨ 4 < s.a ∨ s.b < 1 ∨ 4 - s.a < s.b then 1 else 0 := by unfold St.chk; rw [if_neg h, if_neg (by omega)]
  unfold St.vld
  by_cases h2 : s.a < 1 ∨ 4 < s.a ∨ s.b < 1 ∨ 4 - s.a < s.b
  · rw [hc, if_pos h2, if_neg (by omega), if_neg (by omega)]
  · rw [hc, if_neg h2, if_pos rfl, if_pos (by omega)]

set_option maxHeartbeats 2000000 in
theorem Valid_calls (s : St) (w : World) (hs : 0 ≤ s.k ∧ 0 ≤ s.y) : Calls Tryd.prog 61 #[s.val] w fun e w' => e = .returned (.int .i64 s.vld) ∧ Ext w w' := by
  have HB := Lib.hid (fun w' (x : Ext (w.alloc (.cells #[.int .u8 s.k, .int .u8 s.y, .int .i64 s.a, .int .i64 s.b, .bool s.f] 52)) w') => ((B5.new w s 52).ext x).at)
  have hv1 := vld_head (s := s); have hv2 := vld_plain (s := s); have hv3 := vld_cable (s := s)
  obtain ⟨k, y, a, b, f⟩ := s
  unfold St.val
  simp only [] at hv1 hv2 hv3 hs ⊢
  generalize St.vld ⟨k, y, a, b, f⟩ = V at *
  obtain ⟨W, hW⟩ : ∃ W, W = w.alloc (.cells #[.int .u8 k, .int .u8 y, .int .i64 a, .int .i64 b, .bool f] 52) := ⟨_, rfl⟩
  have XW := Lib.hid (show Ext w W by rw [hW]; exact (Ext.refl w).alloc _)
  have hb := HB.out W (by rw [hW]; exact Ext.refl _)
  obtain ⟨c0, c1, c2, c3, c4⟩ := hb
  simp only [Nat.zero_add] at c0 c1 c2 c3 c4
  rw [hW] at c0 c1 c2 c3 c4
  obtain ⟨s1, s2⟩ := hs
  by_cases h : k < 1 ∨ 8 < k ∨ y < 1 ∨ 6 < y
  · have hV := hv1 h
    clear hv1 hv2 hv3 HB
    subst hV
    rcases (show y = 0 ∨ (y ≠ 0 ∧ 6 < y) ∨ (y ≠ 0 ∧ ¬ 6 < y ∧ k = 0) ∨ (y ≠ 0 ∧ ¬ 6 < y ∧ k ≠ 0 ∧ 8 < k) by omega) with e | ⟨e1, e2⟩ | ⟨e1, e2, e3⟩ | ⟨e1, e2, e3, e4⟩
    all_goals
      clear h
      go_enter Tryd.func61, Tryd.ntmps61
      go_wp2
      go_ret
      exact ⟨rfl, (Ext.refl w).alloc _⟩
  · have e1 : ¬ y = 0 := by omega
    have e2 : ¬ 6 < y := by omega
    have e3 : ¬ k = 0 := by omega
    have e4 : ¬ 8 < k := by omega
    have e5 : (y == 0) = false := beq_eq_false_iff_ne.2 e1
    have e6 : (k == 0) = false := beq_eq_false_iff_ne.2 e3
    by_cases h8 : k = 8
    · have hV := hv3 h h8
      have HV := Lib.hid hV
      clear hv1 hv2 hv3 h hV e3 e4 e6
      subst h8
      go_enter Tryd.func61, Tryd.ntmps61
      go_wp2
      rw [← hW]
      clear c0 c1 c2 c3 c4 e1 e2
      go_loopw [3, 4] (fun x _ wr => ∃ p : Nat, p ≤ 3 ∧ x = .int .i64 ((p : Int) + 1) ∧ Hid (Ext W wr) ∧ Hid (∀ i : Nat, 1 ≤ i → i ≤ p → ¬ (a = i ∧ 1 ≤ b ∧ a + b ≤ 4))) (fun x _ _ => 4 - (intOf x).toNat)
      case atStart => exact ⟨0, by omega, rfl, Lib.hid (Ext.refl W), Lib.hid (fun i h1 h2 => by omega)⟩
      case round =>
        obtain ⟨p, hp, rfl, HX, HN⟩ := hrel
        by_cases hlt : p < 3
        · have p1 : (p : Int) + 1 < 4 := by omega
          go_wp2
          go_loopw [4] (fun x wr => ∃ q : Nat, q ≤ 3 ∧ x = .int .i64 ((q : Int) + 1) ∧ Hid (Ext W wr) ∧ Hid (∀ i : Nat, 1 ≤ i → i ≤ q → ¬ (a = (p : Int) + 1 ∧ b = i ∧ a + b ≤ 4))) (fun x _ => 4 - (intOf x).toNat)
          case atStart => exact ⟨0, by omega, rfl, HX, Lib.hid (fun i h1 h2 => by omega)⟩
          case round =>
            obtain ⟨q, hq, rfl, HX2, HN2⟩ := hrel
            have w1 : IntKind.i64.wrap ((p : Int) + 1 + ((q : Int) + 1)) = (p : Int) + 1 + ((q : Int) + 1) := IntWalk.i64_in _ ⟨by omega, by omega⟩
            by_cases hle : (p : Int) + 1 + ((q : Int) + 1) ≤ 4
            · have hb := HB.out wr (by rw [← hW]; exact HX2.out)
              obtain ⟨c0, c1, c2, c3, c4⟩ := hb
              simp only [Nat.zero_add] at c0 c1 c2 c3 c4
              by_cases ha : a = (p : Int) + 1
              · by_cases hbb : b = (q : Int) + 1
                · have hV := HV.out
                  rw [if_pos (by omega)] at hV
                  have q1 : (a == (p : Int) + 1) = true := by rw [beq_iff_eq]; exact ha
                  have q2 : (b == (q : Int) + 1) = true := by rw [beq_iff_eq]; exact hbb
                  clear ha hbb
                  subst hV
                  go_wp2
                  go_ret
                  exact ⟨rfl, XW.out.trans HX2.out⟩
                · have q1 : (a == (p : Int) + 1) = true := by rw [beq_iff_eq]; exact ha
                  have q2 : (b == (q : Int) + 1) = false := beq_eq_false_iff_ne.2 hbb
                  have HN3 := Lib.hid (show ∀ i : Nat, 1 ≤ i → i ≤ q + 1 → ¬ (a = (p : Int) + 1 ∧ b = i ∧ a + b ≤ 4) from fun i h1 h2 => by
                    by_cases e : i = q + 1
                    · omega
                    · exact HN2.out i h1 (by omega))
                  clear ha hbb
                  go_wp2
                  go_roundw
                  case rel => exact ⟨q + 1, by omega, by go_num, HX2, HN3⟩
                  case measure => simp [intOf]; omega
              · have q1 : (a == (p : Int) + 1) = false := beq_eq_false_iff_ne.2 ha
                have HN3 := Lib.hid (show ∀ i : Nat, 1 ≤ i → i ≤ q + 1 → ¬ (a = (p : Int) + 1 ∧ b = i ∧ a + b ≤ 4) from fun i h1 h2 hh => ha hh.1)
                clear ha
                go_wp2
                go_roundw
                case rel => exact ⟨q + 1, by omega, by go_num, HX2, HN3⟩
                case measure => simp [intOf]; omega
            · have HN3 := Lib.hid (show ∀ i : Nat, 1 ≤ i → i ≤ p + 1 → ¬ (a = i ∧ 1 ≤ b ∧ a + b ≤ 4) from fun i h1 h2 hh => by
                by_cases e : i = p + 1
                · refine HN2.out b.toNat (by omega) (by omega) ⟨by omega, by omega, by omega⟩
                · exact HN.out i h1 (by omega) hh)
              go_wp2
              go_roundw
              case rel => exact ⟨p + 1, by omega, by go_num, HX2, HN3⟩
              case measure => simp [intOf]; omega
        · obtain rfl : p = 3 := by omega
          have hV := HV.out
          rw [if_neg (fun hh => HN.out a.toNat (by omega) (by omega) ⟨by omega, by omega, by omega⟩)] at hV
          subst hV
          go_wp2
          go_ret
          exact ⟨rfl, XW.out.trans HX.out⟩
    · have hV := hv2 h h8
      have e7 : (k == 8) = false := beq_eq_false_iff_ne.2 h8
      clear hv1 hv2 hv3 h HB
      by_cases ha : a = 0
      · by_cases hb : b = 0
        · cases f
          · rw [if_neg (by simp [ha, hb])] at hV
            subst hV
            go_enter Tryd.func61, Tryd.ntmps61
            go_wp2
            go_ret
            exact ⟨rfl, (Ext.refl w).alloc _⟩
          · rw [if_pos (by simp)] at hV
            subst hV
            go_enter Tryd.func61, Tryd.ntmps61
            go_wp2
            go_ret
            exact ⟨rfl, (Ext.refl w).alloc _⟩
        · rw [if_pos (.inr (.inl hb))] at hV
          have e8 : (b != 0) = true := by rw [bne, beq_eq_false_iff_ne.2 hb]; rfl
          subst hV
          go_enter Tryd.func61, Tryd.ntmps61
          go_wp2
          go_ret
          exact ⟨rfl, (Ext.refl w).alloc _⟩
      · rw [if_pos (.inl ha)] at hV
        have e8 : (a != 0) = true := by rw [bne, beq_eq_false_iff_ne.2 ha]; rfl
        subst hV
        go_enter Tryd.func61, Tryd.ntmps61
        go_wp2
        go_ret
        exact ⟨rfl, (Ext.refl w).alloc _⟩
end Go.Proofs.YtinijapkipeamaaDoor
/- ganseyref12.Needs, Makes. -/
namespace Go.Proofs.YtinijapkipeamaaDoor
set_option linter.unusedVariables false
set_option linter.unusedSimpArgs false
set_option maxRecDepth 8000
open Go Go.RowKit

set_option maxHeartbeats 2000000 in
theorem RNeeds_calls (s : St) (w : World) (hs : 0 ≤ s.k ∧ 0 ≤ s.y) : Calls Tryd.prog 43 #[s.val] w fun e w' => e = .returned (.int .i64 s.need) ∧ Ext w w' := by
  have HB := Lib.hid (fun w' (x : Ext (w.alloc (.cells #[.int .u8 s.k, .int .u8 s.y, .int .i64 s.a, .int .i64 s.b, .bool s.f] 52)) w') => ((B5.new w s 52).ext x).at)
  have HV := Lib.hid (fun w' => Valid_calls s w' hs)
  have hn : s.need = if s.chk ≠ 0 then 0 else if s.k = 3 then 0 else if s.k = 4 ∨ s.k = 5 then 2 else if s.k = 8 then s.a + s.b else 1 := rfl
  have hk := fun h => (St.chk_ok (s := s) h)
  have hv : s.vld = if s.chk = 0 then 1 else 0 := rfl
  obtain ⟨k, y, a, b, f⟩ := s
  unfold St.val at *
  simp only [] at hn hk HB HV hs ⊢
  generalize St.need ⟨k, y, a, b, f⟩ = N at hn ⊢
  generalize St.vld ⟨k, y, a, b, f⟩ = V at hv HV
  generalize St.chk ⟨k, y, a, b, f⟩ = C at hn hk hv
  by_cases hC : C = 0
  · rw [if_pos hC] at hv
    rw [if_neg (by omega)] at hn
    have hk := hk hC
    subst hv
    clear hC
    by_cases k3 : k = 3
    · rw [if_pos k3] at hn
      subst hn; subst k3
      clear hk
      go_enter Tryd.func43, Tryd.ntmps43
      go_wp2_with fail
      refine (HV.out _).mono ?_
      rintro e w1 ⟨rfl, x1⟩
      obtain ⟨c0, c1, c2, c3, c4⟩ := HB.out _ x1
      simp only [Nat.zero_add] at c0 c1 c2 c3 c4
      have X1 := Lib.hid (((Ext.refl w).alloc _).trans x1)
      clear x1 HV HB
      go_wp2
      go_ret
      exact ⟨rfl, X1.out⟩
    rw [if_neg k3] at hn
    have b3 : (k == 3) = false := beq_eq_false_iff_ne.2 k3
    by_cases k8 : k = 8
    · rw [if_neg (by omega), if_pos k8] at hn
      subst hn; subst k8
      have w1 : IntKind.i64.wrap (a + b) = a + b := IntWalk.i64_in _ ⟨by omega, by omega⟩
      clear hk k3 b3
      go_enter Tryd.func43, Tryd.ntmps43
      go_wp2_with fail
      refine (HV.out _).mono ?_
      rintro e w1 ⟨rfl, x1⟩
      obtain ⟨c0, c1, c2, c3, c4⟩ := HB.out _ x1
      simp only [Nat.zero_add] at c0 c1 c2 c3 c4
      have X1 := Lib.hid (((Ext.refl w).alloc _).trans x1)
      clear x1 HV HB
      go_wp2
      go_ret
      exact ⟨rfl, X1.out⟩
    have b8 : (k == 8) = false := beq_eq_false_iff_ne.2 k8
    by_cases k45 : k = 4 ∨ k = 5
    · rw [if_pos k45] at hn
      subst hn
      clear hk k3 b3 k8 b8
      rcases k45 with rfl | rfl
      all_goals
        go_enter Tryd.func43, Tryd.ntmps43
        go_wp2_with fail
        refine (HV.out _).mono ?_
        rintro e w1 ⟨rfl, x1⟩
        obtain ⟨c0, c1, c2, c3, c4⟩ := HB.out _ x1
        simp only [Nat.zero_add] at c0 c1 c2 c3 c4
        have X1 := Lib.hid (((Ext.refl w).alloc _).trans x1)
        clear x1 HV HB
        go_wp2
        go_ret
        exact ⟨rfl, X1.out⟩
    · rw [if_neg k45, if_neg k8] at hn
      subst hn
      have b4 : (k == 4) = false := beq_eq_false_iff_ne.2 (by omega)
      have b5 : (k == 5) = false := beq_eq_false_iff_ne.2 (by omega)
      clear hk k3 k8 k45
      go_enter Tryd.func43, Tryd.ntmps43
      go_wp2_with fail
      refine (HV.out _).mono ?_
      rintro e w1 ⟨rfl, x1⟩
      obtain ⟨c0, c1, c2, c3, c4⟩ := HB.out _ x1
      simp only [Nat.zero_add] at c0 c1 c2 c3 c4
      have X1 := Lib.hid (((Ext.refl w).alloc _).trans x1)
      clear x1 HV HB
      go_wp2
      go_ret
      exact ⟨rfl, X1.out⟩
  · rw [if_neg hC] at hv
    rw [if_pos hC] at hn
    subst hv; subst hn
    clear hC hk
    go_enter Tryd.func43, Tryd.ntmps43
    go_wp2_with fail
    refine (HV.out _).mono ?_
    rintro e w1 ⟨rfl, x1⟩
    have X1 := Lib.hid (((Ext.refl w).alloc _).trans x1)
    clear x1 HV HB
    go_wp2
    go_ret
    exact ⟨rfl, X1.out⟩

set_option maxHeartbeats 2000000 in
theorem RMakes_calls (s : St) (w : World) (hs : 0 ≤ s.k ∧ 0 ≤ s.y) : Calls Tryd.prog 45 #[s.val] w fun e w' => e = .returned (.int .i64 s.make) ∧ Ext w w' := by
  have HB := Lib.hid (fun w' (x : Ext (w.alloc (.cells #[.int .u8 s.k, .int .u8 s.y, .int .i64 s.a, .int .i64 s.b, .bool s.f] 52)) w') => ((B5.new w s 52).ext x).at)
  have HV := Lib.hid (fun w' => Valid_calls s w' hs)
  have hn : s.make = if s.chk ≠ 0 then 0 else if s.k = 8 then s.a + s.b else 1 := rfl
  have hk := fun h => (St.chk_ok (s := s) h)
  have hv : s.vld = if s.chk = 0 then 1 else 0 := rfl
  obtain ⟨k, y, a, b, f⟩ := s
  unfold St.val at *
  simp only [] at hn hk HB HV hs ⊢
  generalize St.make ⟨k, y, a, b, f⟩ = N at hn ⊢
  generalize St.vld ⟨k, y, a, b, f⟩ = V at hv HV
  generalize St.chk ⟨k, y, a, b, f⟩ = C at hn hk hv
  by_cases hC : C = 0
  · rw [if_pos hC] at hv
    rw [if_neg (by omega)] at hn
    have hk := hk hC
    subst hv
    clear hC
    by_cases k8 : k = 8
    · rw [if_pos k8] at hn
      subst hn; subst k8
      have w1 : IntKind.i64.wrap (a + b) = a + b := IntWalk.i64_in _ ⟨by omega, by omega⟩
      clear hk
      go_enter Tryd.func45, Tryd.ntmps45
      go_wp2_with fail
      refine (HV.out _).mono ?_
      rintro e w1 ⟨rfl, x1⟩
      obtain ⟨c0, c1, c2, c3, c4⟩ := HB.out _ x1
      simp only [Nat.zero_add] at c0 c1 c2 c3 c4
      have X1 := Lib.hid (((Ext.refl w).alloc _).trans x1)
      clear x1 HV HB
      go_wp2
      go_ret
      exact ⟨rfl, X1.out⟩
    · rw [if_neg k8] at hn
      subst hn
      have b8 : (k == 8) = false := beq_eq_false_iff_ne.2 k8
      clear hk k8
      go_enter Tryd.func45, Tryd.ntmps45
      go_wp2_with fail
      refine (HV.out _).mono ?_
      rintro e w1 ⟨rfl, x1⟩
      obtain ⟨c0, c1, c2, c3, c4⟩ := HB.out _ x1
      simp only [Nat.zero_add] at c0 c1 c2 c3 c4
      have X1 := Lib.hid (((Ext.refl w).alloc _).trans x1)
      clear x1 HV HB
      go_wp2
      go_ret
      exact ⟨rfl, X1.out⟩
  · rw [if_neg hC] at hv
    rw [if_pos hC] at hn
    subst hv; subst hn
    clear hC hk
    go_enter Tryd.func45, Tryd.ntmps45
    go_wp2_with fail
    refine (HV.out _).mono ?_
    rintro e w1 ⟨rfl, x1⟩
    have X1 := Lib.hid (((Ext.refl w).alloc _).trans x1)
    clear x1 HV HB
    go_wp2
    go_ret
    exact ⟨rfl, X1.out⟩
end Go.Proofs.YtinijapkipeamaaDoor
/- Contracts of charts.total, Needs, Makes. -/
namespace Go.Proofs.YtinijapkipeamaaDoor
set_option linter.unusedVariables false
set_option linter.unusedSimpArgs false
set_option maxRecDepth 8000
open Go Go.RowKit

set_option maxHeartbeats 1000000 in
theorem total_Needs (v : Value) (c : Nat) (l : List St) (w : World) (h : RS w v c l) (hl : l.length ≤ 1000000) : Calls Tryd.prog 56 #[v, .func (Fn.func 54) #[] #[]] w fun e w' => e = .returned (.int .i64 (rneed l)) ∧ Ext w w' := by
  obtain ⟨ao, n, rfl, hn, hc, hcm, hat⟩ := h.open
  have hst : ∀ k, k < n → rneed (l.take (k + 1)) = rneed (l.take k) + St.need (si l k) := fun k hk => by rw [take_succ_si (by omega), rneed_snoc]
  have hbd : ∀ k, k ≤ n → 0 ≤ rneed (l.take k) ∧ rneed (l.take k) ≤ 4000000 := fun k hk => by
    have := rneed_bd (l.take k)
    rw [List.length_take] at this
    omega
  have hend : rneed (l.take n) = rneed l := by rw [hn, List.take_length]
  have hb1 := fun s => St.need_bd s
  rw [← hn] at hl
  have HA := Lib.hid hat; have HS := Lib.hid hst; have HB := Lib.hid hbd; have HE := Lib.hid hend; have HO := Lib.hid hb1
  clear hat hst hbd hend hb1 hn h
  unfold maxLen at hcm
  go_enter Tryd.func56, Tryd.ntmps56
  go_wp2
  go_loopw [5, 7, 10] (fun t _ i wr => ∃ k : Nat, k ≤ n ∧ i = .int .i64 k ∧ t = .int .i64 (rneed (l.take k)) ∧ Hid (Ext w wr)) (fun _ _ i _ => n - (intOf i).toNat)
  case atStart => exact ⟨0, Nat.zero_le _, rfl, rfl, Lib.hid (Ext.refl w)⟩
  case round =>
    obtain ⟨k, hk, rfl, rfl, Hx⟩ := hrel
    by_cases hlt : k < n
    · obtain ⟨b, o, rfl, h5⟩ := HA.out k hlt
      obtain ⟨c0, c1, c2, c3, c4⟩ := h5.ext Hx.out
      obtain ⟨g1, g2⟩ := HB.out k hk
      have hs := HS.out k hlt
      obtain ⟨g3, g4⟩ := HO.out (si l k)
      have hcall := fun w => SNeeds_calls (si l k) w
      obtain ⟨s, hse⟩ : ∃ s, s = si l k := ⟨_, rfl⟩
      rw [← hse] at c0 c1 c2 c3 c4 hs g3 g4 hcall
      obtain ⟨T, hT⟩ : ∃ T, T = rneed (l.take k) := ⟨_, rfl⟩
      rw [← hT] at g1 g2 hs ⊢
      obtain ⟨D, hD⟩ : ∃ D, D = St.need s := ⟨_, rfl⟩
      rw [← hD] at g3 g4 hs
      unfold St.val at hcall
      rw [← hD] at hcall
      have HCL := Lib.hid hcall; have HSS := Lib.hid hs
      clear hcall hs hse hT hD h5
      go_wp2_with fail
      refine (HCL.out _).mono ?_
      rintro e w1 ⟨rfl, x1⟩
      have HX := Lib.hid (Hx.out.trans (((Ext.refl wr).alloc _).trans x1))
      clear x1 c0 c1 c2 c3 c4 HCL
      go_wp2
      go_roundw
      case rel => exact ⟨k + 1, by omega, by go_num, by rw [HSS.out], HX⟩
      case measure => simp [intOf]; omega
    · obtain rfl : n = k := by omega
      rw [HE.out]
      go_wp2
      go_ret
      exact ⟨rfl, Hx.out⟩

theorem CNeeds_calls (v : Value) (c : Nat) (l : List St) (w : World) (h : RS w v c l) (hl : l.length ≤ 1000000) : Calls Tryd.prog 39 #[v] w fun e w' => e = .returned (.int .i64 (rneed l)) ∧ Ext w w' := by
  have hc := total_Needs v c l w h hl
  obtain ⟨ao, n, rfl, h0⟩ := h.open
  have HC := Lib.hid hc
  clear hc h hl h0
  go_enter Tryd.func39, Tryd.ntmps39
  go_wp2_with fail
  refine HC.out.mono ?_
  rintro e w1 ⟨rfl, x1⟩
  go_wp2
  go_ret
  exact ⟨rfl, x1⟩

set_option maxHeartbeats 1000000 in
theorem total_Makes (v : Value) (c : Nat) (l : List St) (w : World) (h : RS w v c l) (hl : l.length ≤ 1000000) : Calls Tryd.prog 56 #[v, .func (Fn.func 22) #[] #[]] w fun e w' => e = .returned (.int .i64 (rmake l)) ∧ Ext w w' := by
  obtain ⟨ao, n, rfl, hn, hc, hcm, hat⟩ := h.open
  have hst : ∀ k, k < n → rmake (l.take (k + 1)) = rmake (l.take k) + St.make (si l k) := fun k hk => by rw [take_succ_si (by omega), rmake_snoc]
  have hbd : ∀ k, k ≤ n → 0 ≤ rmake (l.take k) ∧ rmake (l.take k) ≤ 4000000 := fun k hk => by
    have := rmake_bd (l.take k)
    rw [List.length_take] at this
    omega
  have hend : rmake (l.take n) = rmake l := by rw [hn, List.take_length]
  have hb1 := fun s => St.make_bd s
  rw [← hn] at hl
  have HA := Lib.hid hat; have HS := Lib.hid hst; have HB := Lib.hid hbd; have HE := Lib.hid hend; have HO := Lib.hid hb1
  clear hat hst hbd hend hb1 hn h
  unfold maxLen at hcm
  go_enter Tryd.func56, Tryd.ntmps56
  go_wp2
  go_loopw [5, 7, 10] (fun t _ i wr => ∃ k : Nat, k ≤ n ∧ i = .int .i64 k ∧ t = .int .i64 (rmake (l.take k)) ∧ Hid (Ext w wr)) (fun _ _ i _ => n - (intOf i).toNat)
  case atStart => exact ⟨0, Nat.zero_le _, rfl, rfl, Lib.hid (Ext.refl w)⟩
  case round =>
    obtain ⟨k, hk, rfl, rfl, Hx⟩ := hrel
    by_cases hlt : k < n
    · obtain ⟨b, o, rfl, h5⟩ := HA.out k hlt
      obtain ⟨c0, c1, c2, c3, c4⟩ := h5.ext Hx.out
      obtain ⟨g1, g2⟩ := HB.out k hk
      have hs := HS.out k hlt
      obtain ⟨g3, g4⟩ := HO.out (si l k)
      have hcall := fun w => SMakes_calls (si l k) w
      obtain ⟨s, hse⟩ : ∃ s, s = si l k := ⟨_, rfl⟩
      rw [← hse] at c0 c1 c2 c3 c4 hs g3 g4 hcall
      obtain ⟨T, hT⟩ : ∃ T, T = rmake (l.take k) := ⟨_, rfl⟩
      rw [← hT] at g1 g2 hs ⊢
      obtain ⟨D, hD⟩ : ∃ D, D = St.make s := ⟨_, rfl⟩
      rw [← hD] at g3 g4 hs
      unfold St.val at hcall
      rw [← hD] at hcall
      have HCL := Lib.hid hcall; have HSS := Lib.hid hs
      clear hcall hs hse hT hD h5
      go_wp2_with fail
      refine (HCL.out _).mono ?_
      rintro e w1 ⟨rfl, x1⟩
      have HX := Lib.hid (Hx.out.trans (((Ext.refl wr).alloc _).trans x1))
      clear x1 c0 c1 c2 c3 c4 HCL
      go_wp2
      go_roundw
      case rel => exact ⟨k + 1, by omega, by go_num, by rw [HSS.out], HX⟩
      case measure => simp [intOf]; omega
    · obtain rfl : n = k := by omega
      rw [HE.out]
      go_wp2
      go_ret
      exact ⟨rfl, Hx.out⟩

theorem CMakes_calls (v : Value) (c : Nat) (l : List St) (w : World) (h : RS w v c l) (hl : l.length ≤ 1000000) : Calls Tryd.prog 40 #[v] w fun e w' => e = .returned (.int .i64 (rmake l)) ∧ Ext w w' := by
  have hc := total_Makes v c l w h hl
  obtain ⟨ao, n, rfl, h0⟩ := h.open
  have HC := Lib.hid hc
  clear hc h hl h0
  go_enter Tryd.func40, Tryd.ntmps40
  go_wp2_with fail
  refine HC.out.mono ?_
  rintro e w1 ⟨rfl, x1⟩
  go_wp2
  go_ret
  exact ⟨rfl, x1⟩
end Go.Proofs.YtinijapkipeamaaDoor
