/- Stitches in plain Lean: what is valid, needed and made; how they lie in memory. -/
import Derived.Test.YtinijapkipeamaaDoorLib
import Derived.Test.YtinijapkipeamaaDoorLibb
namespace Go.Proofs.YtinijapkipeamaaDoor
set_option linter.unusedVariables false
set_option linter.unusedSimpArgs false
open Go Go.RowKit

/-- A stitch. -/
structure St where
  k : Int
  y : Int
  a : Int
  b : Int
  f : Bool
deriving DecidableEq
namespace St
/-- Its fields lie in their types. -/
def In (s : St) : Prop := (0 ≤ s.k ∧ s.k ≤ 255) ∧ (0 ≤ s.y ∧ s.y ≤ 255) ∧ (-9223372036854775808 ≤ s.a ∧ s.a ≤ 9223372036854775807) ∧ (-9223372036854775808 ≤ s.b ∧ s.b ≤ 9223372036854775807)
/-- As it lies in memory. -/
def cs (s : St) : List Value := [.int .u8 s.k, .int .u8 s.y, .int .i64 s.a, .int .i64 s.b, .bool s.f]
/-- As a value. -/
def val (s : St) : Value := .agg #[.int .u8 s.k, .int .u8 s.y, .int .i64 s.a, .int .i64 s.b, .bool s.f]
def none : St := ⟨0, 0, 0, 0, false⟩
def knit (y : Int) : St := ⟨1, y, 0, 0, false⟩
def over (y : Int) : St := ⟨3, y, 0, 0, false⟩
def two (y : Int) : St := ⟨4, y, 0, 0, false⟩
/-- The error of a stitch. -/
def chk (s : St) : Int :=
  if s.k < 1 ∨ 8 < s.k ∨ s.y < 1 ∨ 6 < s.y then 1
  else if s.k ≠ 8 then (if s.a ≠ 0 ∨ s.b ≠ 0 ∨ s.f = true then 1 else 0)
  else if s.a < 1 ∨ 4 < s.a ∨ s.b < 1 ∨ 4 - s.a < s.b then 1 else 0
def need (s : St) : Int := if chk s ≠ 0 then 0 else if s.k = 3 then 0 else if s.k = 4 ∨ s.k = 5 then 2 else if s.k = 8 then s.a + s.b else 1
def make (s : St) : Int := if chk s ≠ 0 then 0 else if s.k = 8 then s.a + s.b else 1
theorem chk_cases (s : St) : chk s = 0 ∨ chk s = 1 := by unfold chk; (repeat' split) <;> simp
theorem chk_ok {s : St} (h : chk s = 0) : (1 ≤ s.k ∧ s.k ≤ 8) ∧ (1 ≤ s.y ∧ s.y ≤ 6) ∧ ((s.k ≠ 8 ∧ s.a = 0 ∧ s.b = 0 ∧ s.f = false) ∨ (s.k = 8 ∧ 1 ≤ s.a ∧ s.a ≤ 3 ∧ 1 ≤ s.b ∧ s.b ≤ 3 ∧ s.a + s.b ≤ 4)) := by
  unfold chk at h
  by_cases h1 : s.k < 1 ∨ 8 < s.k ∨ s.y < 1 ∨ 6 < s.y
  · rw [if_pos h1] at h; omega
  rw [if_neg h1] at h
  refine ⟨by omega, by omega, ?_⟩
  by_cases h2 : s.k ≠ 8
  · rw [if_pos h2] at h
    by_cases h3 : s.a ≠ 0 ∨ s.b ≠ 0 ∨ s.f = true
    · rw [if_pos h3] at h; omega
    · refine .inl ⟨h2, by omega, by omega, ?_⟩
      cases hf : s.f
      · rfl
      · exact absurd (.inr (.inr hf)) h3
  · rw [if_neg h2] at h
    by_cases h3 : s.a < 1 ∨ 4 < s.a ∨ s.b < 1 ∨ 4 - s.a < s.b
    · rw [if_pos h3] at h; omega
    · exact .inr (by omega)
theorem need_bd (s : St) : 0 ≤ need s ∧ need s ≤ 4 := by
  unfold need
  split
  · omega
  · rename_i h
    have h := chk_ok (by simpa using h)
    repeat' split <;> omega
theorem make_bd (s : St) : 0 ≤ make s ∧ make s ≤ 4 := by
  unfold make
  split
  · omega
  · rename_i h
    have h := chk_ok (by simpa using h)
    split <;> omega
end St

/-! ### In memory -/
/-- Block b holds a stitch. -/
def B5 (w : World) (b : Nat) (s : St) (t : TypeId) : Prop := w.heap[b]? = some (.cells #[.int .u8 s.k, .int .u8 s.y, .int .i64 s.a, .int .i64 s.b, .bool s.f] t (0, 0))
/-- Five cells in a row hold a stitch. -/
def At5 (w : World) (b o : Nat) (s : St) : Prop :=
  w.cell? ⟨b, o, none⟩ = some (.int .u8 s.k) ∧ w.cell? ⟨b, o + 1, none⟩ = some (.int .u8 s.y) ∧ w.cell? ⟨b, o + 2, none⟩ = some (.int .i64 s.a) ∧ w.cell? ⟨b, o + 3, none⟩ = some (.int .i64 s.b) ∧ w.cell? ⟨b, o + 4, none⟩ = some (.bool s.f)
theorem At5.ext {w w' : World} {b o : Nat} {s : St} (h : At5 w b o s) (e : Ext w w') : At5 w' b o s :=
  ⟨e.cell h.1, e.cell h.2.1, e.cell h.2.2.1, e.cell h.2.2.2.1, e.cell h.2.2.2.2⟩
theorem B5.at {w : World} {b : Nat} {s : St} {t : TypeId} (h : B5 w b s t) : At5 w b 0 s := by
  unfold B5 at h; refine ⟨?_, ?_, ?_, ?_, ?_⟩ <;> simp [World.cell?, h]
theorem B5.fr {w : World} {b : Nat} {s : St} {t : TypeId} (h : B5 w b s t) (o : Nat) : w.frozen? ⟨b, o, none⟩ = false := by unfold B5 at h; simp [World.frozen?, h]
theorem B5.ext {w w' : World} {b : Nat} {s : St} {t : TypeId} (h : B5 w b s t) (e : Ext w w') : B5 w' b s t := Ext.block e h
theorem B5.new (w : World) (s : St) (t : TypeId) : B5 (w.alloc (.cells #[.int .u8 s.k, .int .u8 s.y, .int .i64 s.a, .int .i64 s.b, .bool s.f] t)) w.heap.size s t := Deep.blk_alloc_new _ _

def si (l : List St) (i : Nat) : St := l.getD i St.none
theorem si_of_lt {l : List St} {i : Nat} (h : i < l.length) : si l i = l[i] := by unfold si; simp [List.getD, h]
theorem si_mem {l : List St} {i : Nat} (h : i < l.length) : si l i ∈ l := by rw [si_of_lt h]; exact List.getElem_mem h
theorem si_ext {l m : List St} (hl : l.length = m.length) (h : ∀ i, i < l.length → si l i = si m i) : l = m := by
  apply List.ext_getElem hl
  intro i h1 h2
  have := h i h1
  rwa [si_of_lt h1, si_of_lt h2] at this
theorem take_succ_si {l : List St} {k : Nat} (h : k < l.length) : l.take (k + 1) = l.take k ++ [si l k] := by rw [si_of_lt h]; exact List.take_succ_eq_append_getElem h

/-- The slice value v, of capacity c, holds the stitches l. -/
def RS (w : World) (v : Value) (c : Nat) (l : List St) : Prop :=
  ∃ ao : Option Addr, v = .slice ao l.length c ∧ l.length ≤ c ∧ c ≤ maxLen ∧ (l = [] ∨ ∃ b o, ao = some ⟨b, o, none⟩ ∧ ∀ i, i < l.length → At5 w b (o + i * 5) (si l i))
theorem RS.ext {w w' : World} {v : Value} {c : Nat} {l : List St} (h : RS w v c l) (e : Ext w w') : RS w' v c l := by
  obtain ⟨ao, h1, h2, h3, h4⟩ := h
  refine ⟨ao, h1, h2, h3, ?_⟩
  rcases h4 with h4 | ⟨b, o, h5, h6⟩
  · exact .inl h4
  · exact .inr ⟨b, o, h5, fun i hi => (h6 i hi).ext e⟩
theorem RS.nil (w : World) : RS w (.slice none 0 0) 0 [] := ⟨none, rfl, Nat.le_refl _, by unfold maxLen; omega, .inl rfl⟩
theorem RS.open {w : World} {v : Value} {c : Nat} {l : List St} (h : RS w v c l) : ∃ ao n, v = .slice ao n c ∧ n = l.length ∧ n ≤ c ∧ c ≤ maxLen ∧ ∀ i, i < n → ∃ b o, ao = some ⟨b, o, none⟩ ∧ At5 w b (o + i * 5) (si l i) := by
  obtain ⟨ao, h1, h2, h3, h4⟩ := h
  refine ⟨ao, _, h1, rfl, h2, h3, fun i hi => ?_⟩
  rcases h4 with h4 | ⟨b, o, h5, h6⟩
  · rw [h4] at hi; simp at hi
  · exact ⟨b, o, h5, h6 i hi⟩

/-! ### Rows -/
def rneed (l : List St) : Int := (l.map St.need).foldl (· + ·) 0
def rmake (l : List St) : Int := (l.map St.make).foldl (· + ·) 0
theorem rneed_snoc (l : List St) (s : St) : rneed (l ++ [s]) = rneed l + s.need := by unfold rneed; simp
theorem rmake_snoc (l : List St) (s : St) : rmake (l ++ [s]) = rmake l + s.make := by unfold rmake; simp
theorem foldl_add (l : List Int) : ∀ x : Int, l.foldl (· + ·) x = x + l.foldl (· + ·) 0 := by
  induction l with
  | nil => intro x; simp
  | cons a l ih => intro x; simp only [List.foldl_cons]; rw [ih (x + a), ih (0 + a)]; omega
theorem rneed_cons (s : St) (l : List St) : rneed (s :: l) = s.need + rneed l := by unfold rneed; simp only [List.map_cons, List.foldl_cons]; rw [foldl_add]; omega
theorem rmake_cons (s : St) (l : List St) : rmake (s :: l) = s.make + rmake l := by unfold rmake; simp only [List.map_cons, List.foldl_cons]; rw [foldl_add]; omega
theorem rneed_bd (l : List St) : 0 ≤ rneed l ∧ rneed l ≤ 4 * l.length := by
  induction l with
  | nil => simp [rneed]
  | cons s l ih => rw [rneed_cons]; have := St.need_bd s; simp only [List.length_cons]; omega
theorem rmake_bd (l : List St) : 0 ≤ rmake l ∧ rmake l ≤ 4 * l.length := by
  induction l with
  | nil => simp [rmake]
  | cons s l ih => rw [rmake_cons]; have := St.make_bd s; simp only [List.length_cons]; omega
/-- The error of a row. -/
def rchk (l : List St) : Int :=
  if 16 < l.length then 3 else if l.length = 0 then 1 else if l.any (fun s => decide (s.chk ≠ 0)) then 1
  else if rneed l < 1 ∨ 16 < rneed l ∨ rmake l < 1 ∨ 16 < rmake l then 5 else 0

def sw (rows : List (List St)) (i : Nat) : List St := rows.getD i []
theorem sw_of_lt {rows : List (List St)} {i : Nat} (h : i < rows.length) : sw rows i = rows[i] := by unfold sw; simp [List.getD, h]
theorem take_succ_sw {l : List (List St)} {k : Nat} (h : k < l.length) : l.take (k + 1) = l.take k ++ [sw l k] := by rw [sw_of_lt h]; exact List.take_succ_eq_append_getElem h
/-- The slice value v, of capacity c, holds the rows. -/
def RR (w : World) (v : Value) (c : Nat) (rows : List (List St)) : Prop :=
  ∃ (ao : Option Addr) (vs : Nat → Value) (caps : Nat → Nat), v = .slice ao rows.length c ∧ rows.length ≤ c ∧ c ≤ maxLen ∧ (rows = [] ∨ ∃ b o, ao = some ⟨b, o, none⟩ ∧ ∀ i, i < rows.length → w.cell? ⟨b, o + i, none⟩ = some (vs i)) ∧ ∀ i, i < rows.length → RS w (vs i) (caps i) (sw rows i)
theorem RR.ext {w w' : World} {v : Value} {c : Nat} {rows : List (List St)} (h : RR w v c rows) (e : Ext w w') : RR w' v c rows := by
  obtain ⟨ao, vs, caps, h1, h2, h3, h4, h5⟩ := h
  refine ⟨ao, vs, caps, h1, h2, h3, ?_, fun i hi => (h5 i hi).ext e⟩
  rcases h4 with h4 | ⟨b, o, h6, h7⟩
  · exact .inl h4
  · exact .inr ⟨b, o, h6, fun i hi => e.cell (h7 i hi)⟩
theorem RR.nil (w : World) : RR w (.slice Option.none 0 0) 0 [] := ⟨Option.none, fun _ => undef, fun _ => 0, rfl, Nat.le_refl _, by unfold maxLen; omega, .inl rfl, fun i hi => by simp at hi⟩
theorem RR.open {w : World} {v : Value} {c : Nat} {rows : List (List St)} (h : RR w v c rows) : ∃ ao n, v = .slice ao n c ∧ n = rows.length ∧ n ≤ c ∧ c ≤ maxLen ∧
    ∀ i, i < n → ∃ b o a m d, ao = some ⟨b, o, none⟩ ∧ w.cell? ⟨b, o + i, none⟩ = some (.slice a m d) ∧ RS w (.slice a m d) d (sw rows i) := by
  obtain ⟨ao, vs, caps, h1, h2, h3, h4, h5⟩ := h
  refine ⟨ao, _, h1, rfl, h2, h3, fun i hi => ?_⟩
  rcases h4 with h4 | ⟨b, o, h6, h7⟩
  · rw [h4] at hi; simp at hi
  · obtain ⟨a, m, hv, _⟩ := (h5 i hi).open
    have hr := h5 i hi
    rw [hv] at hr
    exact ⟨b, o, a, m, _, h6, by rw [h7 i hi, hv], hr⟩
/-- The first error of a row. -/
def ferr : List (List St) → Int
  | [] => 0
  | r :: rs => if rchk r ≠ 0 then rchk r else ferr rs
theorem ferr_at : ∀ (rows : List (List St)) (k : Nat), k < rows.length → (∀ i, i < k → rchk (sw rows i) = 0) → rchk (sw rows k) ≠ 0 → ferr rows = rchk (sw rows k)
  | [], k, h, _, _ => by simp at h
  | r :: rs, 0, _, _, hb => if_pos hb
  | r :: rs, k + 1, h, hg, hb => by
    have h0 : rchk r = 0 := hg 0 (by omega)
    have e : sw (r :: rs) (k + 1) = sw rs k := by unfold sw; simp [List.getD]
    rw [e] at hb ⊢
    unfold ferr
    rw [if_neg (by omega)]
    exact ferr_at rs k (by simpa using h) (fun i hi => by
      have := hg (i + 1) (by omega)
      have e : sw (r :: rs) (i + 1) = sw rs i := by unfold sw; simp [List.getD]
      rwa [e] at this) hb
theorem ferr_ok : ∀ (rows : List (List St)), (∀ i, i < rows.length → rchk (sw rows i) = 0) → ferr rows = 0
  | [], _ => rfl
  | r :: rs, hg => by
    have h0 : rchk r = 0 := hg 0 (by simp)
    unfold ferr
    rw [if_neg (by omega)]
    exact ferr_ok rs (fun i hi => by
      have := hg (i + 1) (by simp; omega)
      have e : sw (r :: rs) (i + 1) = sw rs i := by unfold sw; simp [List.getD]
      rwa [e] at this)
/-- The rows fit on one another. -/
def fitB (rows : List (List St)) : Bool := (List.range (rows.length - 1)).all fun i => decide (rneed (sw rows (i + 1)) = rmake (sw rows i))
/-- The error of a chart but for the loops. -/
def cerr (rows : List (List St)) : Int := if 31 < rows.length then 3 else if rows.length % 2 = 0 then 1 else if ferr rows ≠ 0 then ferr rows else if fitB rows then 0 else 14
theorem rchk_zero {l : List St} (h : rchk l = 0) : l.length ≤ 16 ∧ 0 < l.length ∧ (∀ i, i < l.length → (si l i).chk = 0) ∧ 1 ≤ rneed l ∧ rneed l ≤ 16 ∧ 1 ≤ rmake l ∧ rmake l ≤ 16 := by
  unfold rchk at h
  by_cases h1 : 16 < l.length
  · rw [if_pos h1] at h; omega
  rw [if_neg h1] at h
  by_cases h2 : l.length = 0
  · rw [if_pos h2] at h; omega
  rw [if_neg h2] at h
  by_cases h3 : l.any (fun s => decide (s.chk ≠ 0)) = true
  · rw [if_pos h3] at h; omega
  rw [if_neg h3] at h
  by_cases h4 : rneed l < 1 ∨ 16 < rneed l ∨ rmake l < 1 ∨ 16 < rmake l
  · rw [if_pos h4] at h; omega
  refine ⟨by omega, by omega, fun i hi => ?_, by omega, by omega, by omega, by omega⟩
  rcases St.chk_cases (si l i) with e | e
  · exact e
  · exact absurd (List.any_eq_true.2 ⟨_, si_mem hi, by simp [e]⟩) h3
end Go.Proofs.YtinijapkipeamaaDoor
