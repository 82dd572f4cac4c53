/- The texts of words, in plain Lean: the fields between spaces, what a field reads as, and that text and fields invert each other. No program in sight. -/
import Derived.Test.YtbappfeojdehgaaDoorLib
import Derived.Lib.SplitLaws
import Derived.Lib.ItoaNum
import Derived.Lib.Join
namespace Go.Proofs.YtbappfeojdehgaaDoor
set_option linter.unusedVariables false
set_option linter.unusedSimpArgs false
open Go Go.RowKit

/-- The pieces between spaces. -/
def fields : List UInt8 → List (List UInt8)
  | [] => [[]]
  | b :: l => if b = 32 then [] :: fields l else
      match fields l with
      | [] => [[b]]
      | p :: ps => (b :: p) :: ps

theorem fields_ne : ∀ l, fields l ≠ []
  | [] => by simp [fields]
  | b :: l => by
    unfold fields
    split
    · simp
    · split <;> simp
theorem fields_some (l : List UInt8) : ∃ p ps, fields l = p :: ps := by
  cases h : fields l with
  | nil => exact absurd h (fields_ne l)
  | cons p ps => exact ⟨p, ps, rfl⟩
theorem fields_nil : fields [] = [[]] := rfl
theorem fields_sp (l : List UInt8) : fields (32 :: l) = [] :: fields l := by
  rw [fields, if_pos rfl]
theorem fields_cons {b : UInt8} {l p : List UInt8} {ps : List (List UInt8)} (h : b ≠ 32) (e : fields l = p :: ps) : fields (b :: l) = (b :: p) :: ps := by
  rw [fields, if_neg h, e]

theorem index_sp (l : List UInt8) : Lib.index (32 :: l) [32] = 0 := by
  rw [Lib.index]; simp [List.isPrefixOf]
theorem index_ns {b : UInt8} {l : List UInt8} (h : b ≠ 32) : Lib.index (b :: l) [32] = if Lib.index l [32] == -1 then -1 else Lib.index l [32] + 1 := by
  have hp : ([32] : List UInt8).isPrefixOf (b :: l) = false := by simp [List.isPrefixOf, Ne.symm h]
  rw [Lib.index, hp]; simp

theorem splitK_hit {k : Nat} {l : List UInt8} {j : Nat} (h : Lib.index l [32] = (j : Int)) : Lib.splitK [32] 0 (k + 1) l = l.take j :: Lib.splitK [32] 0 k (l.drop (j + 1)) := by
  have hm : ¬ (Lib.index l [32] == -1) = true := fun e => by have := beq_iff_eq.1 e; omega
  rw [Lib.splitK, if_neg hm, h]
  rfl

theorem split_fields : ∀ l : List UInt8, Lib.splitK [32] 0 (Lib.count l [32]) l = fields l
  | [] => by rw [Lib.count_miss (by simp [Lib.index])]; rfl
  | b :: l => by
    have ih := split_fields l
    by_cases h : b = 32
    · subst h
      rw [Lib.count_cons_eq, Nat.add_comm, splitK_hit (j := 0) (by rw [index_sp]; rfl), fields_sp]
      simp only [List.take_zero, Nat.zero_add, List.drop_succ_cons, List.drop_zero]
      rw [ih]
    · rw [Lib.count_cons_ne _ _ _ h]
      by_cases hm : Lib.index l [32] = -1
      · rw [Lib.count_miss hm] at ih ⊢
        have ih' : [l] = fields l := ih
        rw [fields_cons h ih'.symm]
        rfl
      · have hge := Lib.index_ge l [32]
        obtain ⟨j, hj⟩ : ∃ j : Nat, Lib.index l [32] = j := ⟨(Lib.index l [32]).toNat, by omega⟩
        have hj' : Lib.index (b :: l) [32] = ((j + 1 : Nat) : Int) := by rw [index_ns h, if_neg (fun e => hm (beq_iff_eq.1 e)), hj]; omega
        rw [Lib.count_hit (by simp) hj, Nat.add_comm, splitK_hit hj] at ih
        rw [Lib.count_hit (by simp) hj, Nat.add_comm, splitK_hit hj', fields_cons h ih.symm]
        simp

/-! ### What a field reads as -/
def pw : List UInt8 → Option Int
  | [d] => if 49 ≤ d.toNat ∧ d.toNat ≤ 55 then some ((d.toNat : Int) - 48) else none
  | [m, d] => if m = 45 ∧ 49 ≤ d.toNat ∧ d.toNat ≤ 55 then some (-((d.toNat : Int) - 48)) else none
  | _ => none
def pv (p : List UInt8) : Int := (pw p).getD 0
def pok (p : List UInt8) : Bool := (pw p).isSome
def fitsT (l : List UInt8) : Bool := (fields l).all pok
def vals (l : List UInt8) : List Int := (fields l).map pv
/-- The word with a text. -/
def parseT (l : List UInt8) : Option (List Int) := if l = [45] then some [] else if 64 < (fields l).length then none else if fitsT l then some (vals l) else none

theorem pw_nil : pw [] = none := rfl
theorem pw_one {d : UInt8} (h : 49 ≤ d.toNat ∧ d.toNat ≤ 55) : pw [d] = some ((d.toNat : Int) - 48) := if_pos h
theorem pw_one_no {d : UInt8} (h : ¬ (49 ≤ d.toNat ∧ d.toNat ≤ 55)) : pw [d] = none := if_neg h
theorem pw_two {d : UInt8} (h : 49 ≤ d.toNat ∧ d.toNat ≤ 55) : pw [45, d] = some (-((d.toNat : Int) - 48)) := if_pos ⟨rfl, h⟩
theorem pw_two_no {m d : UInt8} (h : ¬ (m = 45 ∧ 49 ≤ d.toNat ∧ d.toNat ≤ 55)) : pw [m, d] = none := if_neg h
theorem pw_more (a b c : UInt8) (l : List UInt8) : pw (a :: b :: c :: l) = none := rfl

/-- A letter. -/
def Lt7 (k : Int) : Prop := k ≠ 0 ∧ -7 ≤ k ∧ k ≤ 7
theorem itoa_pos {k : Int} (h0 : 1 ≤ k) (h1 : k ≤ 7) : Lib.itoa k = [UInt8.ofNat (48 + k.toNat)] := by
  unfold Lib.itoa
  rw [if_neg (by omega), Lib.decDigits, dif_pos (by omega)]
theorem itoa_neg {k : Int} (h0 : -7 ≤ k) (h1 : k ≤ -1) : Lib.itoa k = [45, UInt8.ofNat (48 + k.natAbs)] := by
  unfold Lib.itoa
  rw [if_pos (by omega), Lib.decDigits, dif_pos (by omega)]
theorem dig_nat {n : Nat} (h : n ≤ 9) : (UInt8.ofNat (48 + n)).toNat = 48 + n := by rw [UInt8.toNat_ofNat']; omega
theorem pw_itoa {k : Int} (h : Lt7 k) : pw (Lib.itoa k) = some k := by
  obtain ⟨h0, h1, h2⟩ := h
  by_cases hk : 0 < k
  · rw [itoa_pos (by omega) h2, pw_one (by rw [dig_nat (by omega)]; omega), dig_nat (by omega)]
    congr 1; omega
  · rw [itoa_neg h1 (by omega), pw_two (by rw [dig_nat (by omega)]; omega), dig_nat (by omega)]
    congr 1; omega
theorem itoa_sp {k : Int} (h : Lt7 k) : (32 : UInt8) ∉ Lib.itoa k := by
  obtain ⟨h0, h1, h2⟩ := h
  have hd : ∀ n : Nat, n ≤ 9 → ((32 : UInt8) ≠ UInt8.ofNat (48 + n)) := fun n hn e => by
    have := congrArg UInt8.toNat e
    rw [dig_nat hn] at this
    have h32 : (32 : UInt8).toNat = 32 := rfl
    omega
  by_cases hk : 0 < k
  · rw [itoa_pos (by omega) h2]
    simpa using hd k.toNat (by omega)
  · rw [itoa_neg h1 (by omega)]
    have := hd k.natAbs (by omega)
    simp only [List.mem_cons, List.not_mem_nil, or_false, not_or]
    exact ⟨by decide, this⟩
theorem itoa_len {k : Int} (h : Lt7 k) : (Lib.itoa k).length ≤ 2 := by
  obtain ⟨h0, h1, h2⟩ := h
  by_cases hk : 0 < k
  · rw [itoa_pos (by omega) h2]; simp
  · rw [itoa_neg h1 (by omega)]; simp
theorem ofNat_dig {d : UInt8} {n : Nat} (h : 48 + n = d.toNat) : UInt8.ofNat (48 + n) = d := by
  rw [h]; simp
theorem pw_back {p : List UInt8} {k : Int} (h : pw p = some k) : Lt7 k ∧ Lib.itoa k = p := by
  unfold pw at h
  split at h
  · split at h
    · rename_i d hd
      obtain rfl := Option.some.inj h
      refine ⟨⟨by omega, by omega, by omega⟩, ?_⟩
      rw [itoa_pos (by omega) (by omega), ofNat_dig (d := d) (by omega)]
    · cases h
  · split at h
    · rename_i m d hd
      obtain ⟨rfl, hd⟩ := hd
      obtain rfl := Option.some.inj h
      refine ⟨⟨by omega, by omega, by omega⟩, ?_⟩
      rw [itoa_neg (by omega) (by omega), ofNat_dig (d := d) (by omega)]
    · cases h
  · cases h

/-! ### Text -/
def txt (w : List Int) : List UInt8 := if w = [] then [45] else Lib.join (w.map Lib.itoa) [32]

theorem join_two (x y : List UInt8) (r : List (List UInt8)) : Lib.join (x :: y :: r) [32] = x ++ 32 :: Lib.join (y :: r) [32] := by
  rw [Lib.join_cons, Lib.join_cons]; simp [Lib.joinTail]
theorem join_fields : ∀ l : List UInt8, Lib.join (fields l) [32] = l
  | [] => by rw [fields_nil, Lib.join_one]
  | b :: l => by
    have ih := join_fields l
    obtain ⟨p, ps, e⟩ := fields_some l
    rw [e] at ih
    by_cases h : b = 32
    · subst h
      rw [fields_sp, e, join_two, ih]; rfl
    · rw [fields_cons h e]
      rw [Lib.join_cons] at ih ⊢
      rw [List.cons_append, ih]
theorem fields_app {x : List UInt8} (h : (32 : UInt8) ∉ x) (l : List UInt8) : fields (x ++ 32 :: l) = x :: fields l := by
  induction x with
  | nil => exact fields_sp l
  | cons b x ih =>
    simp only [List.mem_cons, not_or] at h
    exact fields_cons (fun e => h.1 e.symm) (ih h.2)
theorem fields_only {x : List UInt8} (h : (32 : UInt8) ∉ x) : fields x = [x] := by
  induction x with
  | nil => rfl
  | cons b x ih =>
    simp only [List.mem_cons, not_or] at h
    exact fields_cons (fun e => h.1 e.symm) (ih h.2)
theorem fields_join : ∀ xs : List (List UInt8), xs ≠ [] → (∀ x ∈ xs, (32 : UInt8) ∉ x) → fields (Lib.join xs [32]) = xs
  | [], h, _ => absurd rfl h
  | [x], _, h => by rw [Lib.join_one, fields_only (h x (by simp))]
  | x :: y :: r, _, h => by
    rw [join_two, fields_app (h x (by simp)), fields_join (y :: r) (by simp) (fun z hz => h z (by simp at hz ⊢; exact .inr hz))]

theorem pv_itoa {k : Int} (h : Lt7 k) : pv (Lib.itoa k) = k := by unfold pv; rw [pw_itoa h]; rfl
theorem fields_txt {w : List Int} (h0 : w ≠ []) (hw : ∀ k ∈ w, Lt7 k) : fields (txt w) = w.map Lib.itoa := by
  unfold txt
  rw [if_neg h0, fields_join _ (by simpa using h0) (fun x hx => by
    obtain ⟨k, hk, rfl⟩ := List.mem_map.1 hx
    exact itoa_sp (hw k hk))]
theorem fits_txt {w : List Int} (h0 : w ≠ []) (hw : ∀ k ∈ w, Lt7 k) : fitsT (txt w) = true := by
  unfold fitsT
  rw [fields_txt h0 hw, List.all_eq_true]
  intro x hx
  obtain ⟨k, hk, rfl⟩ := List.mem_map.1 hx
  unfold pok; rw [pw_itoa (hw k hk)]; rfl
theorem vals_txt {w : List Int} (h0 : w ≠ []) (hw : ∀ k ∈ w, Lt7 k) : vals (txt w) = w := by
  unfold vals
  rw [fields_txt h0 hw, List.map_map]
  have : ∀ k ∈ w, (pv ∘ Lib.itoa) k = id k := fun k hk => pv_itoa (hw k hk)
  rw [List.map_congr_left this, List.map_id]
theorem txt_dash {w : List Int} (h0 : w ≠ []) (hw : ∀ k ∈ w, Lt7 k) : txt w ≠ [45] := by
  intro e
  have h := fits_txt h0 hw
  rw [e] at h
  exact absurd h (by decide)
theorem parse_txt {w : List Int} (hw : ∀ k ∈ w, Lt7 k) (hl : w.length ≤ 64) : parseT (txt w) = some w := by
  by_cases h0 : w = []
  · subst h0; rfl
  · unfold parseT
    rw [if_neg (txt_dash h0 hw), if_neg (by rw [fields_txt h0 hw, List.length_map]; omega), if_pos (fits_txt h0 hw), vals_txt h0 hw]
theorem parse_long {w : List Int} (hw : ∀ k ∈ w, Lt7 k) (hl : 64 < w.length) : parseT (txt w) = none := by
  have h0 : w ≠ [] := by rintro rfl; simp at hl
  unfold parseT
  rw [if_neg (txt_dash h0 hw), if_pos (by rw [fields_txt h0 hw, List.length_map]; omega)]
theorem txt_parse {l : List UInt8} {w : List Int} (h : parseT l = some w) : txt w = l ∧ w.length ≤ 64 ∧ ∀ k ∈ w, Lt7 k := by
  unfold parseT at h
  split at h
  · rename_i hd
    obtain rfl := Option.some.inj h
    exact ⟨hd.symm, by simp, by simp⟩
  · split at h
    · cases h
    · rename_i hlen
      split at h
      · rename_i hf
        obtain rfl := Option.some.inj h
        have hall : ∀ p ∈ fields l, Lt7 (pv p) ∧ Lib.itoa (pv p) = p := fun p hp => by
          have := (List.all_eq_true.1 hf) p hp
          unfold pok at this
          obtain ⟨k, hk⟩ := Option.isSome_iff_exists.1 this
          have := pw_back hk
          unfold pv; rw [hk]; exact this
        refine ⟨?_, by unfold vals; rw [List.length_map]; omega, fun k hk => ?_⟩
        · unfold txt vals
          rw [if_neg (by simpa using fields_ne l), List.map_map]
          have : ∀ p ∈ fields l, (Lib.itoa ∘ pv) p = id p := fun p hp => (hall p hp).2
          rw [List.map_congr_left this, List.map_id, join_fields]
        · obtain ⟨p, hp, rfl⟩ := List.mem_map.1 hk
          exact (hall p hp).1
      · cases h

theorem txt_len {w : List Int} (hw : ∀ k ∈ w, Lt7 k) : (txt w).length ≤ 3 * w.length + 1 := by
  unfold txt
  split
  · simp
  · rename_i h0
    suffices h : ∀ u : List Int, (∀ k ∈ u, Lt7 k) → (Lib.join (u.map Lib.itoa) [32]).length ≤ 3 * u.length by have := h w hw; omega
    intro u
    induction u with
    | nil => intro _; rw [List.map_nil, Lib.join_nil]; simp
    | cons k u ih =>
      intro hu
      have h1 := itoa_len (hu k (by simp))
      have h2 := ih (fun k hk => hu k (by simp [hk]))
      cases u with
      | nil => rw [List.map_cons, List.map_nil, Lib.join_one]; simp; omega
      | cons y u =>
        rw [List.map_cons, List.map_cons, join_two, ← List.map_cons]
        simp only [List.length_append, List.length_cons] at h2 ⊢
        omega

/-! ### Scanning -/
/-- Byte i. -/
def bat (l : List UInt8) (i : Nat) : Int := ((l.getD i 0).toNat : Int)
theorem bat_at {l : List UInt8} {i : Nat} (h : i < l.length) : bat l i = ((l[i]).toNat : Int) := by
  unfold bat; rw [List.getD_eq_getElem?_getD, List.getElem?_eq_getElem h]; rfl
theorem drop_at {l : List UInt8} {i : Nat} (h : i < l.length) : l.drop i = l[i] :: l.drop (i + 1) := List.drop_eq_getElem_cons h
theorem byte_of {b : UInt8} {n : Nat} (hn : n < 256) (h : (b.toNat : Int) = n) : b = UInt8.ofNat n := by
  apply UInt8.toNat_inj.1
  rw [UInt8.toNat_ofNat']; omega
theorem byte_ne {b : UInt8} {n : Nat} (h : (b.toNat : Int) ≠ n) (hn : n < 256) : b ≠ UInt8.ofNat n := by
  rintro rfl
  rw [UInt8.toNat_ofNat'] at h
  omega

/-- What stands at i: m = 1 if there is a sign. -/
def Sign (l : List UInt8) (i m : Nat) : Prop := (m = 0 ∧ ¬ (i < l.length ∧ bat l i = 45)) ∨ (m = 1 ∧ i < l.length ∧ bat l i = 45)
def sg (m : Nat) : Int := if m = 0 then 1 else -1

theorem scan_bad {l : List UInt8} {i m : Nat} (hs : Sign l i m) (h : ¬ (i + m < l.length ∧ 49 ≤ bat l (i + m) ∧ bat l (i + m) ≤ 55)) : ∃ p ps, fields (l.drop i) = p :: ps ∧ pw p = none := by
  rcases hs with ⟨rfl, h0⟩ | ⟨rfl, h1, h2⟩
  · rw [Nat.add_zero] at h
    by_cases hi : i < l.length
    · rw [drop_at hi]
      rw [bat_at hi] at h h0
      obtain ⟨q, qs, e⟩ := fields_some (l.drop (i + 1))
      by_cases hb : l[i] = 32
      · rw [hb, fields_sp]; exact ⟨_, _, rfl, rfl⟩
      · rw [fields_cons hb e]
        refine ⟨_, _, rfl, ?_⟩
        cases q with
        | nil => exact pw_one_no (fun hh => h ⟨hi, by omega, by omega⟩)
        | cons c q =>
          cases q with
          | nil => exact pw_two_no (fun hh => h0 ⟨hi, by rw [hh.1]; rfl⟩)
          | cons d q => exact pw_more _ _ _ _
    · rw [List.drop_eq_nil_of_le (by omega)]
      exact ⟨_, _, rfl, rfl⟩
  · rw [bat_at h1] at h2
    have hb : l[i] = 45 := byte_of (n := 45) (by omega) h2
    rw [drop_at h1, hb]
    by_cases hi : i + 1 < l.length
    · rw [drop_at hi]
      rw [bat_at hi] at h
      obtain ⟨q, qs, e⟩ := fields_some (l.drop (i + 1 + 1))
      by_cases hb : l[i + 1] = 32
      · rw [hb, fields_cons (by decide) (fields_sp _)]; exact ⟨_, _, rfl, by decide⟩
      · rw [fields_cons (by decide) (fields_cons hb e)]
        refine ⟨_, _, rfl, ?_⟩
        cases q with
        | nil => exact pw_two_no (fun hh => h ⟨hi, by omega, by omega⟩)
        | cons c q => exact pw_more _ _ _ _
    · rw [List.drop_eq_nil_of_le (by omega), fields_cons (by decide) fields_nil]
      exact ⟨_, _, rfl, by decide⟩

theorem scan_end {l : List UInt8} {i m : Nat} (hs : Sign l i m) (hj : i + m < l.length) (h1 : 49 ≤ bat l (i + m)) (h2 : bat l (i + m) ≤ 55) (he : i + m + 1 = l.length) : ∃ p, fields (l.drop i) = [p] ∧ pw p = some (sg m * (bat l (i + m) - 48)) := by
  have hn : l[i + m] ≠ 32 := byte_ne (n := 32) (by rw [← bat_at hj]; omega) (by omega)
  have hd := drop_at hj
  rw [(List.drop_eq_nil_of_le (by omega) : l.drop (i + m + 1) = [])] at hd
  rw [bat_at hj] at h1 h2 ⊢
  have hr : 49 ≤ (l[i + m]).toNat ∧ (l[i + m]).toNat ≤ 55 := ⟨by omega, by omega⟩
  rcases hs with ⟨rfl, h0⟩ | ⟨rfl, k1, k2⟩
  · refine ⟨[l[i + 0]], ?_, ?_⟩
    · rw [show l.drop i = l.drop (i + 0) from rfl, hd]
      exact fields_cons hn fields_nil
    · rw [pw_one hr]; simp [sg]
  · rw [bat_at k1] at k2
    have hb : l[i] = 45 := byte_of (n := 45) (by omega) k2
    refine ⟨[45, l[i + 1]], ?_, ?_⟩
    · rw [drop_at k1, hb, hd]
      exact fields_cons (by decide) (fields_cons hn fields_nil)
    · rw [pw_two hr]; simp [sg]

theorem scan_next {l : List UInt8} {i m : Nat} (hs : Sign l i m) (hj : i + m < l.length) (h1 : 49 ≤ bat l (i + m)) (h2 : bat l (i + m) ≤ 55) (he : i + m + 1 < l.length) (hsp : bat l (i + m + 1) = 32) : ∃ p, fields (l.drop i) = p :: fields (l.drop (i + m + 2)) ∧ pw p = some (sg m * (bat l (i + m) - 48)) := by
  have hn : l[i + m] ≠ 32 := byte_ne (n := 32) (by rw [← bat_at hj]; omega) (by omega)
  have hd := drop_at hj
  rw [drop_at he] at hd
  rw [bat_at he] at hsp
  rw [byte_of (n := 32) (by omega) hsp] at hd
  rw [bat_at hj] at h1 h2 ⊢
  have hr : 49 ≤ (l[i + m]).toNat ∧ (l[i + m]).toNat ≤ 55 := ⟨by omega, by omega⟩
  rcases hs with ⟨rfl, h0⟩ | ⟨rfl, k1, k2⟩
  · refine ⟨[l[i + 0]], ?_, ?_⟩
    · rw [show l.drop i = l.drop (i + 0) from rfl, hd]
      exact fields_cons hn (fields_sp _)
    · rw [pw_one hr]; simp [sg]
  · rw [bat_at k1] at k2
    have hb : l[i] = 45 := byte_of (n := 45) (by omega) k2
    refine ⟨[45, l[i + 1]], ?_, ?_⟩
    · rw [drop_at k1, hb, hd]
      exact fields_cons (by decide) (fields_cons hn (fields_sp _))
    · rw [pw_two hr]; simp [sg]

theorem scan_tail {l : List UInt8} {i m : Nat} (hs : Sign l i m) (hj : i + m < l.length) (h1 : 49 ≤ bat l (i + m)) (h2 : bat l (i + m) ≤ 55) (he : i + m + 1 < l.length) (hsp : bat l (i + m + 1) ≠ 32) : ∃ p ps, fields (l.drop i) = p :: ps ∧ pw p = none := by
  have hn : l[i + m] ≠ 32 := byte_ne (n := 32) (by rw [← bat_at hj]; omega) (by omega)
  have hd := drop_at hj
  rw [drop_at he] at hd
  rw [bat_at he] at hsp
  have hn2 : l[i + m + 1] ≠ 32 := byte_ne (n := 32) hsp (by omega)
  have hn3 : l[i + m] ≠ 45 := byte_ne (n := 45) (by rw [← bat_at hj]; omega) (by omega)
  rw [bat_at hj] at h1 h2
  obtain ⟨q, qs, e⟩ := fields_some (l.drop (i + m + 1 + 1))
  rcases hs with ⟨rfl, h0⟩ | ⟨rfl, k1, k2⟩
  · refine ⟨_, _, by rw [show l.drop i = l.drop (i + 0) from rfl, hd]; exact fields_cons hn (fields_cons hn2 e), ?_⟩
    cases q with
    | nil => exact pw_two_no (fun hh => hn3 hh.1)
    | cons c q => exact pw_more _ _ _ _
  · rw [bat_at k1] at k2
    have hb : l[i] = 45 := byte_of (n := 45) (by omega) k2
    exact ⟨_, _, by rw [drop_at k1, hb, hd]; exact fields_cons (by decide) (fields_cons hn (fields_cons hn2 e)), pw_more _ _ _ _⟩
end Go.Proofs.YtbappfeojdehgaaDoor
