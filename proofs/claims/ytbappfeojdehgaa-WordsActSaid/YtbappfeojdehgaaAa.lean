/- Words of the same braid, in plain Lean: whatever follows the letters and keeps the braid's laws is the same for both. No program in sight. -/
import Derived.Test.YtbappfeojdehgaaMj
import Derived.Test.YtbappfeojdehgaaWi
namespace Go.Proofs.Ytbappfeojdehgaa
set_option linter.unusedVariables false
set_option linter.unusedSimpArgs false
open Go Go.RowKit

/-- All letters are letters. -/
def Val (n : Int) (xs : List Int) : Prop := ∀ x ∈ xs, wbad n x = false
theorem Val.app {n : Int} {x y : List Int} (h : Val n x) (k : Val n y) : Val n (x ++ y) := fun z hz => by
  rcases List.mem_append.1 hz with hz | hz
  · exact h z hz
  · exact k z hz
theorem Val.left {n : Int} {x y : List Int} (h : Val n (x ++ y)) : Val n x := fun z hz => h z (List.mem_append_left _ hz)
theorem Val.right {n : Int} {x y : List Int} (h : Val n (x ++ y)) : Val n y := fun z hz => h z (List.mem_append_right _ hz)
theorem Val.nil (n : Int) : Val n [] := fun z hz => by cases hz
theorem Val.cons {n : Int} {k : Int} {y : List Int} (h : wbad n k = false) (hy : Val n y) : Val n (k :: y) := fun z hz => by
  rcases List.mem_cons.1 hz with rfl | hz
  · exact h
  · exact hy z hz
theorem Val.head {n : Int} {k : Int} {y : List Int} (h : Val n (k :: y)) : wbad n k = false := h k (by simp)
theorem Val.tail {n : Int} {k : Int} {y : List Int} (h : Val n (k :: y)) : Val n y := fun z hz => h z (by simp [hz])
theorem wbad_neg {n k : Int} (h : wbad n k = false) : wbad n (-k) = false := by
  unfold wbad at *
  simp only [Bool.or_eq_false_iff, beq_eq_false_iff_ne, decide_eq_false_iff_not] at *
  omega
theorem Val.inv {n : Int} {x : List Int} (h : Val n x) : Val n (invL x) := fun z hz => by
  unfold invL at hz
  obtain ⟨y, hy, rfl⟩ := List.mem_map.1 hz
  exact wbad_neg (h y (List.mem_reverse.1 hy))
theorem Val.take {n : Int} {x : List Int} (h : Val n x) (k : Nat) : Val n (x.take k) := fun z hz => h z (List.mem_of_mem_take hz)
theorem Val.drop {n : Int} {x : List Int} (h : Val n x) (k : Nat) : Val n (x.drop k) := fun z hz => h z (List.mem_of_mem_drop hz)
theorem Val.at {n : Int} {x : List Int} (h : Val n x) : ∀ i, i < x.length → wbad n (gi x i) = false := fun i hi => h _ (gi_mem hi)

/-- What keeps the laws of braids. -/
structure Laws (n : Int) {S : Type} (f : S → Int → S) (V : S → Prop) : Prop where
  keep : ∀ s k, V s → wbad n k = false → V (f s k)
  canc : ∀ s k, V s → wbad n k = false → f (f s k) (-k) = s
  far : ∀ s (p q : Nat) a b, V s → wbad n a = false → wbad n b = false → a.natAbs = p + 1 → b.natAbs = q + 1 → p + 2 ≤ q → f (f s a) b = f (f s b) a
  pos : ∀ s (q : Nat), V s → (q : Int) + 2 < n → f (f (f s (q + 1)) (q + 2)) (q + 1) = f (f (f s (q + 2)) (q + 1)) (q + 2)
  neg : ∀ s (q : Nat), V s → (q : Int) + 2 < n → f (f (f s (-((q : Int) + 1))) (-((q : Int) + 2))) (-((q : Int) + 1)) = f (f (f s (-((q : Int) + 2))) (-((q : Int) + 1))) (-((q : Int) + 2))

theorem Laws.keeps {n : Int} {S : Type} {f : S → Int → S} {V : S → Prop} (L : Laws n f V) : ∀ (xs : List Int) s, V s → Val n xs → V (xs.foldl f s)
  | [], s, h, _ => h
  | k :: xs, s, h, hv => L.keeps xs (f s k) (L.keep s k h hv.head) hv.tail

/-- Words of the same braid. -/
def Br (n : Int) (x y : List Int) : Prop := ∀ (S : Type) (f : S → Int → S) (V : S → Prop), Laws n f V → ∀ s, V s → x.foldl f s = y.foldl f s
theorem Br.refl (n : Int) (x : List Int) : Br n x x := fun _ _ _ _ _ _ => rfl
theorem Br.symm {n : Int} {x y : List Int} (h : Br n x y) : Br n y x := fun S f V L s hs => (h S f V L s hs).symm
theorem Br.trans {n : Int} {x y z : List Int} (h : Br n x y) (k : Br n y z) : Br n x z := fun S f V L s hs => (h S f V L s hs).trans (k S f V L s hs)
theorem Br.right {n : Int} {x y : List Int} (h : Br n x y) (z : List Int) : Br n (x ++ z) (y ++ z) := fun S f V L s hs => by
  rw [List.foldl_append, List.foldl_append, h S f V L s hs]
theorem Br.left {n : Int} {x y : List Int} (h : Br n x y) {p : List Int} (hp : Val n p) : Br n (p ++ x) (p ++ y) := fun S f V L s hs => by
  rw [List.foldl_append, List.foldl_append]; exact h S f V L _ (L.keeps p s hs hp)
theorem Br.mid {n : Int} {x y : List Int} (h : Br n x y) {p : List Int} (hp : Val n p) (z : List Int) : Br n (p ++ x ++ z) (p ++ y ++ z) := (h.left hp).right z
theorem Br.canc {n k : Int} (hk : wbad n k = false) : Br n [k, -k] [] := fun S f V L s hs => L.canc s k hs hk
theorem Br.far {n a b : Int} (ha : wbad n a = false) (hb : wbad n b = false) (h : (a.natAbs : Int) - b.natAbs > 1 ∨ (a.natAbs : Int) - b.natAbs < -1) : Br n [a, b] [b, a] := fun S f V L s hs => by
  have h1 := ha
  have h2 := hb
  unfold wbad at h1 h2
  simp only [Bool.or_eq_false_iff, beq_eq_false_iff_ne, decide_eq_false_iff_not] at h1 h2
  rcases h with h | h
  · exact (L.far s (b.natAbs - 1) (a.natAbs - 1) b a hs hb ha (by omega) (by omega) (by omega)).symm
  · exact L.far s (a.natAbs - 1) (b.natAbs - 1) a b hs ha hb (by omega) (by omega) (by omega)
theorem Br.braid {n a b : Int} (ha : wbad n a = false) (hb : wbad n b = false) (hs : decide (a > 0) = decide (b > 0)) (h : (a.natAbs : Int) - b.natAbs = 1 ∨ (a.natAbs : Int) - b.natAbs = -1) : Br n [a, b, a] [b, a, b] := by
  have h1 := ha
  have h2 := hb
  unfold wbad at h1 h2
  simp only [Bool.or_eq_false_iff, beq_eq_false_iff_ne, decide_eq_false_iff_not] at h1 h2
  have main : ∀ (q : Nat), (q : Int) + 2 < n → Br n [(q : Int) + 1, q + 2, q + 1] [(q : Int) + 2, q + 1, q + 2] ∧ Br n [-((q : Int) + 1), -((q : Int) + 2), -((q : Int) + 1)] [-((q : Int) + 2), -((q : Int) + 1), -((q : Int) + 2)] :=
    fun q hq => ⟨fun S f V L s hs => L.pos s q hs hq, fun S f V L s hs => L.neg s q hs hq⟩
  have hs' : (a > 0 ↔ b > 0) := by simpa using hs
  by_cases hp : a > 0
  · have hp' := hs'.1 hp
    rcases h with h | h
    · obtain ⟨q, rfl⟩ : ∃ q : Nat, b = (q : Int) + 1 := ⟨(b - 1).toNat, by omega⟩
      obtain rfl : a = (q : Int) + 2 := by omega
      exact (main q (by omega)).1.symm
    · obtain ⟨q, rfl⟩ : ∃ q : Nat, a = (q : Int) + 1 := ⟨(a - 1).toNat, by omega⟩
      obtain rfl : b = (q : Int) + 2 := by omega
      exact (main q (by omega)).1
  · have hp' : ¬ b > 0 := fun e => hp (hs'.2 e)
    rcases h with h | h
    · obtain ⟨q, rfl⟩ : ∃ q : Nat, b = -((q : Int) + 1) := ⟨(-b - 1).toNat, by omega⟩
      obtain rfl : a = -((q : Int) + 2) := by omega
      exact (main q (by omega)).2.symm
    · obtain ⟨q, rfl⟩ : ∃ q : Nat, a = -((q : Int) + 1) := ⟨(-a - 1).toNat, by omega⟩
      obtain rfl : b = -((q : Int) + 2) := by omega
      exact (main q (by omega)).2

/-! ### Moves -/
theorem Val.step {n k : Int} {st : List Int} (h : Val n st) (hk : wbad n k = false) : Val n (redStep st k) := by
  unfold redStep
  split
  · exact fun z hz => h z (List.dropLast_subset _ hz)
  · exact h.app (Val.cons hk (Val.nil n))
theorem Val.redF {n : Int} : ∀ (xs st : List Int), Val n st → Val n xs → Val n (xs.foldl redStep st)
  | [], st, h, _ => h
  | k :: xs, st, h, hv => Val.redF xs _ (h.step hv.head) hv.tail
theorem Val.red {n : Int} {xs : List Int} (h : Val n xs) : Val n (red xs) := Val.redF xs [] (Val.nil n) h
theorem Br.step {n k : Int} {st : List Int} (h : Val n st) (hk : wbad n k = false) : Br n (st ++ [k]) (redStep st k) := by
  by_cases hp : 0 < st.length ∧ gi st (st.length - 1) = -k
  · rw [redStep_pop hp.1 hp.2]
    have hs : st = st.dropLast ++ [-k] := by
      have h1 : st.take (st.length - 1 + 1) = st.take (st.length - 1) ++ [gi st (st.length - 1)] := take_succ_gi (by omega)
      rw [show st.length - 1 + 1 = st.length from by omega, List.take_length, hp.2, ← List.dropLast_eq_take] at h1
      exact h1
    obtain ⟨z, hz⟩ : ∃ z, z = st.dropLast := ⟨_, rfl⟩
    rw [← hz] at hs ⊢
    subst hs
    have hc := Br.canc (wbad_neg hk)
    rw [Int.neg_neg] at hc
    have := hc.left (p := z) h.left
    simpa using this
  · rw [redStep_push (fun a b => hp ⟨a, b⟩)]; exact Br.refl _ _
theorem Br.redF {n : Int} : ∀ (xs st : List Int), Val n st → Val n xs → Br n (st ++ xs) (xs.foldl redStep st)
  | [], st, h, _ => by rw [List.append_nil]; exact Br.refl _ _
  | k :: xs, st, h, hv => by
    have h1 := (Br.step h hv.head).right xs
    rw [List.append_assoc] at h1
    exact h1.trans (Br.redF xs _ (h.step hv.head) hv.tail)
theorem Br.red {n : Int} {xs : List Int} (h : Val n xs) : Br n xs (red xs) := Br.redF xs [] (Val.nil n) h
theorem Br.inv {n : Int} : ∀ {xs : List Int}, Val n xs → Br n (xs ++ invL xs) []
  | [], _ => Br.refl _ _
  | k :: xs, h => by
    have h1 := ((Br.inv h.tail).left (p := [k]) (Val.cons h.head (Val.nil n))).right [-k]
    have e : [k] ++ (xs ++ invL xs) ++ [-k] = (k :: xs) ++ invL (k :: xs) := by unfold invL; simp
    rw [e] at h1
    exact h1.trans (Br.canc h.head)

/-- Two or three letters exchanged, if that is allowed. -/
def exch (w : List Int) (i : Nat) : List Int :=
  if w.length ≤ i + 1 then w
  else if ((gi w i).natAbs : Int) - (gi w (i + 1)).natAbs > 1 ∨ ((gi w i).natAbs : Int) - (gi w (i + 1)).natAbs < -1 then (w.set i (gi w (i + 1))).set (i + 1) (gi w i)
  else if i + 2 < w.length ∧ gi w (i + 2) = gi w i ∧ (((gi w i).natAbs : Int) - (gi w (i + 1)).natAbs = 1 ∨ ((gi w i).natAbs : Int) - (gi w (i + 1)).natAbs = -1) ∧ decide (gi w i > 0) = decide (gi w (i + 1) > 0) then ((w.set i (gi w (i + 1))).set (i + 1) (gi w i)).set (i + 2) (gi w (i + 1))
  else w
theorem exch_len (w : List Int) (i : Nat) : (exch w i).length = w.length := by
  unfold exch
  split
  · rfl
  · split
    · simp
    · split
      · simp
      · rfl
theorem split_two {w : List Int} {i : Nat} (h : i + 1 < w.length) : ∃ p s, w = p ++ gi w i :: gi w (i + 1) :: s ∧ p.length = i := by
  refine ⟨w.take i, w.drop (i + 2), ?_, by simp; omega⟩
  have h1 : w.drop i = w[i] :: w.drop (i + 1) := List.drop_eq_getElem_cons (by omega)
  have h2 : w.drop (i + 1) = w[i + 1] :: w.drop (i + 2) := List.drop_eq_getElem_cons (by omega)
  rw [gi_of_lt (by omega), gi_of_lt h, ← h2, ← h1, List.take_append_drop]
theorem gi_split (p s : List Int) (a : Int) : gi (p ++ a :: s) p.length = a := by rw [gi_append_right (Nat.le_refl _), Nat.sub_self]; rfl
theorem gi_split1 (p s : List Int) (a b : Int) : gi (p ++ a :: b :: s) (p.length + 1) = b := by rw [gi_append_right (by omega), show p.length + 1 - p.length = 1 from by omega]; rfl
theorem gi_split2 (p s : List Int) (a b c : Int) : gi (p ++ a :: b :: c :: s) (p.length + 2) = c := by rw [gi_append_right (by omega), show p.length + 2 - p.length = 2 from by omega]; rfl
theorem setI_two (p s : List Int) (a b x y : Int) : ((p ++ a :: b :: s).set p.length x).set (p.length + 1) y = p ++ x :: y :: s := by
  rw [List.set_append_right _ _ (Nat.le_refl _), Nat.sub_self, List.set_cons_zero, List.set_append_right _ _ (by omega), show p.length + 1 - p.length = 1 from by omega]
  rfl
theorem setI_three (p s : List Int) (a b c x y z : Int) : (((p ++ a :: b :: c :: s).set p.length x).set (p.length + 1) y).set (p.length + 2) z = p ++ x :: y :: z :: s := by
  rw [setI_two, List.set_append_right _ _ (by omega), show p.length + 2 - p.length = 2 from by omega]
  rfl
theorem exch_br {n : Int} {w : List Int} (hv : Val n w) (i : Nat) : Br n w (exch w i) ∧ Val n (exch w i) := by
  unfold exch
  by_cases h0 : w.length ≤ i + 1
  · rw [if_pos h0]; exact ⟨Br.refl _ _, hv⟩
  rw [if_neg h0]
  obtain ⟨p, s, hw, hp⟩ := split_two (w := w) (i := i) (by omega)
  generalize gi w i = a at hw ⊢
  generalize gi w (i + 1) = b at hw ⊢
  subst hp
  rw [hw] at hv
  have hpv := hv.left
  have hav := hv.right.head
  have hbv := hv.right.tail.head
  have hsv := hv.right.tail.tail
  by_cases h1 : (a.natAbs : Int) - b.natAbs > 1 ∨ (a.natAbs : Int) - b.natAbs < -1
  · rw [if_pos h1, hw, setI_two]
    have := (Br.far hav hbv h1).mid hpv s
    simp only [List.append_assoc, List.cons_append, List.nil_append] at this
    exact ⟨this, hpv.app (Val.cons hbv (Val.cons hav hsv))⟩
  rw [if_neg h1]
  by_cases h2 : p.length + 2 < w.length ∧ gi w (p.length + 2) = a ∧ ((a.natAbs : Int) - b.natAbs = 1 ∨ (a.natAbs : Int) - b.natAbs = -1) ∧ decide (a > 0) = decide (b > 0)
  · rw [if_pos h2]
    obtain ⟨l1, l2, l3, l4⟩ := h2
    rw [hw] at l1 l2 ⊢
    cases s with
    | nil => simp at l1
    | cons c s =>
      rw [gi_split2] at l2
      subst l2
      rw [setI_three]
      have := (Br.braid hav hbv l4 l3).mid hpv s
      simp only [List.append_assoc, List.cons_append, List.nil_append] at this
      exact ⟨this, hpv.app (Val.cons hbv (Val.cons hav (Val.cons hbv hsv.tail)))⟩
  · rw [if_neg h2, hw]; exact ⟨Br.refl _ _, hv⟩

/-- One change of a word: where, and which. -/
def mv (n : Int) (w : List Int) (x y : Int) : List Int :=
  if y % 4 = 0 ∧ w.length < 20 then w.take (x % (w.length + 1)).toNat ++ [1 + y / 4 % (n - 1), -(1 + y / 4 % (n - 1))] ++ w.drop (x % (w.length + 1)).toNat
  else if y % 4 = 1 then red w
  else exch w (x % (w.length + 1)).toNat
theorem gen_ok {n y : Int} (hn : 1 < n) : wbad n (1 + y / 4 % (n - 1)) = false := by
  have h1 := Int.emod_nonneg (y / 4) (show n - 1 ≠ 0 by omega)
  have h2 := Int.emod_lt_of_pos (y / 4) (show 0 < n - 1 by omega)
  exact wbad_not (by omega) (by omega) (by omega)
theorem mv_br {n : Int} {w : List Int} (hn : 1 < n) (hv : Val n w) (x y : Int) (hl : w.length ≤ 21) : Br n w (mv n w x y) ∧ Val n (mv n w x y) ∧ (mv n w x y).length ≤ 21 := by
  unfold mv
  split
  · rename_i h
    obtain ⟨i, hi⟩ : ∃ i, i = (x % (w.length + 1)).toNat := ⟨_, rfl⟩
    rw [← hi]
    obtain ⟨k, hk⟩ : ∃ k, k = 1 + y / 4 % (n - 1) := ⟨_, rfl⟩
    have hg := gen_ok (y := y) hn
    rw [← hk] at hg ⊢
    have h1 := (Br.canc hg).mid (hv.take i) (w.drop i)
    rw [List.append_nil, List.take_append_drop] at h1
    refine ⟨h1.symm, ((hv.take i).app (Val.cons hg (Val.cons (wbad_neg hg) (Val.nil n)))).app (hv.drop i), ?_⟩
    simp; omega
  · split
    · exact ⟨Br.red hv, hv.red, Nat.le_trans (red_len w) hl⟩
    · have := exch_br hv (x % (w.length + 1)).toNat
      exact ⟨this.1, this.2, by rw [exch_len]; exact hl⟩
def mvs (n : Int) (w : List Int) (ms : List (Int × Int)) : List Int := ms.foldl (fun w m => mv n w m.1 m.2) w
theorem mvs_br {n : Int} (hn : 1 < n) : ∀ (ms : List (Int × Int)) {w : List Int}, Val n w → w.length ≤ 21 → Br n w (mvs n w ms) ∧ Val n (mvs n w ms) ∧ (mvs n w ms).length ≤ 21
  | [], w, h, hl => ⟨Br.refl _ _, h, hl⟩
  | m :: ms, w, h, hl => by
    obtain ⟨h1, h2, h3⟩ := mv_br hn h m.1 m.2 hl
    obtain ⟨k1, k2, k3⟩ := mvs_br hn ms h2 h3
    exact ⟨h1.trans k1, k2, k3⟩
theorem mvs_snoc (n : Int) (w : List Int) (ms : List (Int × Int)) (m : Int × Int) : mvs n w (ms ++ [m]) = mv n (mvs n w ms) m.1 m.2 := by unfold mvs; simp
end Go.Proofs.Ytbappfeojdehgaa
