/- Texts of this claim in one file: libraries and walks. -/
import Derived.Test.YtigffblelngpjaaDoorL8
/- Plain facts on the lists of layer 23: the half twist behind, join, meet, the way back, the rest, lengths. No program in sight. -/
namespace Go.Proofs.YtigffblelngpjaaDoor
set_option linter.unusedVariables false
set_option linter.unusedSimpArgs false
open Go

/-- All pairs that cross in the one cross in the other. -/
def leP (n : Nat) (xs ys : List Int) : Prop := ∀ a b, 1 ≤ a → a < b → b ≤ n → crB xs a b = true → crB ys a b = true
theorem leP.refl (n : Nat) (xs : List Int) : leP n xs xs := fun _ _ _ _ _ h => h
theorem leP.trans {n : Nat} {xs ys zs : List Int} (h : leP n xs ys) (k : leP n ys zs) : leP n xs zs := fun a b a1 ab bn x => k a b a1 ab bn (h a b a1 ab bn x)
theorem leP.anti {xs ys : List Int} (hx : pok xs) (hy : pok ys) (hl : xs.length = ys.length) (h : leP xs.length xs ys) (k : leP xs.length ys xs) : xs = ys :=
  crB_ext hx hy hl fun a b a1 ab bn => by rw [Bool.eq_iff_iff]; exact ⟨h a b a1 ab bn, k a b a1 ab bn⟩

/-! ### the half twist behind -/
theorem turnL_cr {xs : List Int} (h : pok xs) {a b : Nat} (a1 : 1 ≤ a) (ab : a < b) (bn : b ≤ xs.length) : crB (turnL xs) a b = !crB xs a b := by
  unfold crB
  rw [turnL_gi (by omega), turnL_gi (by omega)]
  have : gi xs (a - 1) ≠ gi xs (b - 1) := fun e => by have := pok_inj h a1 (by omega) (by omega) bn e; omega
  rw [Bool.eq_iff_iff]; simp; omega
theorem turnL_pok {xs : List Int} (h : pok xs) : pok (turnL xs) := by
  refine pok_mk (fun i h1 h2 => ?_) (fun i j h1 h2 h3 => ?_)
  · rw [turnL_len] at *; rw [turnL_gi (by omega)]; have := pok_bd h h1 h2; omega
  · rw [turnL_len] at *; rw [turnL_gi (by omega), turnL_gi (by omega)]
    intro e
    have := pok_inj h h1 (by omega) (by omega) h3 (by omega); omega
theorem turnL_le {n : Nat} {xs ys : List Int} (hx : pok xs) (hy : pok ys) (lx : xs.length = n) (ly : ys.length = n) : leP n (turnL xs) (turnL ys) ↔ leP n ys xs := by
  constructor
  · intro h a b a1 ab bn c
    have := h a b a1 ab bn
    rw [turnL_cr hx a1 ab (by omega), turnL_cr hy a1 ab (by omega)] at this
    cases e : crB xs a b with
    | true => rfl
    | false => rw [e, c] at this; simp at this
  · intro h a b a1 ab bn c
    rw [turnL_cr hx a1 ab (by omega)] at c
    rw [turnL_cr hy a1 ab (by omega)]
    cases e : crB ys a b with
    | false => rfl
    | true => rw [h a b a1 ab bn e] at c; simp at c
theorem turnL_turnL {xs : List Int} : turnL (turnL xs) = xs := by
  refine gi_ext (by rw [turnL_len, turnL_len]) fun i hi => ?_
  rw [turnL_len, turnL_len] at hi
  rw [turnL_gi (by rw [turnL_len]; exact hi), turnL_gi hi, turnL_len]; omega

/-! ### join -/
def jE (n : Nat) (xs ys : List Int) (a b : Nat) : Bool := decide (1 ≤ a ∧ a < b ∧ b ≤ n) && (crB xs a b || crB ys a b)
def jC (n : Nat) (xs ys : List Int) : Nat → Nat → Bool := wsh (jE n xs ys) (max 2 n)
def joinL (xs ys : List Int) : List Int := rankL xs.length (jC xs.length xs ys)
theorem jE_cot (n : Nat) (xs ys : List Int) : Cot n (jE n xs ys) := fun a b c a1 ab bc cn h => by
  unfold jE at *
  simp only [Bool.and_eq_true, Bool.or_eq_true, decide_eq_true_eq] at *
  rcases h.2 with h | h
  · rcases crB_cot n a b c a1 ab bc cn h with x | x
    · exact .inl ⟨⟨a1, ab, by omega⟩, .inl x⟩
    · exact .inr ⟨⟨by omega, bc, cn⟩, .inl x⟩
  · rcases crB_cot n a b c a1 ab bc cn h with x | x
    · exact .inl ⟨⟨a1, ab, by omega⟩, .inr x⟩
    · exact .inr ⟨⟨by omega, bc, cn⟩, .inr x⟩
theorem jC_trn (n : Nat) (xs ys : List Int) : Trn n (jC n xs ys) := wsh_trn (by omega)
theorem jC_cot (n : Nat) (xs ys : List Int) : Cot n (jC n xs ys) := wsh_cot (jE_cot n xs ys) _
theorem joinL_len (xs ys : List Int) : (joinL xs ys).length = xs.length := rankL_len _ _
theorem joinL_pok (xs ys : List Int) : pok (joinL xs ys) := rankL_pok (jC_trn _ _ _) (jC_cot _ _ _)
theorem joinL_cr {xs ys : List Int} {a b : Nat} (a1 : 1 ≤ a) (ab : a < b) (bn : b ≤ xs.length) : crB (joinL xs ys) a b = jC xs.length xs ys a b := rankL_cr (jC_trn _ _ _) (jC_cot _ _ _) a1 ab bn
theorem joinL_left {xs ys : List Int} {n : Nat} (hn : xs.length = n) : leP n xs (joinL xs ys) := fun a b a1 ab bn c => by
  subst hn
  rw [joinL_cr a1 ab bn]
  exact wsh_le _ (by unfold jE; simp [c, a1, ab, bn]) _
theorem joinL_right {xs ys : List Int} {n : Nat} (hn : xs.length = n) : leP n ys (joinL xs ys) := fun a b a1 ab bn c => by
  subst hn
  rw [joinL_cr a1 ab bn]
  exact wsh_le _ (by unfold jE; simp [c, a1, ab, bn]) _
theorem joinL_least {xs ys zs : List Int} {n : Nat} (hn : xs.length = n) (h : leP n xs zs) (k : leP n ys zs) : leP n (joinL xs ys) zs := fun a b a1 ab bn c => by
  subst hn
  rw [joinL_cr a1 ab bn] at c
  refine (wsh_least (n := xs.length) (E := jE xs.length xs ys) (D := crB zs) (fun a c hE => ?_) (crB_trn _) _ _ _ c).2.2.2
  unfold jE at hE
  simp only [Bool.and_eq_true, Bool.or_eq_true, decide_eq_true_eq] at hE
  obtain ⟨⟨x1, x2, x3⟩, x4 | x4⟩ := hE
  · exact ⟨x1, x2, x3, h a c x1 x2 x3 x4⟩
  · exact ⟨x1, x2, x3, k a c x1 x2 x3 x4⟩

/-! ### meet -/
def meetL (xs ys : List Int) : List Int := turnL (joinL (turnL xs) (turnL ys))
theorem meetL_len (xs ys : List Int) : (meetL xs ys).length = xs.length := by unfold meetL; rw [turnL_len, joinL_len, turnL_len]
theorem meetL_pok (xs ys : List Int) : pok (meetL xs ys) := turnL_pok (joinL_pok _ _)
theorem meetL_left {xs ys : List Int} {n : Nat} (hx : pok xs) (hn : xs.length = n) : leP n (meetL xs ys) xs := by
  have h := joinL_left (xs := turnL xs) (ys := turnL ys) (n := n) (by rw [turnL_len]; exact hn)
  have := (turnL_le (n := n) (joinL_pok (turnL xs) (turnL ys)) (turnL_pok hx) (by rw [joinL_len, turnL_len]; exact hn) (by rw [turnL_len]; exact hn)).2 h
  rwa [turnL_turnL] at this
theorem meetL_right {xs ys : List Int} {n : Nat} (hy : pok ys) (hn : xs.length = n) (hm : ys.length = n) : leP n (meetL xs ys) ys := by
  have h := joinL_right (xs := turnL xs) (ys := turnL ys) (n := n) (by rw [turnL_len]; exact hn)
  have := (turnL_le (n := n) (joinL_pok (turnL xs) (turnL ys)) (turnL_pok hy) (by rw [joinL_len, turnL_len]; exact hn) (by rw [turnL_len]; exact hm)).2 h
  rwa [turnL_turnL] at this
theorem meetL_greatest {xs ys zs : List Int} {n : Nat} (hx : pok xs) (hy : pok ys) (hz : pok zs) (ln : xs.length = n) (lm : ys.length = n) (lz : zs.length = n) (h : leP n zs xs) (k : leP n zs ys) : leP n zs (meetL xs ys) := by
  have a := (turnL_le hx hz ln lz).2 h
  have b := (turnL_le hy hz lm lz).2 k
  have c := joinL_least (xs := turnL xs) (ys := turnL ys) (n := n) (by rw [turnL_len]; exact ln) a b
  have := (turnL_le (n := n) (turnL_pok hz) (joinL_pok (turnL xs) (turnL ys)) (by rw [turnL_len]; exact lz) (by rw [joinL_len, turnL_len]; exact ln)).2 c
  rwa [turnL_turnL] at this

/-! ### the way back -/
theorem upd_inj {pos : Nat → Nat} {new : Nat → Int} : ∀ {k i : Nat}, (∀ i j, i < j → j < k → pos i ≠ pos j) → i < k → upd pos new k (pos i) = new i
  | 0, i, _, h => absurd h (Nat.not_lt_zero _)
  | k + 1, i, hp, h => by
    unfold upd
    by_cases e : i = k
    · subst e; rw [if_pos rfl]
    · rw [if_neg (hp i k (by omega) (by omega)), upd_inj (fun i j a b => hp i j a (by omega)) (by omega)]
theorem invL_at {xs : List Int} (h : pok xs) {i : Nat} (hi : i < xs.length) : gi (invL xs) (gi xs i - 1).toNat = (i : Int) + 1 := by
  have hb := pok_bd h (i := i + 1) (by omega) (by omega)
  rw [Nat.add_sub_cancel] at hb
  unfold invL
  rw [updL_gi (by omega)]
  refine upd_inj (pos := fun k => (gi xs k - 1).toNat) (new := fun k => (k : Int) + 1) (fun a b ab bl e => ?_) hi
  have h1 := pok_bd h (i := a + 1) (by omega) (by omega)
  have h2 := pok_bd h (i := b + 1) (by omega) (by omega)
  rw [Nat.add_sub_cancel] at h1 h2
  have := pok_inj h (i := a + 1) (j := b + 1) (by omega) (by omega) (by omega) (by omega) (by simp only [Nat.add_sub_cancel]; omega)
  omega
/-- Each place is the number of one strand. -/
theorem pok_hit {xs : List Int} (h : pok xs) {u : Nat} (hu : u < xs.length) : ∃ i, i < xs.length ∧ gi xs i = (u : Int) + 1 := by
  obtain ⟨i, i1, i2, e⟩ := pok_onto h (v := u + 1) (by omega) (by omega)
  exact ⟨i - 1, by omega, by rw [e]; omega⟩
theorem invL_pok {xs : List Int} (h : pok xs) : pok (invL xs) := by
  refine pok_mk (fun v h1 h2 => ?_) (fun v u h1 h2 h3 e => ?_)
  · rw [invL_len] at *
    obtain ⟨i, hi, e⟩ := pok_hit h (u := v - 1) (by omega)
    have := invL_at h hi
    rw [e, show (((v - 1 : Nat) : Int) + 1 - 1).toNat = v - 1 by omega] at this
    omega
  · rw [invL_len] at *
    obtain ⟨i, hi, ei⟩ := pok_hit h (u := v - 1) (by omega)
    obtain ⟨j, hj, ej⟩ := pok_hit h (u := u - 1) (by omega)
    have a := invL_at h hi
    have b := invL_at h hj
    rw [ei, show (((v - 1 : Nat) : Int) + 1 - 1).toNat = v - 1 by omega] at a
    rw [ej, show (((u - 1 : Nat) : Int) + 1 - 1).toNat = u - 1 by omega] at b
    have : i = j := by omega
    subst this
    omega
theorem timesL_pok {xs ys : List Int} (h : pok xs) (k : pok ys) (hl : xs.length = ys.length) : pok (timesL xs ys) := by
  have hb : ∀ i, 1 ≤ i → i ≤ xs.length → ∃ v : Nat, gi xs (i - 1) = (v : Int) + 1 ∧ v < xs.length := fun i a b => ⟨(gi xs (i - 1) - 1).toNat, by have := pok_bd h a b; omega, by have := pok_bd h a b; omega⟩
  refine pok_mk (fun i h1 h2 => ?_) (fun i j h1 h2 h3 => ?_)
  · rw [timesL_len] at *
    obtain ⟨v, e, hv⟩ := hb i h1 h2
    rw [timesL_gi (by omega), e, show ((v : Int) + 1 - 1).toNat = v by omega]
    have := pok_bd k (i := v + 1) (by omega) (by omega)
    rw [Nat.add_sub_cancel] at this; omega
  · rw [timesL_len] at *
    obtain ⟨v, e, hv⟩ := hb i h1 (by omega)
    obtain ⟨u, e', hu⟩ := hb j (by omega) h3
    rw [timesL_gi (by omega), timesL_gi (by omega), e, e', show ((v : Int) + 1 - 1).toNat = v by omega, show ((u : Int) + 1 - 1).toNat = u by omega]
    intro c
    have := pok_inj k (i := v + 1) (j := u + 1) (by omega) (by omega) (by omega) (by omega) (by simpa using c)
    have := pok_inj h h1 (by omega) (by omega) h3 (by omega)
    omega
theorem times_inv {xs : List Int} (h : pok xs) : timesL xs (invL xs) = idL xs.length := by
  refine gi_ext (by rw [timesL_len, idL_len]) fun i hi => ?_
  rw [timesL_len] at hi
  rw [timesL_gi hi, invL_at h hi, idL_gi hi]
theorem restL_len (xs ys : List Int) : (restL xs ys).length = xs.length := by unfold restL; rw [timesL_len, invL_len]
theorem restL_at {xs ys : List Int} (h : pok xs) {i : Nat} (hi : i < xs.length) : gi (restL xs ys) (gi xs i - 1).toNat = gi ys i := by
  have hb := pok_bd h (i := i + 1) (by omega) (by omega)
  rw [Nat.add_sub_cancel] at hb
  unfold restL
  rw [timesL_gi (by rw [invL_len]; omega), invL_at h hi, show ((i : Int) + 1 - 1).toNat = i by omega]
theorem restL_pok {xs ys : List Int} (h : pok xs) (k : pok ys) (hl : xs.length = ys.length) : pok (restL xs ys) := timesL_pok (invL_pok h) k (by rw [invL_len]; exact hl)
theorem times_rest {xs ys : List Int} (h : pok xs) (hl : xs.length = ys.length) : timesL xs (restL xs ys) = ys := by
  refine gi_ext (by rw [timesL_len, hl]) fun i hi => ?_
  rw [timesL_len] at hi
  rw [timesL_gi hi, restL_at h hi]

/-! ### lengths -/
/-- How many pairs cross. -/
def invs (xs : List Int) : Int := sm xs.length fun a => sm xs.length fun b => tf (decide (a < b) && crB xs a b)
theorem prow_cnt (n : Nat) (want : Nat → Nat → Bool) {a : Nat} (ha : 1 ≤ a) : ∀ k, k ≤ n → ((prow n want a (k + 1)).length : Int) = cnt k fun b => decide (a < b) && want a b
  | 0, _ => by rw [prow_nil (by omega)]; rfl
  | k + 1, h => by
    rw [prow_succ, List.length_append, Int.natCast_add, prow_cnt n want ha k (by omega)]
    unfold cnt; rw [sm]; congr 1
    by_cases l : a < k + 1
    · cases e : want a (k + 1) with
      | true => rw [pick_yes ⟨ha, l, h⟩ e]; simp [l, e, tf]
      | false => rw [pick_no e]; simp [e, tf]
    · rw [pick_out (by omega)]; simp [l, tf]
theorem prows_cnt (n : Nat) (want : Nat → Nat → Bool) : ∀ k, ((prows n want (k + 1)).length : Int) = sm k fun a => cnt n fun b => decide (a < b) && want a b
  | 0 => by rw [prows_one]; rfl
  | k + 1 => by rw [prows_succ, List.length_append, Int.natCast_add, prows_cnt n want k, prow_cnt n want (by omega) n (Nat.le_refl _), sm]
theorem crossers_len (xs : List Int) : ((crossers xs).length : Int) = invs xs := by
  unfold crossers prsAll
  rw [← prows_end xs.length (crossB xs) (xs.length + 1) (by omega), prows_cnt]
  rfl
theorem invs_nonneg (xs : List Int) : 0 ≤ invs xs := by rw [← crossers_len]; omega
/-- All ordered pairs. -/
theorem invs_sym {xs ys : List Int} (n : Nat) (hn : xs.length = n) : sm n (fun a => sm n fun b => tf (decide (a < b) && crB xs a b)) = sm n fun a => sm n fun b => tf (decide (b < a) && crB xs b a) := by
  rw [sm_comm]
theorem leP_invs {xs ys : List Int} (hx : pok xs) (hy : pok ys) (hl : xs.length = ys.length) (h : leP xs.length xs ys) : invs (restL xs ys) + invs xs = invs ys := by
  have hb : ∀ i, 1 ≤ i → i ≤ xs.length → 1 ≤ pv xs i ∧ pv xs i ≤ xs.length ∧ gi xs (i - 1) = (pv xs i : Int) := fun i a b => by have := pok_bd hx a b; unfold pv; omega
  have hr : ∀ i, 1 ≤ i → i ≤ xs.length → gi (restL xs ys) (pv xs i - 1) = gi ys (i - 1) := fun i a b => by
    have := restL_at (ys := ys) hx (i := i - 1) (by omega)
    rw [← this]; congr 1
    have := hb i a b
    omega
  have e1 : invs (restL xs ys) = sm xs.length fun i => sm xs.length fun j => tf (decide (gi xs (i - 1) < gi xs (j - 1)) && decide (gi ys (j - 1) < gi ys (i - 1))) := by
    unfold invs
    rw [restL_len, sm_reindex hx]
    refine sm_congr fun i i1 i2 => ?_
    rw [sm_reindex hx]
    refine sm_congr fun j j1 j2 => ?_
    have a := hb i i1 i2
    have b := hb j j1 j2
    unfold crB
    rw [hr i i1 i2, hr j j1 j2]
    congr 2
    rw [Bool.eq_iff_iff]; simp only [decide_eq_true_eq]; omega
  have e2 : sm xs.length (fun i => sm xs.length fun j => tf (decide (gi xs (i - 1) < gi xs (j - 1)) && decide (gi ys (j - 1) < gi ys (i - 1)))) =
      sm xs.length fun i => sm xs.length fun j => (tf (decide (i < j) && (decide (gi xs (i - 1) < gi xs (j - 1)) && decide (gi ys (j - 1) < gi ys (i - 1)))) + tf (decide (j < i) && (decide (gi xs (i - 1) < gi xs (j - 1)) && decide (gi ys (j - 1) < gi ys (i - 1))))) := by
    refine sm_congr fun i _ _ => sm_congr fun j _ _ => ?_
    rcases Nat.lt_trichotomy i j with l | l | l
    · simp [l, show ¬ j < i by omega, tf]
    · subst l; simp [tf]
    · simp [l, show ¬ i < j by omega, tf]
  have e3 : sm xs.length (fun i => sm xs.length fun j => tf (decide (j < i) && (decide (gi xs (i - 1) < gi xs (j - 1)) && decide (gi ys (j - 1) < gi ys (i - 1))))) = 0 := by
    refine sm_zero fun i i1 i2 => sm_zero fun j j1 j2 => ?_
    by_cases l : j < i
    · by_cases c : gi xs (i - 1) < gi xs (j - 1)
      · have := h j i j1 l i2 (by unfold crB; exact decide_eq_true c)
        unfold crB at this
        have := of_decide_eq_true this
        rw [decide_eq_false (show ¬ gi ys (j - 1) < gi ys (i - 1) by omega)]; simp [tf]
      · simp [c, tf]
    · simp [l, tf]
  have e4 : invs xs + sm xs.length (fun i => sm xs.length fun j => tf (decide (i < j) && (decide (gi xs (i - 1) < gi xs (j - 1)) && decide (gi ys (j - 1) < gi ys (i - 1))))) = invs ys := by
    unfold invs
    rw [← hl, ← sm_add]
    refine sm_congr fun i i1 i2 => ?_
    rw [← sm_add]
    refine sm_congr fun j j1 j2 => ?_
    by_cases l : i < j
    · have hne : gi xs (i - 1) ≠ gi xs (j - 1) := fun e => by have := pok_inj hx i1 i2 j1 j2 e; omega
      have hc := h i j i1 l j2
      unfold crB at *
      by_cases c : gi xs (j - 1) < gi xs (i - 1)
      · rw [hc (decide_eq_true c)]
        simp [l, c, show ¬ gi xs (i - 1) < gi xs (j - 1) by omega, tf]
      · simp [l, c, show gi xs (i - 1) < gi xs (j - 1) by omega, tf]
    · simp [l, tf]
  rw [e1, e2]
  have e5 : sm xs.length (fun i => sm xs.length fun j => (tf (decide (i < j) && (decide (gi xs (i - 1) < gi xs (j - 1)) && decide (gi ys (j - 1) < gi ys (i - 1)))) + tf (decide (j < i) && (decide (gi xs (i - 1) < gi xs (j - 1)) && decide (gi ys (j - 1) < gi ys (i - 1)))))) =
      sm xs.length (fun i => sm xs.length fun j => tf (decide (i < j) && (decide (gi xs (i - 1) < gi xs (j - 1)) && decide (gi ys (j - 1) < gi ys (i - 1))))) + sm xs.length (fun i => sm xs.length fun j => tf (decide (j < i) && (decide (gi xs (i - 1) < gi xs (j - 1)) && decide (gi ys (j - 1) < gi ys (i - 1))))) := by
    rw [← sm_add]
    exact sm_congr fun i _ _ => sm_add _ _ _
  rw [e5, e3]
  omega

/-! ### the half twist -/
theorem halfL_pok {n : Nat} : pok (halfL n) := by
  refine pok_mk (fun i h1 h2 => ?_) (fun i j h1 h2 h3 => ?_)
  · rw [halfL_len] at *; rw [halfL_gi (by omega)]; omega
  · rw [halfL_len] at *; rw [halfL_gi (by omega), halfL_gi (by omega)]; omega
theorem idL_pok {n : Nat} : pok (idL n) := by
  refine pok_mk (fun i h1 h2 => ?_) (fun i j h1 h2 h3 => ?_)
  · rw [idL_len] at *; rw [idL_gi (by omega)]; omega
  · rw [idL_len] at *; rw [idL_gi (by omega), idL_gi (by omega)]; omega
theorem leP_half (n : Nat) (xs : List Int) : leP n xs (halfL n) := fun a b a1 ab bn _ => by
  unfold crB; rw [halfL_gi (by omega), halfL_gi (by omega)]; exact decide_eq_true (by omega)
theorem tri_sm (n : Nat) : 2 * (sm n fun a => (n : Int) - a) = (n : Int) * (n - 1) := by
  have key : ∀ k : Nat, (2 : Int) * (sm k fun a => (n : Int) - a) = (k : Int) * (2 * n - k - 1) := fun k => by
    induction k with
    | zero => simp [sm]
    | succ k ih =>
      rw [sm, Int.mul_add, ih]
      have : ((k + 1 : Nat) : Int) = (k : Int) + 1 := by omega
      rw [this]
      simp only [Int.add_mul, Int.mul_sub, Int.sub_mul, Int.mul_add, Int.one_mul, Int.mul_one]
      have h1 : (2 : Int) * ((n : Int) - ((k : Int) + 1)) = 2 * n - 2 * k - 2 := by omega
      have h2 : (k : Int) * (2 * (n : Int)) = 2 * (k * n) := by rw [Int.mul_left_comm]
      generalize (k : Int) * (n : Int) = kn at *
      generalize (k : Int) * (k : Int) = kk at *
      omega
  rw [key n]
  congr 1; omega
theorem half_invs (n : Nat) : 2 * invs (halfL n) = (n : Int) * (n - 1) := by
  unfold invs
  rw [halfL_len, ← tri_sm]
  congr 1
  refine sm_congr fun a a1 a2 => ?_
  have : (sm n fun b => tf (decide (a < b) && crB (halfL n) a b)) = (sm n fun _ => 1) - cnt n (fun b => decide (b < a + 1)) := by
    unfold cnt
    rw [← sm_sub]
    refine sm_congr fun b b1 b2 => ?_
    unfold crB
    rw [halfL_gi (by omega), halfL_gi (by omega)]
    by_cases l : a < b
    · simp [l, show ¬ b < a + 1 by omega, tf, show ((n : Int) - ((b - 1 : Nat) : Int)) < (n : Int) - ((a - 1 : Nat) : Int) by omega]
    · simp [l, show b < a + 1 by omega, tf]
  rw [this, sm_one, cnt_below (by omega) (by omega)]
  omega
end Go.Proofs.YtigffblelngpjaaDoor
/- Plain facts on words: the least letter, the exchange, and what it does to the pairs that cross. No program in sight. -/
namespace Go.Proofs.YtigffblelngpjaaDoor
set_option linter.unusedVariables false
set_option linter.unusedSimpArgs false
open Go

theorem gi_set {l : List Int} {i : Nat} (hi : i < l.length) (x : Int) (j : Nat) : gi (l.set i x) j = if j = i then x else gi l j := by
  unfold gi
  by_cases h : j = i
  · subst h; rw [if_pos rfl]; simp [List.getD, hi]
  · rw [if_neg h]; simp [List.getD, List.getElem?_set, Ne.symm h]

/-- The least letter with which a list can begin. -/
def ffN (l : List Int) : Nat := (gi (fallsL l) 0).toNat
theorem falls_mem {l : List Int} {x : Int} : x ∈ fallsL l ↔ ∃ i : Nat, x = (i : Int) ∧ 1 ≤ i ∧ i < l.length ∧ fallB l i = true := by
  unfold fallsL fallsTo
  simp only [List.mem_map, List.mem_filter, List.mem_range, Bool.and_eq_true, decide_eq_true_eq]
  constructor
  · rintro ⟨i, ⟨h1, h2, h3⟩, rfl⟩; exact ⟨i, rfl, h2, h1, h3⟩
  · rintro ⟨i, rfl, h1, h2, h3⟩; exact ⟨i, ⟨h2, h1, h3⟩, rfl⟩
theorem filter_head {p : Nat → Bool} : ∀ (n : Nat) (i : Nat), (List.range n).filter p ≠ [] → ((List.range n).filter p)[0]? = some i → i < n ∧ p i = true ∧ ∀ j, j < i → p j = false
  | 0, i, h, _ => by simp at h
  | n + 1, i, h, hi => by
    rw [List.range_succ, List.filter_append] at hi
    by_cases he : (List.range n).filter p = []
    · rw [he, List.nil_append] at hi
      cases hp : p n with
      | false => simp [hp] at hi
      | true =>
        have : n = i := by simpa [hp] using hi
        subst this
        refine ⟨by omega, hp, fun j hj => ?_⟩
        rw [List.filter_eq_nil_iff] at he
        simpa using he j (List.mem_range.2 hj)
    · have h0 : 0 < ((List.range n).filter p).length := List.length_pos_iff.2 he
      rw [List.getElem?_append_left h0] at hi
      obtain ⟨a, b, c⟩ := filter_head n i he hi
      exact ⟨by omega, b, c⟩
theorem ffN_spec {l : List Int} (h : fallsL l ≠ []) : gi (fallsL l) 0 = (ffN l : Int) ∧ 1 ≤ ffN l ∧ ffN l < l.length ∧ fallB l (ffN l) = true ∧ ∀ j, 1 ≤ j → j < ffN l → fallB l j = false := by
  have hlen : 0 < (fallsL l).length := List.length_pos_iff.2 h
  have hm := gi_mem hlen
  obtain ⟨i, e, h1, h2, h3⟩ := falls_mem.1 hm
  have hf : ffN l = i := by unfold ffN; rw [e]; omega
  rw [hf]
  refine ⟨e, h1, h2, h3, fun j j1 j2 => ?_⟩
  have hne : (List.range l.length).filter (fun i => decide (1 ≤ i) && fallB l i) ≠ [] := fun e' => h (by unfold fallsL fallsTo; rw [e']; rfl)
  have hget : ((List.range l.length).filter (fun i => decide (1 ≤ i) && fallB l i))[0]? = some i := by
    have := gi_some hlen
    rw [e] at this
    unfold fallsL fallsTo at this
    rw [List.getElem?_map] at this
    obtain ⟨y, hy, hyi⟩ := Option.map_eq_some_iff.1 this
    rw [hy]
    have : y = i := by have : (y : Int) = (i : Int) := hyi; omega
    rw [this]
  have := (filter_head _ _ hne hget).2.2 j j2
  simpa [j1] using this
theorem fallB_cr (l : List Int) {i : Nat} (h : 1 ≤ i) : fallB l i = crB l i (i + 1) := by
  unfold fallB crB; rw [Nat.add_sub_cancel]
/-- Without a fall nothing crosses. -/
theorem no_falls {l : List Int} (h : fallsL l = []) : invs l = 0 := by
  have hf : ∀ i, 1 ≤ i → i < l.length → fallB l i = false := fun i h1 h2 => by
    cases e : fallB l i with
    | false => rfl
    | true => have : (i : Int) ∈ fallsL l := falls_mem.2 ⟨i, rfl, h1, h2, e⟩
              rw [h] at this; cases this
  have hm : ∀ d a : Nat, 1 ≤ a → a + d ≤ l.length → gi l (a - 1) ≤ gi l (a + d - 1) := fun d => by
    induction d with
    | zero => intro a _ _; exact Int.le_refl _
    | succ d ih =>
      intro a h1 h2
      have a1 := ih a h1 (by omega)
      have a2 := hf (a + d) (by omega) (by omega)
      unfold fallB at a2
      simp only [decide_eq_false_iff_not] at a2
      rw [show a + (d + 1) - 1 = a + d by omega]
      omega
  refine sm_zero fun a a1 a2 => sm_zero fun b b1 b2 => ?_
  by_cases l' : a < b
  · have := hm (b - a) a a1 (by omega)
    rw [show a + (b - a) - 1 = b - 1 by omega] at this
    unfold crB
    rw [decide_eq_false (show ¬ gi l (b - 1) < gi l (a - 1) by omega)]; simp [tf]
  · simp [l', tf]
theorem falls_of_invs {l : List Int} (h : 0 < invs l) : fallsL l ≠ [] := fun e => by rw [no_falls e] at h; omega
/-- .. and the list ascends. -/
theorem sorted_id {l : List Int} (h : pok l) (h0 : invs l = 0) : l = idL l.length := by
  refine crB_ext h idL_pok (by rw [idL_len]) fun a b a1 ab bn => ?_
  have h1 : crB (idL l.length) a b = false := by unfold crB; rw [idL_gi (by omega), idL_gi (by omega)]; exact decide_eq_false (by omega)
  rw [h1]
  cases e : crB l a b with
  | false => rfl
  | true =>
    exfalso
    have : sm l.length (fun _ => 0) < invs l := by
      unfold invs
      refine sm_lt (i := a) (fun j _ _ => sm_nonneg fun _ _ _ => (tf_bd _).1) a1 (by omega) ?_
      have := sm_lt (n := l.length) (f := fun _ => 0) (g := fun b => tf (decide (a < b) && crB l a b)) (i := b) (fun _ _ _ => (tf_bd _).1) (by omega) bn (by simp [ab, e, tf])
      rwa [sm_zero fun _ _ _ => rfl] at this
    rw [sm_zero fun _ _ _ => rfl] at this
    omega

/-- Places k - 1 and k exchanged. -/
def swL (l : List Int) (k : Nat) : List Int := (l.set (k - 1) (gi l k)).set k (gi l (k - 1))
theorem swL_len (l : List Int) (k : Nat) : (swL l k).length = l.length := by simp [swL]
theorem swL_gi {l : List Int} {k : Nat} (h1 : 1 ≤ k) (h2 : k < l.length) (j : Nat) : gi (swL l k) j = if j = k then gi l (k - 1) else if j = k - 1 then gi l k else gi l j := by
  unfold swL
  rw [gi_set (by simpa using h2), gi_set (by omega)]
/-- The exchange of k and k + 1. -/
def tr (k i : Nat) : Nat := if i = k then k + 1 else if i = k + 1 then k else i
theorem tr_tr (k i : Nat) : tr k (tr k i) = i := by
  unfold tr
  by_cases h1 : i = k
  · subst h1; simp
  · by_cases h2 : i = k + 1
    · subst h2; simp
    · simp [h1, h2]
theorem tr_bd {k n i : Nat} (k1 : 1 ≤ k) (k2 : k < n) (h1 : 1 ≤ i) (h2 : i ≤ n) : 1 ≤ tr k i ∧ tr k i ≤ n := by
  unfold tr
  by_cases a : i = k
  · rw [if_pos a]; omega
  · rw [if_neg a]
    by_cases b : i = k + 1
    · rw [if_pos b]; omega
    · rw [if_neg b]; omega
theorem swL_tr {l : List Int} {k : Nat} (k1 : 1 ≤ k) (k2 : k < l.length) {i : Nat} (h1 : 1 ≤ i) : gi (swL l k) (tr k i - 1) = gi l (i - 1) := by
  rw [swL_gi k1 k2]
  unfold tr
  by_cases a : i = k
  · rw [if_pos a, Nat.add_sub_cancel, if_pos rfl, a]
  · rw [if_neg a]
    by_cases b : i = k + 1
    · rw [if_pos b, if_neg (by omega), if_pos rfl, b, Nat.add_sub_cancel]
    · rw [if_neg b, if_neg (by omega), if_neg (by omega)]
theorem sm_tr {n k : Nat} (k1 : 1 ≤ k) (k2 : k < n) (f : Nat → Int) : sm n f = sm n fun i => f (tr k i) := by
  have e1 : sm n f = sm n fun u => sm n fun i => if tr k i = u then f u else 0 := sm_congr fun u u1 u2 => by
    have hb := tr_bd k1 k2 u1 u2
    rw [sm_pick hb.1 hb.2 (f := fun i => if tr k i = u then f u else 0) fun j j1 j2 hj => if_neg fun e => hj (by rw [← e, tr_tr])]
    rw [if_pos (tr_tr k u)]
  rw [e1, sm_comm]
  refine sm_congr fun i i1 i2 => ?_
  have hb := tr_bd k1 k2 i1 i2
  rw [sm_pick (u := tr k i) hb.1 hb.2 fun j _ _ hj => if_neg fun e => hj e.symm, if_pos rfl]
theorem swL_pok {l : List Int} (h : pok l) {k : Nat} (k1 : 1 ≤ k) (k2 : k < l.length) : pok (swL l k) := by
  have hv : ∀ i, 1 ≤ i → i ≤ l.length → gi (swL l k) (i - 1) = gi l (tr k i - 1) := fun i a b => by
    have := swL_tr k1 k2 (l := l) (i := tr k i) (tr_bd k1 k2 a b).1
    rwa [tr_tr] at this
  refine pok_mk (fun i h1 h2 => ?_) (fun i j h1 h2 h3 e => ?_)
  · rw [swL_len] at *
    rw [hv i h1 h2]
    exact pok_bd h (tr_bd k1 k2 h1 h2).1 (tr_bd k1 k2 h1 h2).2
  · rw [swL_len] at *
    rw [hv i h1 (by omega), hv j (by omega) h3] at e
    have := pok_inj h (tr_bd k1 k2 h1 (show i ≤ l.length by omega)).1 (tr_bd k1 k2 h1 (show i ≤ l.length by omega)).2 (tr_bd k1 k2 (show 1 ≤ j by omega) h3).1 (tr_bd k1 k2 (show 1 ≤ j by omega) h3).2 e
    have h' : tr k (tr k i) = tr k (tr k j) := by rw [this]
    rw [tr_tr, tr_tr] at h'
    omega
/-- An exchange at a fall takes one pair away. -/
theorem swL_invs {l : List Int} {k : Nat} (k1 : 1 ≤ k) (k2 : k < l.length) (hf : gi l k < gi l (k - 1)) : invs (swL l k) + 1 = invs l := by
  have e1 : invs (swL l k) = sm l.length fun a => sm l.length fun b => tf (decide (tr k a < tr k b) && crB l a b) := by
    unfold invs
    rw [swL_len, sm_tr k1 k2]
    refine sm_congr fun a a1 a2 => ?_
    rw [sm_tr k1 k2]
    refine sm_congr fun b b1 b2 => ?_
    unfold crB
    rw [swL_tr k1 k2 a1, swL_tr k1 k2 b1]
  have e2 : invs l - invs (swL l k) = sm l.length fun a => sm l.length fun b => (if a = k ∧ b = k + 1 then 1 else 0 : Int) := by
    rw [e1]
    unfold invs
    rw [← sm_sub]
    refine sm_congr fun a a1 a2 => ?_
    rw [← sm_sub]
    refine sm_congr fun b b1 b2 => ?_
    by_cases h : a = k ∧ b = k + 1
    · obtain ⟨rfl, rfl⟩ := h
      have hc : crB l a (a + 1) = true := by unfold crB; rw [Nat.add_sub_cancel]; exact decide_eq_true hf
      have ht : ¬ tr a a < tr a (a + 1) := by unfold tr; rw [if_pos rfl, if_neg (by omega), if_pos rfl]; omega
      simp [hc, ht, tf]
    · rw [if_neg h]
      by_cases h' : a = k + 1 ∧ b = k
      · obtain ⟨rfl, rfl⟩ := h'
        have hc : crB l (b + 1) b = false := by unfold crB; rw [Nat.add_sub_cancel]; exact decide_eq_false (by omega)
        simp [hc, tf]
      · have : (tr k a < tr k b) ↔ a < b := by unfold tr; split <;> split <;> (try split) <;> (try split) <;> omega
        simp only [this]; omega
  have e3 : (sm l.length fun a => sm l.length fun b => (if a = k ∧ b = k + 1 then 1 else 0 : Int)) = 1 := by
    rw [sm_pick (u := k) k1 (by omega) fun a _ _ hne => sm_zero fun b _ _ => if_neg fun h => hne h.1]
    rw [sm_pick (u := k + 1) (by omega) (by omega) fun b _ _ hne => if_neg fun h => hne h.2]
    rw [if_pos ⟨rfl, rfl⟩]
  omega

/-- What is left behind j letters. -/
def wleft (l : List Int) : Nat → List Int
  | 0 => l
  | j + 1 => swL (wleft l j) (ffN (wleft l j))
/-- The first j letters. -/
def wlet (l : List Int) (j : Nat) : List Int := (List.range j).map fun i => (ffN (wleft l i) : Int)
theorem wlet_succ (l : List Int) (j : Nat) : wlet l (j + 1) = wlet l j ++ [(ffN (wleft l j) : Int)] := by simp [wlet, List.range_succ]
theorem wlet_len (l : List Int) (j : Nat) : (wlet l j).length = j := by simp [wlet]
theorem wlet_gi (l : List Int) {j i : Nat} (h : i < j) : gi (wlet l j) i = (ffN (wleft l i) : Int) := by unfold wlet; rw [gi_range_map _ h]
theorem wleft_spec {l : List Int} (h : pok l) : ∀ j : Nat, (j : Int) ≤ invs l → (wleft l j).length = l.length ∧ pok (wleft l j) ∧ invs (wleft l j) = invs l - j
  | 0, _ => ⟨rfl, h, by simp [wleft]⟩
  | j + 1, hj => by
    obtain ⟨h1, h2, h3⟩ := wleft_spec h j (by omega)
    have hf := ffN_spec (falls_of_invs (l := wleft l j) (by omega))
    have hlt : gi (wleft l j) (ffN (wleft l j)) < gi (wleft l j) (ffN (wleft l j) - 1) := by have := hf.2.2.2.1; unfold fallB at this; exact of_decide_eq_true this
    refine ⟨by rw [wleft, swL_len, h1], swL_pok h2 hf.2.1 hf.2.2.1, ?_⟩
    have := swL_invs hf.2.1 hf.2.2.1 hlt
    rw [wleft]; omega
end Go.Proofs.YtigffblelngpjaaDoor
