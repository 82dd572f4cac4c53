/- Plain facts on counting and on permutations as lists of numbers: ranks, and the relation of the pairs that cross. No program in sight. -/
import Derived.Test.YtpcbadagffeehaaPchk
namespace Go.Proofs.Ytpcbadagffeehaa
set_option linter.unusedVariables false
set_option linter.unusedSimpArgs false
open Go

/-! ### Counting over 1 .. n -/
def sm : Nat → (Nat → Int) → Int
  | 0, _ => 0
  | n + 1, f => sm n f + f (n + 1)
def tf (b : Bool) : Int := if b then 1 else 0
def cnt (n : Nat) (p : Nat → Bool) : Int := sm n fun j => tf (p j)
theorem tf_true : tf true = 1 := rfl
theorem tf_false : tf false = 0 := rfl
theorem tf_bd (b : Bool) : 0 ≤ tf b ∧ tf b ≤ 1 := by cases b <;> simp [tf]
theorem sm_congr {n : Nat} {f g : Nat → Int} (h : ∀ j, 1 ≤ j → j ≤ n → f j = g j) : sm n f = sm n g := by
  induction n with
  | zero => rfl
  | succ n ih => rw [sm, sm, ih fun j h1 h2 => h j h1 (by omega), h (n + 1) (by omega) (by omega)]
theorem sm_le {n : Nat} {f g : Nat → Int} (h : ∀ j, 1 ≤ j → j ≤ n → f j ≤ g j) : sm n f ≤ sm n g := by
  induction n with
  | zero => exact Int.le_refl _
  | succ n ih => rw [sm, sm]; have := ih fun j h1 h2 => h j h1 (by omega); have := h (n + 1) (by omega) (by omega); omega
theorem sm_lt {n : Nat} {f g : Nat → Int} (h : ∀ j, 1 ≤ j → j ≤ n → f j ≤ g j) {i : Nat} (h1 : 1 ≤ i) (h2 : i ≤ n) (hi : f i < g i) : sm n f < sm n g := by
  induction n with
  | zero => omega
  | succ n ih =>
    rw [sm, sm]
    by_cases e : i = n + 1
    · subst e; have := sm_le (n := n) (f := f) (g := g) fun j h1 h2 => h j h1 (by omega); omega
    · have := ih (fun j h1 h2 => h j h1 (by omega)) (by omega); have := h (n + 1) (by omega) (by omega); omega
theorem sm_add (n : Nat) (f g : Nat → Int) : sm n (fun j => f j + g j) = sm n f + sm n g := by
  induction n with
  | zero => rfl
  | succ n ih => simp only [sm, ih]; omega
theorem sm_sub (n : Nat) (f g : Nat → Int) : sm n (fun j => f j - g j) = sm n f - sm n g := by
  induction n with
  | zero => rfl
  | succ n ih => simp only [sm, ih]; omega
theorem sm_zero {n : Nat} {f : Nat → Int} (h : ∀ j, 1 ≤ j → j ≤ n → f j = 0) : sm n f = 0 := by
  induction n with
  | zero => rfl
  | succ n ih => rw [sm, ih fun j h1 h2 => h j h1 (by omega), h (n + 1) (by omega) (by omega)]; rfl
theorem sm_nonneg {n : Nat} {f : Nat → Int} (h : ∀ j, 1 ≤ j → j ≤ n → 0 ≤ f j) : 0 ≤ sm n f := by
  have := sm_le (n := n) (f := fun _ => 0) (g := f) h
  rwa [sm_zero fun _ _ _ => rfl] at this
theorem sm_one (n : Nat) : sm n (fun _ => 1) = n := by
  induction n with
  | zero => rfl
  | succ n ih => simp only [sm, ih]; omega
theorem sm_comm (n m : Nat) (f : Nat → Nat → Int) : sm n (fun i => sm m fun j => f i j) = sm m fun j => sm n fun i => f i j := by
  induction n with
  | zero => exact (sm_zero fun _ _ _ => rfl).symm
  | succ n ih => simp only [sm, ih]; rw [← sm_add]
theorem sm_pick {n : Nat} {f : Nat → Int} {u : Nat} (h1 : 1 ≤ u) (h2 : u ≤ n) (h : ∀ j, 1 ≤ j → j ≤ n → j ≠ u → f j = 0) : sm n f = f u := by
  induction n with
  | zero => omega
  | succ n ih =>
    rw [sm]
    by_cases e : u = n + 1
    · subst e; rw [sm_zero fun j h1 h2 => h j h1 (by omega) (by omega)]; omega
    · rw [ih (by omega) fun j h1 h2 h3 => h j h1 (by omega) h3, h (n + 1) (by omega) (by omega) (fun e' => e e'.symm)]; omega
theorem sm_pos {n : Nat} {f : Nat → Int} (h0 : ∀ j, 1 ≤ j → j ≤ n → 0 ≤ f j) (h : 0 < sm n f) : ∃ j, 1 ≤ j ∧ j ≤ n ∧ 0 < f j := by
  induction n with
  | zero => simp [sm] at h
  | succ n ih =>
    rw [sm] at h
    by_cases e : 0 < f (n + 1)
    · exact ⟨n + 1, by omega, by omega, e⟩
    · have := h0 (n + 1) (by omega) (by omega)
      obtain ⟨j, a, b, c⟩ := ih (fun j h1 h2 => h0 j h1 (by omega)) (by omega)
      exact ⟨j, a, by omega, c⟩
theorem cnt_congr {n : Nat} {p q : Nat → Bool} (h : ∀ j, 1 ≤ j → j ≤ n → p j = q j) : cnt n p = cnt n q := sm_congr fun j h1 h2 => by rw [h j h1 h2]
theorem cnt_nonneg (n : Nat) (p : Nat → Bool) : 0 ≤ cnt n p := sm_nonneg fun j _ _ => (tf_bd _).1
theorem cnt_le (n : Nat) (p : Nat → Bool) : cnt n p ≤ n := by
  have := sm_le (n := n) (f := fun j => tf (p j)) (g := fun _ => 1) fun j _ _ => (tf_bd _).2
  rwa [sm_one] at this
theorem cnt_lt_of {n : Nat} {p q : Nat → Bool} (h : ∀ j, 1 ≤ j → j ≤ n → p j = true → q j = true) {i : Nat} (h1 : 1 ≤ i) (h2 : i ≤ n) (hp : p i = false) (hq : q i = true) : cnt n p < cnt n q := by
  refine sm_lt (fun j a b => ?_) h1 h2 (by rw [hp, hq]; decide)
  cases hj : p j with
  | false => exact (tf_bd _).1
  | true => rw [h j a b hj]; exact Int.le_refl _
theorem cnt_below {n i : Nat} (h1 : 1 ≤ i) (h : i ≤ n + 1) : cnt n (fun j => decide (j < i)) = (i : Int) - 1 := by
  induction n with
  | zero => have : i = 1 := by omega
            subst this; rfl
  | succ n ih =>
    simp only [cnt, sm] at *
    by_cases e : i = n + 1 + 1
    · subst e
      have : sm n (fun j => tf (decide (j < n + 1 + 1))) = sm n fun _ => 1 := sm_congr fun j a b => by rw [decide_eq_true (by omega)]; rfl
      rw [this, sm_one, decide_eq_true (by omega), tf_true]; omega
    · rw [ih (by omega), decide_eq_false (by omega), tf_false]; omega

/-! ### A relation that is closed both ways, and its ranks -/
def Trn (n : Nat) (C : Nat → Nat → Bool) : Prop := ∀ a b c, 1 ≤ a → a < b → b < c → c ≤ n → C a b = true → C b c = true → C a c = true
def Cot (n : Nat) (C : Nat → Nat → Bool) : Prop := ∀ a b c, 1 ≤ a → a < b → b < c → c ≤ n → C a c = true → C a b = true ∨ C b c = true
/-- i comes ahead of j. -/
def prec (C : Nat → Nat → Bool) (i j : Nat) : Bool := (decide (i < j) && !C i j) || (decide (j < i) && C j i)
def rank (n : Nat) (C : Nat → Nat → Bool) (i : Nat) : Int := 1 + cnt n fun j => prec C j i
theorem prec_irrefl (C : Nat → Nat → Bool) (i : Nat) : prec C i i = false := by simp [prec]
theorem prec_lt {C : Nat → Nat → Bool} {i j : Nat} (h : i < j) : prec C i j = !C i j := by simp [prec, h, show ¬ j < i by omega]
theorem prec_gt {C : Nat → Nat → Bool} {i j : Nat} (h : j < i) : prec C i j = C j i := by simp [prec, h, show ¬ i < j by omega]
theorem prec_total {C : Nat → Nat → Bool} {i j : Nat} (h : i ≠ j) : prec C i j = true ∨ prec C j i = true := by
  rcases Nat.lt_or_gt_of_ne h with h | h
  · rw [prec_lt h, prec_gt h]; cases C i j <;> simp
  · rw [prec_lt h, prec_gt h]; cases C j i <;> simp
theorem prec_trans {n : Nat} {C : Nat → Nat → Bool} (ht : Trn n C) (hc : Cot n C) {i j k : Nat} (i1 : 1 ≤ i) (i2 : i ≤ n) (j1 : 1 ≤ j) (j2 : j ≤ n) (k1 : 1 ≤ k) (k2 : k ≤ n)
    (h : prec C i j = true) (h' : prec C j k = true) : prec C i k = true := by
  have hij : i ≠ j := fun e => by subst e; rw [prec_irrefl] at h; cases h
  have hjk : j ≠ k := fun e => by subst e; rw [prec_irrefl] at h'; cases h'
  have hik : i ≠ k := fun e => by
    subst e
    rcases Nat.lt_or_gt_of_ne hij with l | l
    · rw [prec_lt l] at h; rw [prec_gt l] at h'; rw [h'] at h; cases h
    · rw [prec_gt l] at h; rw [prec_lt l] at h'; rw [h] at h'; cases h'
  rcases Nat.lt_or_gt_of_ne hij with l1 | l1 <;> rcases Nat.lt_or_gt_of_ne hjk with l2 | l2 <;> rcases Nat.lt_or_gt_of_ne hik with l3 | l3 <;> try omega
  all_goals
    first
      | rw [prec_lt l1] at h
      | rw [prec_gt l1] at h
    first
      | rw [prec_lt l2] at h'
      | rw [prec_gt l2] at h'
    first
      | rw [prec_lt l3]
      | rw [prec_gt l3]
  · -- i < j < k
    cases e : C i k with
    | false => rfl
    | true => rcases hc i j k i1 l1 l2 k2 e with x | x <;> simp [x] at h h'
  · -- i < k < j
    cases e : C i k with
    | false => rfl
    | true => have := ht i k j i1 l3 l2 j2 e h'; simp [this] at h
  · -- k < i < j
    rcases hc k i j k1 l3 l1 j2 h' with x | x
    · exact x
    · simp [x] at h
  · -- j < i < k
    cases e : C i k with
    | false => rfl
    | true => have := ht j i k j1 l1 l3 k2 h e; simp [this] at h'
  · -- j < k < i
    rcases hc j k i j1 l2 l3 i2 h with x | x
    · simp [x] at h'
    · exact x
  · exact ht k j i k1 l2 l1 i2 h' h
theorem rank_lt {n : Nat} {C : Nat → Nat → Bool} (ht : Trn n C) (hc : Cot n C) {i j : Nat} (i1 : 1 ≤ i) (i2 : i ≤ n) (j1 : 1 ≤ j) (j2 : j ≤ n) (h : prec C i j = true) : rank n C i < rank n C j := by
  unfold rank
  have := cnt_lt_of (n := n) (p := fun k => prec C k i) (q := fun k => prec C k j) (fun k a b hk => prec_trans ht hc a b i1 i2 j1 j2 hk h) i1 i2 (prec_irrefl _ _) h
  omega
theorem rank_lt_iff {n : Nat} {C : Nat → Nat → Bool} (ht : Trn n C) (hc : Cot n C) {i j : Nat} (i1 : 1 ≤ i) (i2 : i ≤ n) (j1 : 1 ≤ j) (j2 : j ≤ n) : rank n C i < rank n C j ↔ prec C i j = true := by
  refine ⟨fun h => ?_, rank_lt ht hc i1 i2 j1 j2⟩
  by_cases e : i = j
  · subst e; omega
  · rcases prec_total (C := C) e with x | x
    · exact x
    · have := rank_lt ht hc j1 j2 i1 i2 x; omega
theorem rank_bd {n : Nat} {C : Nat → Nat → Bool} {i : Nat} (i1 : 1 ≤ i) (i2 : i ≤ n) : 1 ≤ rank n C i ∧ rank n C i ≤ n := by
  unfold rank
  refine ⟨by have := cnt_nonneg n fun j => prec C j i; omega, ?_⟩
  have := cnt_lt_of (n := n) (p := fun k => prec C k i) (q := fun _ => true) (fun _ _ _ _ => rfl) i1 i2 (prec_irrefl _ _) rfl
  have := cnt_le n fun _ => true
  omega
/-- The rank, as the code counts it. -/
theorem rank_eq {n : Nat} {C : Nat → Nat → Bool} {i : Nat} (i1 : 1 ≤ i) (i2 : i ≤ n) :
    rank n C i = (i : Int) + cnt n (fun b => decide (i < b) && C i b) - cnt n (fun a => decide (a < i) && C a i) := by
  unfold rank
  have h1 : cnt n (fun j => decide (j < i)) = (i : Int) - 1 := cnt_below i1 (by omega)
  have h2 : cnt n (fun j => prec C j i) = cnt n (fun j => decide (j < i)) - cnt n (fun a => decide (a < i) && C a i) + cnt n (fun b => decide (i < b) && C i b) := by
    simp only [cnt]
    rw [← sm_sub, ← sm_add]
    refine sm_congr fun j _ _ => ?_
    rcases Nat.lt_trichotomy j i with l | l | l
    · rw [prec_lt l]; simp only [decide_eq_true l, decide_eq_false (show ¬ i < j by omega)]; cases C j i <;> rfl
    · subst l; rw [prec_irrefl]; simp [tf]
    · rw [prec_gt l]; simp only [decide_eq_true l, decide_eq_false (show ¬ j < i by omega)]; cases C i j <;> rfl
  omega

/-! ### Warshall -/
def wround (C : Nat → Nat → Bool) (m : Nat) : Nat → Nat → Bool := fun a c => C a c || (decide (a < m) && decide (m < c) && C a m && C m c)
def wsh (E : Nat → Nat → Bool) : Nat → Nat → Nat → Bool
  | 0 => E
  | k + 1 => wround (wsh E k) k
theorem wround_le (C : Nat → Nat → Bool) (m : Nat) {a c : Nat} (h : C a c = true) : wround C m a c = true := by simp [wround, h]
theorem wround_new {C : Nat → Nat → Bool} {m a c : Nat} (h1 : a < m) (h2 : m < c) (h3 : C a m = true) (h4 : C m c = true) : wround C m a c = true := by simp [wround, h1, h2, h3, h4]
theorem wround_cases {C : Nat → Nat → Bool} {m a c : Nat} (h : wround C m a c = true) : C a c = true ∨ (a < m ∧ m < c ∧ C a m = true ∧ C m c = true) := by
  simp only [wround, Bool.or_eq_true, Bool.and_eq_true, decide_eq_true_eq] at h
  rcases h with h | ⟨⟨⟨h1, h2⟩, h3⟩, h4⟩
  · exact .inl h
  · exact .inr ⟨h1, h2, h3, h4⟩
theorem wsh_le (E : Nat → Nat → Bool) {a c : Nat} (h : E a c = true) : ∀ k, wsh E k a c = true
  | 0 => h
  | k + 1 => wround_le _ _ (wsh_le E h k)
theorem wsh_least {n : Nat} {E D : Nat → Nat → Bool} (hE : ∀ a c, E a c = true → 1 ≤ a ∧ a < c ∧ c ≤ n ∧ D a c = true) (ht : Trn n D) : ∀ k a c, wsh E k a c = true → 1 ≤ a ∧ a < c ∧ c ≤ n ∧ D a c = true
  | 0, a, c, h => hE a c h
  | k + 1, a, c, h => by
    rcases wround_cases h with h | ⟨h1, h2, h3, h4⟩
    · exact wsh_least hE ht k a c h
    · have x := wsh_least hE ht k _ _ h3
      have y := wsh_least hE ht k _ _ h4
      exact ⟨x.1, by omega, y.2.2.1, ht a k c x.1 h1 h2 y.2.2.1 x.2.2.2 y.2.2.2⟩
theorem wsh_cot {n : Nat} {E : Nat → Nat → Bool} (h : Cot n E) : ∀ k, Cot n (wsh E k)
  | 0 => h
  | k + 1 => fun a b c a1 ab bc cn hac => by
    have ih := wsh_cot h k
    rcases wround_cases hac with hac | ⟨h1, h2, h3, h4⟩
    · rcases ih a b c a1 ab bc cn hac with x | x
      · exact .inl (wround_le _ _ x)
      · exact .inr (wround_le _ _ x)
    · rcases Nat.lt_trichotomy b k with l | l | l
      · rcases ih a b k a1 ab l (by omega) h3 with x | x
        · exact .inl (wround_le _ _ x)
        · exact .inr (wround_new l h2 x h4)
      · subst l; exact .inl (wround_le _ _ h3)
      · rcases ih k b c (by omega) l bc cn h4 with x | x
        · exact .inl (wround_new h1 l h3 x)
        · exact .inr (wround_le _ _ x)
theorem wsh_part {E : Nat → Nat → Bool} : ∀ k a b c, a < b → b < c → b < k → wsh E k a b = true → wsh E k b c = true → wsh E k a c = true
  | 0, a, b, c, _, _, h, _, _ => absurd h (Nat.not_lt_zero _)
  | k + 1, a, b, c, ab, bc, bk, h1, h2 => by
    have ih := @wsh_part E k
    by_cases e : b = k
    · subst e
      rcases wround_cases h1 with h1 | ⟨_, x, _⟩
      · rcases wround_cases h2 with h2 | ⟨x, _⟩
        · exact wround_new ab bc h1 h2
        · omega
      · omega
    · rcases wround_cases h1 with h1 | ⟨_, x, _⟩
      · rcases wround_cases h2 with h2 | ⟨_, x, y, z⟩
        · exact wround_le _ _ (ih a b c ab bc (by omega) h1 h2)
        · exact wround_new (by omega) x (ih a b k ab (by omega) (by omega) h1 y) z
      · omega
theorem wsh_trn {n : Nat} {E : Nat → Nat → Bool} {k : Nat} (hk : n ≤ k) : Trn n (wsh E k) := fun a b c _ ab bc cn h1 h2 => wsh_part k a b c ab bc (by omega) h1 h2

/-! ### Permutations -/
/-- The number of strand i. -/
def pv (xs : List Int) (i : Nat) : Nat := (gi xs (i - 1)).toNat
def crB (xs : List Int) (a b : Nat) : Bool := decide (gi xs (b - 1) < gi xs (a - 1))
theorem pok_bd {xs : List Int} (h : pok xs) {i : Nat} (h1 : 1 ≤ i) (h2 : i ≤ xs.length) : 1 ≤ gi xs (i - 1) ∧ gi xs (i - 1) ≤ (xs.length : Int) := h.1 _ (gi_mem (by omega))
theorem pok_inj {xs : List Int} (h : pok xs) {i j : Nat} (h1 : 1 ≤ i) (h2 : i ≤ xs.length) (h3 : 1 ≤ j) (h4 : j ≤ xs.length) (e : gi xs (i - 1) = gi xs (j - 1)) : i = j := by
  rw [gi_of_lt (show i - 1 < xs.length by omega), gi_of_lt (show j - 1 < xs.length by omega)] at e
  have := (List.getElem_inj h.2).1 e
  omega
theorem pok_mk {xs : List Int} (h : ∀ i, 1 ≤ i → i ≤ xs.length → 1 ≤ gi xs (i - 1) ∧ gi xs (i - 1) ≤ (xs.length : Int)) (hi : ∀ i j, 1 ≤ i → i < j → j ≤ xs.length → gi xs (i - 1) ≠ gi xs (j - 1)) : pok xs := by
  refine ⟨gi_all fun i hi' => ?_, ?_⟩
  · have := h (i + 1) (by omega) (by omega); rwa [Nat.add_sub_cancel] at this
  · rw [List.nodup_iff_pairwise_ne, List.pairwise_iff_getElem]
    intro i j h1 h2 hij
    have := hi (i + 1) (j + 1) (by omega) (by omega) (by omega)
    rwa [Nat.add_sub_cancel, Nat.add_sub_cancel, gi_of_lt h1, gi_of_lt h2] at this
theorem cnt_eq_le {xs : List Int} (h : pok xs) (v : Int) {n : Nat} (hn : n ≤ xs.length) : cnt n (fun j => decide (gi xs (j - 1) = v)) ≤ 1 := by
  induction n with
  | zero => simp [cnt, sm]
  | succ n ih =>
    simp only [cnt, sm] at *
    by_cases e : gi xs (n + 1 - 1) = v
    · have : sm n (fun j => tf (decide (gi xs (j - 1) = v))) = 0 := sm_zero fun j h1 h2 => by
        rw [decide_eq_false (fun e' => by have := pok_inj h h1 (by omega) (by omega) (by omega) (e'.trans e.symm); omega)]; rfl
      rw [this]; have := (tf_bd (decide (gi xs (n + 1 - 1) = v))).2; omega
    · rw [decide_eq_false e]; have := ih (by omega); simp only [tf_false]; omega
/-- How many are less than a number. -/
theorem cnt_def (n : Nat) (p : Nat → Bool) : cnt n p = sm n fun j => tf (p j) := rfl
theorem cnt_less {xs : List Int} (h : pok xs) : ∀ v : Nat, 1 ≤ v → v ≤ xs.length + 1 → cnt xs.length (fun j => decide (gi xs (j - 1) < (v : Int))) = (v : Int) - 1 := by
  have hs : ∀ v : Nat, cnt xs.length (fun j => decide (gi xs (j - 1) < ((v + 1 : Nat) : Int))) = cnt xs.length (fun j => decide (gi xs (j - 1) < (v : Int))) + cnt xs.length (fun j => decide (gi xs (j - 1) = (v : Int))) := fun v => by
    simp only [cnt]
    rw [← sm_add]
    refine sm_congr fun j _ _ => ?_
    by_cases a : gi xs (j - 1) < (v : Int)
    · rw [decide_eq_true a, decide_eq_true (show gi xs (j - 1) < ((v + 1 : Nat) : Int) by omega), decide_eq_false (by omega)]; rfl
    · by_cases b : gi xs (j - 1) = (v : Int)
      · rw [decide_eq_false a, decide_eq_true b, decide_eq_true (by omega)]; rfl
      · rw [decide_eq_false a, decide_eq_false b, decide_eq_false (by omega)]; rfl
  have h1 : cnt xs.length (fun j => decide (gi xs (j - 1) < ((1 : Nat) : Int))) = 0 := (cnt_def _ _).trans <| sm_zero fun j a b => by
    rw [decide_eq_false (by have := pok_bd h a b; omega)]; rfl
  have h2 : cnt xs.length (fun j => decide (gi xs (j - 1) < ((xs.length + 1 : Nat) : Int))) = xs.length := by
    have : cnt xs.length (fun j => decide (gi xs (j - 1) < ((xs.length + 1 : Nat) : Int))) = sm xs.length fun _ => 1 := (cnt_def _ _).trans <| sm_congr fun j a b => by
      rw [decide_eq_true (by have := pok_bd h a b; omega)]; rfl
    rw [this, sm_one]
  have up : ∀ v : Nat, 1 ≤ v → cnt xs.length (fun j => decide (gi xs (j - 1) < (v : Int))) ≤ (v : Int) - 1 := fun v => by
    induction v with
    | zero => intro h; omega
    | succ v ih =>
      intro _
      by_cases e : v = 0
      · subst e; rw [h1]; omega
      · have := ih (by omega)
        have := cnt_eq_le h (v : Int) (Nat.le_refl xs.length)
        rw [hs]; omega
  have down : ∀ d v : Nat, 1 ≤ v → v + d = xs.length + 1 → (v : Int) - 1 ≤ cnt xs.length (fun j => decide (gi xs (j - 1) < (v : Int))) := fun d => by
    induction d with
    | zero => intro v _ e; obtain rfl : v = xs.length + 1 := by omega
              rw [h2]; omega
    | succ d ih =>
      intro v hv e
      have := ih (v + 1) (by omega) (by omega)
      have := cnt_eq_le h (v : Int) (Nat.le_refl xs.length)
      rw [hs] at *; omega
  intro v hv hle
  have := up v hv
  have := down (xs.length + 1 - v) v hv (by omega)
  omega
theorem pok_surj {xs : List Int} (h : pok xs) {v : Nat} (h1 : 1 ≤ v) (h2 : v ≤ xs.length) : cnt xs.length (fun j => decide (gi xs (j - 1) = (v : Int))) = 1 := by
  have a := cnt_less h v h1 (by omega)
  have b := cnt_less h (v + 1) (by omega) (by omega)
  have hs : cnt xs.length (fun j => decide (gi xs (j - 1) < ((v + 1 : Nat) : Int))) = cnt xs.length (fun j => decide (gi xs (j - 1) < (v : Int))) + cnt xs.length (fun j => decide (gi xs (j - 1) = (v : Int))) := by
    simp only [cnt]
    rw [← sm_add]
    refine sm_congr fun j _ _ => ?_
    by_cases a : gi xs (j - 1) < (v : Int)
    · rw [decide_eq_true a, decide_eq_true (show gi xs (j - 1) < ((v + 1 : Nat) : Int) by omega), decide_eq_false (by omega)]; rfl
    · by_cases b : gi xs (j - 1) = (v : Int)
      · rw [decide_eq_false a, decide_eq_true b, decide_eq_true (by omega)]; rfl
      · rw [decide_eq_false a, decide_eq_false b, decide_eq_false (by omega)]; rfl
  omega
theorem pok_onto {xs : List Int} (h : pok xs) {v : Nat} (h1 : 1 ≤ v) (h2 : v ≤ xs.length) : ∃ i, 1 ≤ i ∧ i ≤ xs.length ∧ gi xs (i - 1) = (v : Int) := by
  obtain ⟨j, a, b, c⟩ := sm_pos (n := xs.length) (f := fun j => tf (decide (gi xs (j - 1) = (v : Int)))) (fun _ _ _ => (tf_bd _).1) (by have := pok_surj h h1 h2; rw [cnt_def] at this; omega)
  refine ⟨j, a, b, ?_⟩
  by_cases e : gi xs (j - 1) = (v : Int)
  · exact e
  · rw [decide_eq_false e] at c; simp [tf] at c
theorem crB_trn {xs : List Int} (n : Nat) : Trn n (crB xs) := fun a b c _ _ _ _ h1 h2 => by
  simp only [crB, decide_eq_true_eq] at *; omega
theorem crB_cot {xs : List Int} (n : Nat) : Cot n (crB xs) := fun a b c _ _ _ _ h => by
  simp only [crB, decide_eq_true_eq] at *; omega
/-- A permutation's number is the rank under what crosses. -/
theorem pok_rank {xs : List Int} (h : pok xs) {i : Nat} (h1 : 1 ≤ i) (h2 : i ≤ xs.length) : gi xs (i - 1) = rank xs.length (crB xs) i := by
  have hb := pok_bd h h1 h2
  obtain ⟨v, hv⟩ : ∃ v : Nat, gi xs (i - 1) = (v : Int) := ⟨(gi xs (i - 1)).toNat, by omega⟩
  have hl := cnt_less h v (by omega) (by omega)
  unfold rank
  have : cnt xs.length (fun j => prec (crB xs) j i) = cnt xs.length (fun j => decide (gi xs (j - 1) < (v : Int))) := by
    refine cnt_congr fun j a b => ?_
    rcases Nat.lt_trichotomy j i with l | l | l
    · rw [prec_lt l]
      have : gi xs (j - 1) ≠ gi xs (i - 1) := fun e => by have := pok_inj h a b h1 h2 e; omega
      simp only [crB, hv] at *
      rw [Bool.eq_iff_iff]; simp; omega
    · subst l; rw [prec_irrefl, hv]; simp
    · rw [prec_gt l]; simp only [crB, hv]
  rw [this, hl, hv]; omega
theorem crB_ext {xs ys : List Int} (hx : pok xs) (hy : pok ys) (hl : xs.length = ys.length) (h : ∀ a b, 1 ≤ a → a < b → b ≤ xs.length → crB xs a b = crB ys a b) : xs = ys := by
  refine gi_ext hl fun i hi => ?_
  have a := pok_rank hx (i := i + 1) (by omega) (by omega)
  have b := pok_rank hy (i := i + 1) (by omega) (by omega)
  rw [Nat.add_sub_cancel] at a b
  rw [a, b, ← hl]
  unfold rank
  congr 1
  refine cnt_congr fun j j1 j2 => ?_
  rcases Nat.lt_trichotomy j (i + 1) with l | l | l
  · rw [prec_lt l, prec_lt l, h j (i + 1) j1 l (by omega)]
  · subst l; rw [prec_irrefl, prec_irrefl]
  · rw [prec_gt l, prec_gt l, h (i + 1) j (by omega) l j2]
/-- The list of the ranks of a relation that is closed both ways. -/
def rankL (n : Nat) (C : Nat → Nat → Bool) : List Int := (List.range n).map fun i => rank n C (i + 1)
theorem rankL_len (n : Nat) (C : Nat → Nat → Bool) : (rankL n C).length = n := by simp [rankL]
theorem rankL_gi {n : Nat} {C : Nat → Nat → Bool} {i : Nat} (h1 : 1 ≤ i) (h2 : i ≤ n) : gi (rankL n C) (i - 1) = rank n C i := by
  unfold rankL; rw [gi_range_map _ (by omega), Nat.sub_add_cancel h1]
theorem rankL_pok {n : Nat} {C : Nat → Nat → Bool} (ht : Trn n C) (hc : Cot n C) : pok (rankL n C) := by
  refine pok_mk (fun i h1 h2 => ?_) (fun i j h1 h2 h3 => ?_)
  · rw [rankL_len] at *; rw [rankL_gi h1 h2]; exact rank_bd h1 h2
  · rw [rankL_len] at *
    rw [rankL_gi h1 (by omega), rankL_gi (by omega) h3]
    rcases prec_total (C := C) (show i ≠ j by omega) with x | x
    · have := rank_lt ht hc h1 (by omega) (by omega) h3 x; omega
    · have := rank_lt ht hc (by omega) h3 h1 (by omega) x; omega
theorem rankL_cr {n : Nat} {C : Nat → Nat → Bool} (ht : Trn n C) (hc : Cot n C) {a b : Nat} (h1 : 1 ≤ a) (h2 : a < b) (h3 : b ≤ n) : crB (rankL n C) a b = C a b := by
  unfold crB
  rw [rankL_gi h1 (by omega), rankL_gi (by omega) h3, Bool.eq_iff_iff, decide_eq_true_eq, rank_lt_iff ht hc (by omega) h3 h1 (by omega), prec_gt h2]

/-- Sums over a permutation's numbers. -/
theorem sm_reindex {xs : List Int} (h : pok xs) (f : Nat → Int) : sm xs.length f = sm xs.length fun i => f (pv xs i) := by
  have e1 : sm xs.length f = sm xs.length fun u => sm xs.length fun i => if pv xs i = u then f u else 0 := sm_congr fun u u1 u2 => by
    obtain ⟨i, i1, i2, hi⟩ := pok_onto h u1 u2
    rw [sm_pick i1 i2 (f := fun i => if pv xs i = u then f u else 0) fun j j1 j2 hj => if_neg fun e => hj (pok_inj h j1 j2 i1 i2 (by have := pok_bd h j1 j2; unfold pv at e; omega))]
    rw [if_pos (by unfold pv; omega)]
  rw [e1, sm_comm]
  refine sm_congr fun i i1 i2 => ?_
  have hb := pok_bd h i1 i2
  rw [sm_pick (u := pv xs i) (by unfold pv; omega) (by unfold pv; omega) fun j _ _ hj => if_neg fun e => hj e.symm, if_pos rfl]
end Go.Proofs.Ytpcbadagffeehaa
