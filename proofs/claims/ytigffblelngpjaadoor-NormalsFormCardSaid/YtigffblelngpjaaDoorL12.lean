/- Texts of this claim in one file: libraries and walks. -/
/- Permutations as functions, lists of them, and the moves of letters from one to the one before it: each list has one list in which no letter can be moved. No program in sight. -/
namespace Go.Proofs.YtigffblelngpjaaDoor
set_option linter.unusedVariables false
set_option linter.unusedSimpArgs false

/-- k and k + 1 exchanged. -/
def sk (k i : Nat) : Nat := if i = k then k + 1 else if i = k + 1 then k else i
theorem sk_sk (k i : Nat) : sk k (sk k i) = i := by
  unfold sk; repeat' split
  all_goals omega
theorem sk_lt {k a b : Nat} (h : a < b) (hne : ¬ (a = k ∧ b = k + 1)) : sk k a < sk k b := by
  unfold sk; repeat' split
  all_goals omega
theorem sk_k (k : Nat) : sk k k = k + 1 := if_pos rfl
theorem sk_k1 (k : Nat) : sk k (k + 1) = k := by unfold sk; rw [if_neg (by omega), if_pos rfl]
theorem sk_of {k i : Nat} (h1 : i ≠ k) (h2 : i ≠ k + 1) : sk k i = i := by unfold sk; rw [if_neg h1, if_neg h2]
theorem sk_far {j k : Nat} (h : j + 2 ≤ k) (i : Nat) : sk j (sk k i) = sk k (sk j i) := by
  unfold sk; repeat' split
  all_goals omega
theorem sk_braid (k i : Nat) : sk k (sk (k + 1) (sk k i)) = sk (k + 1) (sk k (sk (k + 1) i)) := by
  by_cases h1 : i = k
  · subst h1; rw [sk_k, sk_k, sk_of (show i + 1 + 1 ≠ i by omega) (by omega), sk_of (show i ≠ i + 1 by omega) (by omega), sk_k, sk_k]
  by_cases h2 : i = k + 1
  · subst h2; rw [sk_k1, sk_of (show k ≠ k + 1 by omega) (by omega), sk_k, sk_k, sk_of (show k + 1 + 1 ≠ k by omega) (by omega), sk_k1]
  by_cases h3 : i = k + 2
  · subst h3; rw [sk_of (show k + 2 ≠ k by omega) (by omega), show k + 2 = k + 1 + 1 from rfl, sk_k1, sk_k1, sk_of (by omega) (by omega)]
  · rw [sk_of h1 h2, sk_of h2 (by omega), sk_of h1 h2, sk_of h2 (by omega)]

/-- A permutation, and the way back. -/
structure Pm where
  f : Nat → Nat
  g : Nat → Nat
  fg : ∀ i, f (g i) = i
  gf : ∀ i, g (f i) = i
theorem Pm.ext' {p q : Pm} (h : ∀ i, p.f i = q.f i) : p = q := by
  obtain ⟨f, g, fg, gf⟩ := p
  obtain ⟨f', g', fg', gf'⟩ := q
  obtain rfl : f = f' := funext h
  obtain rfl : g = g' := funext fun i => by
    have := gf (g' i)
    rw [fg'] at this
    exact this
  rfl
theorem Pm.inj (p : Pm) {i j : Nat} (h : p.f i = p.f j) : i = j := by rw [← p.gf i, h, p.gf]
theorem Pm.ginj (p : Pm) {i j : Nat} (h : p.g i = p.g j) : i = j := by rw [← p.fg i, h, p.fg]
def Pm.one : Pm := ⟨id, id, fun _ => rfl, fun _ => rfl⟩
/-- First p, then q. -/
def Pm.mul (p q : Pm) : Pm := ⟨fun i => q.f (p.f i), fun i => p.g (q.g i), fun i => by simp [p.fg, q.fg], fun i => by simp [p.gf, q.gf]⟩
def Pm.inv (p : Pm) : Pm := ⟨p.g, p.f, p.gf, p.fg⟩
def Pm.s (k : Nat) : Pm := ⟨sk k, sk k, sk_sk k, sk_sk k⟩
/-- The letter k behind p. -/
def Pm.sr (p : Pm) (k : Nat) : Pm := p.mul (Pm.s k)
/-- The letter k ahead of p. -/
def Pm.sl (k : Nat) (p : Pm) : Pm := (Pm.s k).mul p
theorem Pm.mul_assoc (p q r : Pm) : (p.mul q).mul r = p.mul (q.mul r) := Pm.ext' fun _ => rfl
theorem Pm.one_mul (p : Pm) : Pm.one.mul p = p := Pm.ext' fun _ => rfl
theorem Pm.mul_one (p : Pm) : p.mul Pm.one = p := Pm.ext' fun _ => rfl
theorem Pm.mul_inv (p : Pm) : p.mul p.inv = Pm.one := Pm.ext' fun i => p.gf i
theorem Pm.inv_mul (p : Pm) : p.inv.mul p = Pm.one := Pm.ext' fun i => p.fg i
theorem Pm.s_s (k : Nat) : (Pm.s k).mul (Pm.s k) = Pm.one := Pm.ext' fun i => sk_sk k i
theorem Pm.sr_sr (p : Pm) (k : Nat) : (p.sr k).sr k = p := by unfold Pm.sr; rw [Pm.mul_assoc, Pm.s_s, Pm.mul_one]
theorem Pm.sl_sl (p : Pm) (k : Nat) : Pm.sl k (Pm.sl k p) = p := by unfold Pm.sl; rw [← Pm.mul_assoc, Pm.s_s, Pm.one_mul]
theorem Pm.sr_sl (p q : Pm) (k : Nat) : (p.sr k).mul (Pm.sl k q) = p.mul q := by
  unfold Pm.sr Pm.sl; rw [Pm.mul_assoc, ← Pm.mul_assoc (Pm.s k), Pm.s_s, Pm.one_mul]
theorem Pm.sl_mul (p q : Pm) (k : Nat) : (Pm.sl k p).mul q = Pm.sl k (p.mul q) := Pm.mul_assoc _ _ _
theorem Pm.mul_sr (p q : Pm) (k : Nat) : p.mul (q.sr k) = (p.mul q).sr k := (Pm.mul_assoc _ _ _).symm
theorem Pm.sl_sr (p : Pm) (j k : Nat) : (Pm.sl j p).sr k = Pm.sl j (p.sr k) := Pm.mul_assoc _ _ _
/-- p begins with the letter k. -/
def Pm.St (p : Pm) (k : Nat) : Prop := p.f (k + 1) < p.f k
/-- p ends with the letter k. -/
def Pm.En (p : Pm) (k : Nat) : Prop := p.g (k + 1) < p.g k
theorem Pm.f_ne (p : Pm) (k : Nat) : p.f k ≠ p.f (k + 1) := fun h => by have := p.inj h; omega
theorem Pm.g_ne (p : Pm) (k : Nat) : p.g k ≠ p.g (k + 1) := fun h => by have := p.ginj h; omega
theorem Pm.not_St {p : Pm} {k : Nat} (h : ¬ p.St k) : p.f k < p.f (k + 1) := by unfold Pm.St at h; have := p.f_ne k; omega
theorem Pm.not_En {p : Pm} {k : Nat} (h : ¬ p.En k) : p.g k < p.g (k + 1) := by unfold Pm.En at h; have := p.g_ne k; omega
theorem Pm.sr_g (p : Pm) (k i : Nat) : (p.sr k).g i = p.g (sk k i) := rfl
theorem Pm.sr_f (p : Pm) (k i : Nat) : (p.sr k).f i = sk k (p.f i) := rfl
theorem Pm.sl_f (p : Pm) (k i : Nat) : (Pm.sl k p).f i = p.f (sk k i) := rfl
theorem Pm.sl_g (p : Pm) (k i : Nat) : (Pm.sl k p).g i = sk k (p.g i) := rfl
theorem Pm.sr_En {p : Pm} {k : Nat} (h : ¬ p.En k) : (p.sr k).En k := by
  unfold Pm.En; rw [Pm.sr_g, Pm.sr_g, sk_k, sk_k1]; exact Pm.not_En h
theorem Pm.sl_St {p : Pm} {k : Nat} (h : p.St k) : ¬ (Pm.sl k p).St k := by
  unfold Pm.St at *; rw [Pm.sl_f, Pm.sl_f, sk_k, sk_k1]; omega
/-- A letter that is put ahead does not let another one end it. -/
theorem Pm.En_sl {p : Pm} {k m : Nat} (hk : p.St k) (hm : ¬ p.En m) : ¬ (Pm.sl k p).En m := by
  have h := Pm.not_En hm
  unfold Pm.En
  rw [Pm.sl_g, Pm.sl_g]
  have : sk k (p.g m) < sk k (p.g (m + 1)) := sk_lt h fun ⟨e1, e2⟩ => by
    unfold Pm.St at hk
    rw [← e2, ← e1, p.fg, p.fg] at hk; omega
  omega
theorem Pm.St_sr {p : Pm} {k m : Nat} (hk : p.St k) (hm : ¬ p.En m) : (p.sr m).St k := by
  unfold Pm.St at *
  rw [Pm.sr_f, Pm.sr_f]
  exact sk_lt hk fun ⟨e1, e2⟩ => by
    have h := Pm.not_En hm
    rw [← e2, ← e1, p.gf, p.gf] at h; omega

/-! ### Moves -/
inductive Mv : List Pm → List Pm → Prop
  | here (p q : Pm) (k : Nat) (rest : List Pm) : q.St k → ¬ p.En k → Mv (p :: q :: rest) (p.sr k :: Pm.sl k q :: rest)
  | tail (p : Pm) {l l' : List Pm} : Mv l l' → Mv (p :: l) (p :: l')
inductive Star {α : Type} (R : α → α → Prop) : α → α → Prop
  | refl (a : α) : Star R a a
  | step {a b c : α} : R a b → Star R b c → Star R a c
theorem Star.one {α : Type} {R : α → α → Prop} {a b : α} (h : R a b) : Star R a b := .step h (.refl _)
theorem Star.trans {α : Type} {R : α → α → Prop} {a b c : α} (h : Star R a b) (k : Star R b c) : Star R a c := by
  induction h with
  | refl => exact k
  | step h1 _ ih => exact .step h1 (ih k)
theorem Star.map {α β : Type} {R : α → α → Prop} {Q : β → β → Prop} {φ : α → β} (hφ : ∀ a b, R a b → Q (φ a) (φ b)) {a b : α} (h : Star R a b) : Star Q (φ a) (φ b) := by
  induction h with
  | refl => exact .refl _
  | step h1 _ ih => exact .step (hφ _ _ h1) ih
theorem newman {α : Type} {R : α → α → Prop} (lc : ∀ a b c, R a b → R a c → ∃ d, Star R b d ∧ Star R c d) {a : α} (wf : Acc (fun x y => R y x) a) : ∀ b c, Star R a b → Star R a c → ∃ d, Star R b d ∧ Star R c d := by
  induction wf with
  | intro a _ ih =>
    intro b c hb hc
    cases hb with
    | refl => exact ⟨c, hc, .refl _⟩
    | step hb1 hb2 =>
      cases hc with
      | refl => exact ⟨b, .refl _, .step hb1 hb2⟩
      | step hc1 hc2 =>
        obtain ⟨d, hd1, hd2⟩ := lc _ _ _ hb1 hc1
        obtain ⟨e, he1, he2⟩ := ih _ hb1 _ _ hb2 hd1
        obtain ⟨u, hu1, hu2⟩ := ih _ hc1 _ _ (hd2.trans he2) hc2
        exact ⟨u, he1.trans hu1, hu2⟩
theorem Mv.len {l l' : List Pm} (h : Mv l l') : l.length = l'.length := by
  induction h with
  | here => rfl
  | tail _ _ ih => simp [ih]
theorem Mv.app {l l' : List Pm} (h : Mv l l') (m : List Pm) : Mv (l ++ m) (l' ++ m) := by
  induction h with
  | here p q k rest h1 h2 => exact .here p q k (rest ++ m) h1 h2
  | tail p _ ih => exact .tail p ih
theorem Mv.pre {l l' : List Pm} (h : Mv l l') : ∀ (m : List Pm), Mv (m ++ l) (m ++ l')
  | [] => h
  | p :: m => .tail p (Mv.pre h m)
theorem Star.app {l l' : List Pm} (h : Star Mv l l') (m : List Pm) : Star Mv (l ++ m) (l' ++ m) := h.map (φ := (· ++ m)) fun _ _ k => k.app m
theorem Star.pre {l l' : List Pm} (h : Star Mv l l') (m : List Pm) : Star Mv (m ++ l) (m ++ l') := h.map (φ := (m ++ ·)) fun _ _ k => k.pre m
theorem Star.cons {l l' : List Pm} (h : Star Mv l l') (p : Pm) : Star Mv (p :: l) (p :: l') := h.pre [p]
theorem Star.len {l l' : List Pm} (h : Star Mv l l') : l.length = l'.length := by
  induction h with
  | refl => rfl
  | step h1 _ ih => rw [h1.len, ih]

/-! ### The strands beyond n stay -/
def Spt (n : Nat) (p : Pm) : Prop := ∀ i, i = 0 ∨ n < i → p.f i = i
theorem Spt.g {n : Nat} {p : Pm} (h : Spt n p) : ∀ i, i = 0 ∨ n < i → p.g i = i := fun i hi => by
  have := p.gf i; rwa [h i hi] at this
theorem Spt.inv {n : Nat} {p : Pm} (h : Spt n p) : Spt n p.inv := h.g
theorem Spt.in {n : Nat} {p : Pm} (h : Spt n p) {i : Nat} (h1 : 1 ≤ i) (h2 : i ≤ n) : 1 ≤ p.f i ∧ p.f i ≤ n := by
  rcases Nat.eq_zero_or_pos (p.f i) with e | e
  · have := h.g (p.f i) (.inl e); rw [p.gf] at this; omega
  · rcases Nat.lt_or_ge n (p.f i) with e' | e'
    · have := h.g (p.f i) (.inr e'); rw [p.gf] at this; omega
    · exact ⟨e, e'⟩
theorem Spt.gin {n : Nat} {p : Pm} (h : Spt n p) {i : Nat} (h1 : 1 ≤ i) (h2 : i ≤ n) : 1 ≤ p.g i ∧ p.g i ≤ n := h.inv.in h1 h2
theorem Spt.one (n : Nat) : Spt n Pm.one := fun _ _ => rfl
theorem Spt.mul {n : Nat} {p q : Pm} (h : Spt n p) (k : Spt n q) : Spt n (p.mul q) := fun i hi => by
  show q.f (p.f i) = i
  rw [h i hi, k i hi]
theorem Spt.s {n k : Nat} (h1 : 1 ≤ k) (h2 : k < n) : Spt n (Pm.s k) := fun i hi => sk_of (by omega) (by omega)
theorem Spt.St {n k : Nat} {p : Pm} (h : Spt n p) (hs : p.St k) : 1 ≤ k ∧ k < n := by
  unfold Pm.St at hs
  refine ⟨?_, ?_⟩
  · rcases Nat.eq_zero_or_pos k with e | e
    · rw [e, h 0 (.inl rfl)] at hs; omega
    · exact e
  · rcases Nat.lt_or_ge k n with e | e
    · exact e
    · rw [h (k + 1) (.inr (by omega))] at hs
      rcases Nat.lt_or_ge n k with e' | e'
      · rw [h k (.inr e')] at hs; omega
      · have he : k = n := by omega
        rcases Nat.eq_zero_or_pos k with e0 | e0
        · rw [e0, h 0 (.inl rfl)] at hs; omega
        · have := (h.in e0 (by omega)).2; omega
theorem Spt.En {n k : Nat} {p : Pm} (h : Spt n p) (hs : p.En k) : 1 ≤ k ∧ k < n := h.inv.St hs
theorem Spt.sl {n k : Nat} {p : Pm} (h : Spt n p) (hs : p.St k) : Spt n (Pm.sl k p) := (Spt.s (h.St hs).1 (h.St hs).2).mul h
theorem Spt.sr {n k : Nat} {p : Pm} (h : Spt n p) (h1 : 1 ≤ k) (h2 : k < n) : Spt n (p.sr k) := h.mul (Spt.s h1 h2)
def SptL (n : Nat) (l : List Pm) : Prop := ∀ p ∈ l, Spt n p
theorem SptL.mv {n : Nat} {l l' : List Pm} (h : SptL n l) (m : Mv l l') : SptL n l' := by
  induction m with
  | here p q k rest h1 h2 =>
    have hp := h p (by simp); have hq := h q (by simp)
    intro x hx
    rcases List.mem_cons.1 hx with e | hx
    · rw [e]; exact hp.sr (hq.St h1).1 (hq.St h1).2
    · rcases List.mem_cons.1 hx with e | hx
      · rw [e]; exact hq.sl h1
      · exact h x (by simp [hx])
  | tail p _ ih =>
    intro x hx
    rcases List.mem_cons.1 hx with e | hx
    · rw [e]; exact h p (by simp)
    · exact ih (fun y hy => h y (by simp [hy])) x hx
theorem SptL.star {n : Nat} {l l' : List Pm} (h : SptL n l) (m : Star Mv l l') : SptL n l' := by
  induction m with
  | refl => exact h
  | step h1 _ ih => exact ih (h.mv h1)
/-- Nothing crosses: nothing is moved. -/
theorem Spt.no {n : Nat} {p : Pm} (h : Spt n p) (hs : ∀ k, ¬ p.St k) : p = Pm.one := by
  have mono : ∀ i j, i < j → p.f i < p.f j := fun i j => by
    induction j with
    | zero => intro h; omega
    | succ j ih =>
      intro hj
      have h1 := Pm.not_St (hs j)
      rcases Nat.lt_or_ge i j with e | e
      · have := ih e; omega
      · have : i = j := by omega
        subst this; exact h1
  have low : ∀ i, i ≤ p.f i := fun i => by
    induction i with
    | zero => omega
    | succ i ih => have := mono i (i + 1) (by omega); omega
  refine Pm.ext' fun i => ?_
  have h1 := low i
  show p.f i = i
  rcases Nat.lt_or_ge i (p.f i) with e | e
  · exfalso
    have h2 := mono (i) (p.f i) e
    -- from there on it grows past n
    have key : ∀ d, p.f (i + d) > i + d := fun d => by
      induction d with
      | zero => exact e
      | succ d ih => have := mono (i + d) (i + (d + 1)) (by omega); omega
    have := key (n + 1)
    rw [h (i + (n + 1)) (.inr (by omega))] at this
    omega
  · omega
/-- A weight that a letter behind p makes less. -/
def wt (p : Pm) : Nat → Nat
  | 0 => 0
  | n + 1 => wt p n + (n + 1) * p.g (n + 1)
theorem wt_lt {p : Pm} {k : Nat} (h : ¬ p.En k) : ∀ n, k + 1 ≤ n → wt (p.sr k) n < wt p n := by
  have h0 := Pm.not_En h
  have below : ∀ j, j < k → wt (p.sr k) j = wt p j := fun j => by
    induction j with
    | zero => intro _; rfl
    | succ j ih =>
      intro hj
      rw [wt, wt, ih (by omega), Pm.sr_g, sk_of (by omega) (by omega)]
  intro n
  induction n with
  | zero => intro h; omega
  | succ n ih =>
    intro hn
    rcases Nat.lt_or_ge (k + 1) (n + 1) with e | e
    · have := ih (by omega)
      rw [wt, wt, Pm.sr_g, sk_of (by omega) (by omega)]; omega
    · have e1 : n = k := by omega
      subst e1
      cases n with
      | zero =>
        simp only [wt]
        rw [Pm.sr_g, sk_k1]; omega
      | succ j =>
        rw [wt, wt, wt, wt, below j (by omega), Pm.sr_g, Pm.sr_g, sk_k, sk_k1]
        obtain ⟨d, hd⟩ : ∃ d, p.g (j + 1 + 1) = p.g (j + 1) + (d + 1) := ⟨p.g (j + 1 + 1) - p.g (j + 1) - 1, by omega⟩
        rw [hd]
        have e1 := Nat.mul_add (j + 1) (p.g (j + 1)) (d + 1)
        have e2 := Nat.mul_add (j + 1 + 1) (p.g (j + 1)) (d + 1)
        have e3 := Nat.succ_mul (j + 1) (d + 1)
        rw [Nat.succ_eq_add_one] at e3
        omega
theorem Mv.acc {n : Nat} : ∀ (m : Nat) (l : List Pm), l.length = m → SptL n l → Acc (fun x y => Mv y x) l
  | 0, l, hl, _ => by
    obtain rfl := List.eq_nil_of_length_eq_zero hl
    exact .intro _ fun y hy => by cases hy
  | m + 1, l, hl, hs => by
    obtain ⟨p, t, rfl⟩ : ∃ p t, l = p :: t := by cases l with
      | nil => cases hl
      | cons p t => exact ⟨p, t, rfl⟩
    suffices key : ∀ (N : Nat) (p : Pm), wt p n = N → ∀ t : List Pm, t.length = m → SptL n (p :: t) → Acc (fun x y => Mv y x) (p :: t) from key _ p rfl t (by simpa using hl) hs
    intro N
    induction N using Nat.strongRecOn with
    | _ N ihN =>
      intro p hp t ht hs
      have hacc := Mv.acc m t ht (fun x hx => hs x (by simp [hx]))
      induction hacc with
      | intro t _ iht =>
        refine .intro _ fun y hy => ?_
        have hsy := hs.mv hy
        cases hy with
        | here _ q k rest h1 h2 =>
          have hq := hs q (by simp)
          have hb := hq.St h1
          exact ihN _ (by rw [← hp]; exact wt_lt h2 n (by omega)) _ rfl _ (by simpa using ht) hsy
        | tail _ hm => exact iht _ hm (by rw [← hm.len]; exact ht) hsy
/-! ### One list in which no letter can be moved -/
theorem Mv.lc {a b c : List Pm} (h1 : Mv a b) (h2 : Mv a c) : ∃ d, Star Mv b d ∧ Star Mv c d := by
  induction h1 generalizing c with
  | here p q k rest hk hp =>
    cases h2 with
    | here _ _ m _ hm hp2 =>
      -- the same two
      have comm : ∀ {k m : Nat}, k + 2 ≤ m → q.St k → ¬ p.En k → q.St m → ¬ p.En m → ∃ d, Star Mv (p.sr k :: Pm.sl k q :: rest) d ∧ Star Mv (p.sr m :: Pm.sl m q :: rest) d := fun {k m} hkm hk hp hm hp2 => by
        refine ⟨(p.sr k).sr m :: Pm.sl m (Pm.sl k q) :: rest, .one (.here _ _ _ _ ?_ ?_), ?_⟩
        · unfold Pm.St; rw [Pm.sl_f, Pm.sl_f, sk_of (by omega) (by omega), sk_of (by omega) (by omega)]; exact hm
        · unfold Pm.En; rw [Pm.sr_g, Pm.sr_g, sk_of (by omega) (by omega), sk_of (by omega) (by omega)]; exact hp2
        · rw [show (p.sr k).sr m = (p.sr m).sr k from Pm.ext' fun i => (sk_far hkm (p.f i)).symm, show Pm.sl m (Pm.sl k q) = Pm.sl k (Pm.sl m q) from Pm.ext' fun i => congrArg q.f (sk_far hkm i)]
          refine .one (.here _ _ _ _ ?_ ?_)
          · unfold Pm.St; rw [Pm.sl_f, Pm.sl_f, sk_of (by omega) (by omega), sk_of (by omega) (by omega)]; exact hk
          · unfold Pm.En; rw [Pm.sr_g, Pm.sr_g, sk_of (by omega) (by omega), sk_of (by omega) (by omega)]; exact hp
      have next : ∀ {k : Nat}, q.St k → ¬ p.En k → q.St (k + 1) → ¬ p.En (k + 1) → ∃ d, Star Mv (p.sr k :: Pm.sl k q :: rest) d ∧ Star Mv (p.sr (k + 1) :: Pm.sl (k + 1) q :: rest) d := fun {k} hk hp hm hp2 => by
        have a1 := Pm.not_En hp; have a2 := Pm.not_En hp2
        unfold Pm.St at hk hm
        have b1 : sk k (k + 1 + 1) = k + 1 + 1 := sk_of (by omega) (by omega)
        have b2 : sk (k + 1) k = k := sk_of (by omega) (by omega)
        refine ⟨((p.sr k).sr (k + 1)).sr k :: Pm.sl k (Pm.sl (k + 1) (Pm.sl k q)) :: rest, .step (.here _ _ (k + 1) _ ?_ ?_) (.one (.here _ _ k _ ?_ ?_)), ?_⟩
        · unfold Pm.St; rw [Pm.sl_f, Pm.sl_f, sk_k1, b1]; omega
        · unfold Pm.En; rw [Pm.sr_g, Pm.sr_g, sk_k1, b1]; omega
        · unfold Pm.St; rw [Pm.sl_f, Pm.sl_f, Pm.sl_f, Pm.sl_f, sk_k, b1, b2, sk_k]; omega
        · unfold Pm.En; rw [Pm.sr_g, Pm.sr_g, Pm.sr_g, Pm.sr_g, sk_k, b1, b2, sk_k]; omega
        · rw [show ((p.sr k).sr (k + 1)).sr k = ((p.sr (k + 1)).sr k).sr (k + 1) from Pm.ext' fun i => sk_braid k (p.f i), show Pm.sl k (Pm.sl (k + 1) (Pm.sl k q)) = Pm.sl (k + 1) (Pm.sl k (Pm.sl (k + 1) q)) from Pm.ext' fun i => congrArg q.f (sk_braid k i)]
          refine .step (.here _ _ k _ ?_ ?_) (.one (.here _ _ (k + 1) _ ?_ ?_))
          · unfold Pm.St; rw [Pm.sl_f, Pm.sl_f, sk_k, b2]; omega
          · unfold Pm.En; rw [Pm.sr_g, Pm.sr_g, sk_k, b2]; omega
          · unfold Pm.St; rw [Pm.sl_f, Pm.sl_f, Pm.sl_f, Pm.sl_f, sk_k1, b1, b2, sk_k1]; omega
          · unfold Pm.En; rw [Pm.sr_g, Pm.sr_g, Pm.sr_g, Pm.sr_g, sk_k1, b1, b2, sk_k1]; omega
      rcases (show k = m ∨ k + 2 ≤ m ∨ m + 2 ≤ k ∨ m = k + 1 ∨ k = m + 1 by omega) with e | e | e | e | e
      · subst e; exact ⟨_, .refl _, .refl _⟩
      · exact comm e hk hp hm hp2
      · obtain ⟨d, x, y⟩ := comm e hm hp2 hk hp; exact ⟨d, y, x⟩
      · subst e; exact next hk hp hm hp2
      · subst e; obtain ⟨d, x, y⟩ := next hm hp2 hk hp; exact ⟨d, y, x⟩
    | tail _ h2 =>
      cases h2 with
      | here _ r m rest' hm hq =>
        refine ⟨p.sr k :: (Pm.sl k q).sr m :: Pm.sl m r :: rest', .one (.tail _ (.here _ _ _ _ hm (Pm.En_sl hk hq))), ?_⟩
        rw [Pm.sl_sr]
        exact .one (.here _ _ _ _ (Pm.St_sr hk hq) hp)
      | tail _ h3 => exact ⟨_, .one (.tail _ (.tail _ h3)), .one (.here _ _ _ _ hk hp)⟩
  | tail p h ih =>
    cases h2 with
    | here _ q k rest hk hp =>
      cases h with
      | here _ r m rest' hm hq =>
        refine ⟨p.sr k :: (Pm.sl k q).sr m :: Pm.sl m r :: rest', ?_, .one (.tail _ (.here _ _ _ _ hm (Pm.En_sl hk hq)))⟩
        rw [Pm.sl_sr]
        exact .one (.here _ _ _ _ (Pm.St_sr hk hq) hp)
      | tail _ h3 => exact ⟨_, .one (.here _ _ _ _ hk hp), .one (.tail _ (.tail _ h3))⟩
    | tail _ h2 =>
      obtain ⟨d, x, y⟩ := ih h2
      exact ⟨p :: d, x.cons p, y.cons p⟩
theorem Mv.conf {n : Nat} {a b c : List Pm} (hs : SptL n a) (h1 : Star Mv a b) (h2 : Star Mv a c) : ∃ d, Star Mv b d ∧ Star Mv c d :=
  newman (fun _ _ _ x y => x.lc y) (Mv.acc _ a rfl hs) b c h1 h2
end Go.Proofs.YtigffblelngpjaaDoor
/- Lists of permutations that are moved into one another; the half twist; normal forms of powers of the half twist with lists behind them. No program in sight. -/
namespace Go.Proofs.YtigffblelngpjaaDoor
set_option linter.unusedVariables false
set_option linter.unusedSimpArgs false

/-! ### Letters that can be taken over -/
def Rd (p q : Pm) : Prop := ∀ a b, a < b → q.f b < q.f a → p.g a < p.g b
theorem Rd.one_left (q : Pm) : Rd Pm.one q := fun a b h _ => h
theorem Rd.one_right (p : Pm) : Rd p Pm.one := fun a b h h' => absurd h' (by show ¬ b < a; omega)
theorem Rd.step {p h : Pm} {k : Nat} (hr : Rd p h) (hk : h.St k) : Rd (p.sr k) (Pm.sl k h) := fun a b hab hh => by
  rw [Pm.sl_f, Pm.sl_f] at hh
  rw [Pm.sr_g, Pm.sr_g]
  refine hr _ _ (sk_lt hab fun ⟨e1, e2⟩ => ?_) hh
  rw [e1, e2, sk_k, sk_k1] at hh
  unfold Pm.St at hk; omega
theorem Rd.sl {h r : Pm} {k : Nat} (hr : Rd h r) (hk : h.St k) : Rd (Pm.sl k h) r := fun a b hab hh => by
  rw [Pm.sl_g, Pm.sl_g]
  have h1 := hr a b hab hh
  refine sk_lt h1 fun ⟨e1, e2⟩ => ?_
  unfold Pm.St at hk
  rw [← e2, ← e1, h.fg, h.fg] at hk; omega
theorem Rd.start {h r : Pm} {k : Nat} (hr : Rd h r) (hk : h.St k) : (h.mul r).St k := by
  unfold Pm.St at *
  show r.f (h.f (k + 1)) < r.f (h.f k)
  have hne : r.f (h.f (k + 1)) ≠ r.f (h.f k) := fun e => by have := r.inj e; omega
  rcases Nat.lt_or_ge (r.f (h.f (k + 1))) (r.f (h.f k)) with e | e
  · exact e
  · exfalso
    have := hr (h.f (k + 1)) (h.f k) hk (by omega)
    rw [h.gf, h.gf] at this; omega
theorem Rd.no_end {p h : Pm} {k : Nat} (hr : Rd p h) (hk : h.St k) : ¬ p.En k := by
  unfold Pm.En
  have := hr k (k + 1) (by omega) hk
  omega
/-- What is reduced goes over as a whole. -/
theorem merge {n : Nat} : ∀ (N : Nat) (p : Pm), wt p n = N → ∀ h r : Pm, Rd p h → Rd h r → Spt n h → Star Mv [p, h.mul r] [p.mul h, r] := by
  intro N
  induction N using Nat.strongRecOn with
  | _ N ih =>
    intro p hp h r h1 h2 h3
    by_cases hex : ∃ k, h.St k
    · obtain ⟨k, hk⟩ := hex
      have hb := h3.St hk
      have hne := h1.no_end hk
      have := ih _ (by rw [← hp]; exact wt_lt hne n (by omega)) (p.sr k) rfl (Pm.sl k h) r (h1.step hk) (h2.sl hk) (h3.sl hk)
      rw [Pm.sr_sl] at this
      refine .step (.here _ _ k _ (h2.start hk) hne) ?_
      rwa [← Pm.sl_mul]
    · have hh := h3.no fun k hk => hex ⟨k, hk⟩
      subst hh
      rw [Pm.one_mul, Pm.mul_one]; exact .refl _
theorem merge2 {n : Nat} {p h r q : Pm} (h1 : Rd p h) (h2 : Rd h r) (h3 : Spt n h) (e : q = h.mul r) : Star Mv [p, q] [p.mul h, r] := by
  subst e; exact merge _ p rfl h r h1 h2 h3
theorem merge1 {n : Nat} {p h : Pm} (h1 : Rd p h) (h3 : Spt n h) : Star Mv [p, h] [p.mul h, Pm.one] := merge2 h1 (Rd.one_right h) h3 (Pm.mul_one h).symm

/-! ### Moved into one another -/
def ones (a : Nat) : List Pm := List.replicate a Pm.one
theorem ones_add (a b : Nat) : ones (a + b) = ones a ++ ones b := by unfold ones; rw [List.replicate_append_replicate]
theorem SptL.of_ones (n a : Nat) : SptL n (ones a) := fun p hp => by rw [List.eq_of_mem_replicate hp]; exact Spt.one n
theorem SptL.app {n : Nat} {l m : List Pm} (h : SptL n l) (k : SptL n m) : SptL n (l ++ m) := fun p hp => by
  rcases List.mem_append.1 hp with h' | h'
  · exact h p h'
  · exact k p h'
theorem SptL.left {n : Nat} {l m : List Pm} (h : SptL n (l ++ m)) : SptL n l := fun p hp => h p (List.mem_append_left _ hp)
theorem SptL.right {n : Nat} {l m : List Pm} (h : SptL n (l ++ m)) : SptL n m := fun p hp => h p (List.mem_append_right _ hp)
theorem SptL.cons {n : Nat} {p : Pm} {l : List Pm} (h : Spt n p) (k : SptL n l) : SptL n (p :: l) := fun x hx => by
  rcases List.mem_cons.1 hx with e | e
  · rw [e]; exact h
  · exact k x e
theorem SptL.nil (n : Nat) : SptL n [] := fun x hx => by cases hx
def Jn (l l' : List Pm) : Prop := ∃ z, Star Mv l z ∧ Star Mv l' z
theorem Jn.app {l l' : List Pm} (h : Jn l l') (m : List Pm) : Jn (l ++ m) (l' ++ m) := by
  obtain ⟨z, a, b⟩ := h; exact ⟨z ++ m, a.app m, b.app m⟩
theorem Jn.trans {n : Nat} {a b c : List Pm} (hs : SptL n b) (h : Jn a b) (k : Jn b c) : Jn a c := by
  obtain ⟨z, a1, a2⟩ := h
  obtain ⟨y, b1, b2⟩ := k
  obtain ⟨d, c1, c2⟩ := Mv.conf hs a2 b1
  exact ⟨d, a1.trans c1, b2.trans c2⟩
def Eq' (n : Nat) (l l' : List Pm) : Prop := SptL n l ∧ SptL n l' ∧ ∃ a b, Jn (l ++ ones a) (l' ++ ones b)
theorem Eq'.refl {n : Nat} {l : List Pm} (h : SptL n l) : Eq' n l l := ⟨h, h, 0, 0, _, .refl _, .refl _⟩
theorem Eq'.symm {n : Nat} {l m : List Pm} (h : Eq' n l m) : Eq' n m l := by
  obtain ⟨h1, h2, a, b, z, h3, h4⟩ := h; exact ⟨h2, h1, b, a, z, h4, h3⟩
theorem Eq'.of_star {n : Nat} {l m : List Pm} (hs : SptL n l) (h : Star Mv l m) : Eq' n l m := ⟨hs, hs.star h, 0, 0, m ++ ones 0, h.app _, .refl _⟩
theorem Eq'.trans {n : Nat} {l m o : List Pm} (h : Eq' n l m) (k : Eq' n m o) : Eq' n l o := by
  obtain ⟨h1, h2, a, b, h3⟩ := h
  obtain ⟨k1, k2, c, d, k3⟩ := k
  refine ⟨h1, k2, a + c, d + b, ?_⟩
  have e1 := h3.app (ones c)
  have e2 := k3.app (ones b)
  rw [List.append_assoc, List.append_assoc, ← ones_add, ← ones_add] at e1 e2
  rw [Nat.add_comm b c] at e1
  exact e1.trans (h2.app (SptL.of_ones n _)) e2
theorem Eq'.pre {n : Nat} {l m : List Pm} (h : Eq' n l m) {x : List Pm} (hx : SptL n x) : Eq' n (x ++ l) (x ++ m) := by
  obtain ⟨h1, h2, a, b, z, h3, h4⟩ := h
  refine ⟨hx.app h1, hx.app h2, a, b, x ++ z, ?_, ?_⟩
  · rw [List.append_assoc]; exact h3.pre x
  · rw [List.append_assoc]; exact h4.pre x
theorem Eq'.drop_ones {n : Nat} {l : List Pm} (h : SptL n l) (a : Nat) : Eq' n (l ++ ones a) l := ⟨h.app (SptL.of_ones n a), h, 0, a, l ++ ones a, by rw [show ones 0 = [] from rfl, List.append_nil]; exact .refl _, .refl _⟩
/-- A one goes to the end. -/
theorem one_right {n : Nat} : ∀ {m : List Pm}, SptL n m → Star Mv (Pm.one :: m) (m ++ [Pm.one])
  | [], _ => .refl _
  | p :: m, h => by
    have h1 := merge1 (n := n) (Rd.one_left p) (h p (by simp))
    rw [Pm.one_mul] at h1
    exact (h1.app m).trans ((one_right (m := m) fun x hx => h x (by simp [hx])).cons p)
theorem Eq'.ones_left {n : Nat} {m : List Pm} (h : SptL n m) : ∀ a, Eq' n (ones a ++ m) m
  | 0 => Eq'.refl h
  | a + 1 => by
    have h1 := Eq'.of_star ((SptL.of_ones n 1).app ((SptL.of_ones n a).app h)) (one_right ((SptL.of_ones n a).app h))
    exact (h1.trans (Eq'.drop_ones ((SptL.of_ones n a).app h) 1)).trans (Eq'.ones_left h a)
theorem Eq'.app {n : Nat} {l m : List Pm} (h : Eq' n l m) {x : List Pm} (hx : SptL n x) : Eq' n (l ++ x) (m ++ x) := by
  obtain ⟨h1, h2, a, b, z, h3, h4⟩ := h
  have e1 : Eq' n (l ++ (ones a ++ x)) (l ++ x) := (Eq'.ones_left hx a).pre h1
  have e2 : Eq' n (m ++ (ones b ++ x)) (m ++ x) := (Eq'.ones_left hx b).pre h2
  have s1 : SptL n (l ++ ones a ++ x) := (h1.app (SptL.of_ones n a)).app hx
  have s2 : SptL n (m ++ ones b ++ x) := (h2.app (SptL.of_ones n b)).app hx
  have e3 : Eq' n (l ++ ones a ++ x) (m ++ ones b ++ x) := (Eq'.of_star s1 (h3.app x)).trans (Eq'.of_star s2 (h4.app x)).symm
  rw [List.append_assoc, List.append_assoc] at e3
  exact e1.symm.trans (e3.trans e2)

/-! ### Normal lists -/
def Nf : List Pm → Prop
  | p :: q :: r => (∀ k, q.St k → p.En k) ∧ Nf (q :: r)
  | _ => True
theorem Nf.tail {p : Pm} {l : List Pm} (h : Nf (p :: l)) : Nf l := by
  cases l with
  | nil => trivial
  | cons q r => exact h.2
theorem Nf.stuck {l l' : List Pm} (h : Nf l) (m : Mv l l') : False := by
  induction m with
  | here p q k rest h1 h2 => exact h2 (h.1 k h1)
  | tail p _ ih => exact ih h.tail
theorem Nf.star {l l' : List Pm} (h : Nf l) (m : Star Mv l l') : l = l' := by
  cases m with
  | refl => rfl
  | step h1 _ => exact (h.stuck h1).elim
theorem Nf.not {l : List Pm} (h : ¬ Nf l) : ∃ l', Mv l l' := by
  induction l with
  | nil => exact (h trivial).elim
  | cons p l ih =>
    cases l with
    | nil => exact (h trivial).elim
    | cons q r =>
      by_cases h1 : Nf (q :: r)
      · have h2 : ¬ ∀ k, q.St k → p.En k := fun h2 => h ⟨h2, h1⟩
        obtain ⟨k, hk⟩ := Classical.not_forall.1 h2
        have hk1 : q.St k := Classical.byContradiction fun e => hk fun e' => absurd e' e
        exact ⟨_, .here p q k r hk1 fun e => hk fun _ => e⟩
      · obtain ⟨l', h2⟩ := ih h1
        exact ⟨_, .tail p h2⟩
theorem one_St (k : Nat) : ¬ Pm.one.St k := by unfold Pm.St; show ¬ k + 1 < k; omega
theorem Nf.of_ones (a : Nat) : Nf (ones a) := by
  induction a with
  | zero => trivial
  | succ a ih =>
    cases a with
    | zero => trivial
    | succ a => exact ⟨fun k hk => (one_St k hk).elim, ih⟩
theorem Nf.app_ones {l : List Pm} (h : Nf l) (a : Nat) : Nf (l ++ ones a) := by
  induction l with
  | nil => exact Nf.of_ones a
  | cons p l ih =>
    cases l with
    | nil =>
      cases a with
      | zero => trivial
      | succ a => exact ⟨fun k hk => (one_St k hk).elim, Nf.of_ones (a + 1)⟩
    | cons q r => exact ⟨h.1, ih h.2⟩
/-- The last one is not the one that moves nothing. -/
def Lst (l : List Pm) : Prop := l.getLast? ≠ some Pm.one
theorem Lst.nil : Lst [] := by unfold Lst; simp
theorem Lst.tail {p q : Pm} {l : List Pm} (h : Lst (p :: q :: l)) : Lst (q :: l) := by
  unfold Lst at *; rwa [List.getLast?_cons_cons] at h
theorem strip_eq {l m : List Pm} (hl : Lst l) (hm : Lst m) : ∀ {a b : Nat}, l ++ ones a = m ++ ones b → l = m := by
  have key : ∀ {l m : List Pm} {b : Nat}, Lst l → l = m ++ ones b → b = 0 := fun {l m b} hl e => by
    cases b with
    | zero => rfl
    | succ b =>
      exfalso
      apply hl
      rw [e, ones_add, ← List.append_assoc]
      show (m ++ ones b ++ [Pm.one]).getLast? = some Pm.one
      simp
  intro a
  induction a with
  | zero =>
    intro b e
    rw [show ones 0 = [] from rfl, List.append_nil] at e
    obtain rfl := key hl e
    rw [e, show ones 0 = [] from rfl, List.append_nil]
  | succ a ih =>
    intro b e
    cases b with
    | zero =>
      rw [show ones 0 = [] from rfl, List.append_nil] at e
      have := key hm e.symm; omega
    | succ b =>
      rw [ones_add, ones_add, ← List.append_assoc, ← List.append_assoc] at e
      exact ih (List.append_cancel_right e)
theorem Nf.unique {n : Nat} {l m : List Pm} (h : Eq' n l m) (hl : Nf l) (hm : Nf m) (sl : Lst l) (sm : Lst m) : l = m := by
  obtain ⟨_, _, a, b, z, h1, h2⟩ := h
  exact strip_eq sl sm (((hl.app_ones a).star h1).trans ((hm.app_ones b).star h2).symm)
/-- Each list has a normal one. -/
theorem Nf.ex {n : Nat} {l : List Pm} (hs : SptL n l) : ∃ z, Star Mv l z ∧ Nf z := by
  have hacc := Mv.acc (n := n) _ l rfl hs
  induction hacc with
  | intro l _ ih =>
    by_cases h : Nf l
    · exact ⟨l, .refl _, h⟩
    · obtain ⟨l', hm⟩ := Nf.not h
      obtain ⟨z, h1, h2⟩ := ih _ hm (hs.mv hm)
      exact ⟨z, .step hm h1, h2⟩
theorem Nf.left {l : List Pm} : ∀ {m : List Pm}, Nf (l ++ m) → Nf l := by
  induction l with
  | nil => intro _ _; trivial
  | cons p l ih =>
    intro m h
    cases l with
    | nil => trivial
    | cons q r => exact ⟨h.1, ih (m := m) h.2⟩
theorem strip_ex : ∀ (N : Nat) (l : List Pm), l.length = N → ∃ m a, l = m ++ ones a ∧ Lst m
  | 0, l, h => ⟨[], 0, by obtain rfl := List.eq_nil_of_length_eq_zero h; rfl, Lst.nil⟩
  | N + 1, l, h => by
    have hne : l ≠ [] := fun e => by rw [e] at h; simp at h
    by_cases e : l.getLast hne = Pm.one
    · obtain ⟨m, a, h1, h2⟩ := strip_ex N l.dropLast (by simp [h])
      refine ⟨m, a + 1, ?_, h2⟩
      have := List.dropLast_concat_getLast hne
      rw [← this, e, h1, ones_add, ← List.append_assoc]; rfl
    · refine ⟨l, 0, by rw [show ones 0 = [] from rfl, List.append_nil], fun h' => ?_⟩
      rw [List.getLast?_eq_some_getLast hne] at h'
      exact e (Option.some.inj h')
end Go.Proofs.YtigffblelngpjaaDoor
/- The half twist; powers of it with lists behind them; each has one normal form; letters as functions of normal forms obey the laws of braids. No program in sight. -/
namespace Go.Proofs.YtigffblelngpjaaDoor
set_option linter.unusedVariables false
set_option linter.unusedSimpArgs false

def dlf (n i : Nat) : Nat := if 1 ≤ i ∧ i ≤ n then n + 1 - i else i
theorem dlf_dlf (n i : Nat) : dlf n (dlf n i) = i := by
  unfold dlf; repeat' split
  all_goals omega
theorem dlf_in {n i : Nat} (h1 : 1 ≤ i) (h2 : i ≤ n) : dlf n i = n + 1 - i := if_pos ⟨h1, h2⟩
theorem dlf_out {n i : Nat} (h : i = 0 ∨ n < i) : dlf n i = i := if_neg (by omega)
theorem dlf_inj {n i j : Nat} (h : dlf n i = dlf n j) : i = j := by rw [← dlf_dlf n i, h, dlf_dlf]
def Pm.dl (n : Nat) : Pm := ⟨dlf n, dlf n, dlf_dlf n, dlf_dlf n⟩
theorem Spt.dl (n : Nat) : Spt n (Pm.dl n) := fun i hi => dlf_out hi
theorem Pm.dl_dl (n : Nat) : (Pm.dl n).mul (Pm.dl n) = Pm.one := Pm.ext' fun i => dlf_dlf n i
def Pm.fl (n : Nat) (p : Pm) : Pm := (Pm.dl n).mul (p.mul (Pm.dl n))
theorem Pm.fl_f (n : Nat) (p : Pm) (i : Nat) : (p.fl n).f i = dlf n (p.f (dlf n i)) := rfl
theorem Pm.fl_g (n : Nat) (p : Pm) (i : Nat) : (p.fl n).g i = dlf n (p.g (dlf n i)) := rfl
theorem Pm.fl_fl (n : Nat) (p : Pm) : (p.fl n).fl n = p := Pm.ext' fun i => by rw [Pm.fl_f, Pm.fl_f, dlf_dlf, dlf_dlf]
theorem Pm.fl_dl (n : Nat) : (Pm.dl n).fl n = Pm.dl n := Pm.ext' fun i => by
  rw [Pm.fl_f]; show dlf n (dlf n (dlf n i)) = dlf n i; rw [dlf_dlf]
theorem Pm.fl_one (n : Nat) : Pm.one.fl n = Pm.one := Pm.ext' fun i => dlf_dlf n i
theorem Pm.fl_mul (n : Nat) (p q : Pm) : (p.mul q).fl n = (p.fl n).mul (q.fl n) := Pm.ext' fun i => by
  show dlf n (q.f (p.f (dlf n i))) = dlf n (q.f (dlf n (dlf n (p.f (dlf n i)))))
  rw [dlf_dlf]
theorem Pm.fl_s {n k : Nat} (h1 : 1 ≤ k) (h2 : k < n) : (Pm.s k).fl n = Pm.s (n - k) := Pm.ext' fun i => by
  rw [Pm.fl_f]
  show dlf n (sk k (dlf n i)) = sk (n - k) i
  unfold dlf sk; repeat' split
  all_goals omega
theorem Pm.fl_sr {n k : Nat} (h1 : 1 ≤ k) (h2 : k < n) (p : Pm) : (p.sr k).fl n = (p.fl n).sr (n - k) := by
  unfold Pm.sr; rw [Pm.fl_mul, Pm.fl_s h1 h2]
theorem Pm.fl_sl {n k : Nat} (h1 : 1 ≤ k) (h2 : k < n) (p : Pm) : (Pm.sl k p).fl n = Pm.sl (n - k) (p.fl n) := by
  unfold Pm.sl; rw [Pm.fl_mul, Pm.fl_s h1 h2]
theorem Spt.fl {n : Nat} {p : Pm} (h : Spt n p) : Spt n (p.fl n) := (Spt.dl n).mul (h.mul (Spt.dl n))
theorem Spt.fl_St {n k : Nat} {p : Pm} (h : Spt n p) (h1 : 1 ≤ k) (h2 : k < n) : (p.fl n).St (n - k) ↔ p.St k := by
  unfold Pm.St
  rw [Pm.fl_f, Pm.fl_f, dlf_in (show 1 ≤ n - k + 1 by omega) (by omega), dlf_in (show 1 ≤ n - k by omega) (by omega), show n + 1 - (n - k + 1) = k by omega, show n + 1 - (n - k) = k + 1 by omega]
  have a1 := h.in h1 (by omega); have a2 := h.in (show 1 ≤ k + 1 by omega) (by omega)
  rw [dlf_in a1.1 a1.2, dlf_in a2.1 a2.2]; omega
theorem Spt.fl_En {n k : Nat} {p : Pm} (h : Spt n p) (h1 : 1 ≤ k) (h2 : k < n) : (p.fl n).En (n - k) ↔ p.En k := h.inv.fl_St h1 h2
theorem SptL.fl {n : Nat} {l : List Pm} (h : SptL n l) : SptL n (l.map (Pm.fl n)) := fun p hp => by
  obtain ⟨q, hq, rfl⟩ := List.mem_map.1 hp; exact (h q hq).fl
theorem Mv.fl {n : Nat} {l l' : List Pm} (hs : SptL n l) (h : Mv l l') : Mv (l.map (Pm.fl n)) (l'.map (Pm.fl n)) := by
  induction h with
  | here p q k rest h1 h2 =>
    have hp := hs p (by simp); have hq := hs q (by simp)
    have hb := hq.St h1
    simp only [List.map_cons]
    rw [Pm.fl_sr hb.1 hb.2, Pm.fl_sl hb.1 hb.2]
    exact .here _ _ _ _ ((hq.fl_St hb.1 hb.2).2 h1) fun e => h2 ((hp.fl_En hb.1 hb.2).1 e)
  | tail p _ ih => exact .tail _ (ih fun x hx => hs x (by simp [hx]))
theorem Star.fl {n : Nat} {l l' : List Pm} (hs : SptL n l) (h : Star Mv l l') : Star Mv (l.map (Pm.fl n)) (l'.map (Pm.fl n)) := by
  induction h with
  | refl => exact .refl _
  | step h1 _ ih => exact .step (h1.fl hs) (ih (hs.mv h1))
theorem ones_fl (n a : Nat) : (ones a).map (Pm.fl n) = ones a := by unfold ones; rw [List.map_replicate, Pm.fl_one]
theorem Eq'.fl {n : Nat} {l m : List Pm} (h : Eq' n l m) : Eq' n (l.map (Pm.fl n)) (m.map (Pm.fl n)) := by
  obtain ⟨h1, h2, a, b, z, h3, h4⟩ := h
  refine ⟨h1.fl, h2.fl, a, b, z.map (Pm.fl n), ?_, ?_⟩
  · have := h3.fl (h1.app (SptL.of_ones n a)); rwa [List.map_append, ones_fl] at this
  · have := h4.fl (h2.app (SptL.of_ones n b)); rwa [List.map_append, ones_fl] at this
theorem map_fl_fl (n : Nat) (l : List Pm) : (l.map (Pm.fl n)).map (Pm.fl n) = l := by
  rw [List.map_map]
  conv => rhs; rw [← List.map_id l]
  exact List.map_congr_left fun p _ => Pm.fl_fl n p

/-! ### The half twist goes to the front -/
theorem Rd.half {n : Nat} {p : Pm} (h : Spt n p) : Rd p (p.inv.mul (Pm.dl n)) := fun a b hab hh => by
  have hh' : dlf n (p.g b) < dlf n (p.g a) := hh
  have hne : p.g a ≠ p.g b := fun e => by have := p.ginj e; omega
  rcases Nat.lt_or_ge (p.g a) (p.g b) with e | e
  · exact e
  exfalso
  rcases Nat.eq_zero_or_pos a with e0 | e0
  · rw [e0, h.g 0 (.inl rfl)] at e hne; omega
  rcases Nat.lt_or_ge n b with e1 | e1
  · rw [h.g b (.inr e1)] at e
    rcases Nat.lt_or_ge n a with e2 | e2
    · rw [h.g a (.inr e2)] at e; omega
    · have := (h.gin e0 e2).2; omega
  · have a1 := h.gin e0 (by omega : a ≤ n); have a2 := h.gin (by omega : 1 ≤ b) e1
    rw [dlf_in a1.1 a1.2, dlf_in a2.1 a2.2] at hh'; omega
theorem Rd.half2 {n : Nat} {p : Pm} (h : Spt n p) : Rd (p.inv.mul (Pm.dl n)) (p.fl n) := fun a b hab hh => by
  have hh' : dlf n (p.f (dlf n b)) < dlf n (p.f (dlf n a)) := hh
  show p.f (dlf n a) < p.f (dlf n b)
  have hne : p.f (dlf n a) ≠ p.f (dlf n b) := fun e => by have := dlf_inj (p.inj e); omega
  rcases Nat.eq_zero_or_pos a with e0 | e0
  · rw [e0, dlf_out (.inl rfl), h 0 (.inl rfl), dlf_out (.inl rfl)] at hh'; omega
  rcases Nat.lt_or_ge n b with e1 | e1
  · rw [dlf_out (.inr e1), h b (.inr e1)] at hne ⊢
    rcases Nat.lt_or_ge n a with e2 | e2
    · rw [dlf_out (.inr e2), h a (.inr e2)]; exact hab
    · rw [dlf_in e0 e2]; have := (h.in (show 1 ≤ n + 1 - a by omega) (by omega)).2; omega
  · rw [dlf_in e0 (by omega), dlf_in (by omega) e1] at hne hh' ⊢
    have a1 := h.in (show 1 ≤ n + 1 - a by omega) (by omega); have a2 := h.in (show 1 ≤ n + 1 - b by omega) (by omega)
    rw [dlf_in a1.1 a1.2, dlf_in a2.1 a2.2] at hh'; omega
theorem half_over {n : Nat} {p : Pm} (h : Spt n p) : Star Mv [p, Pm.dl n] [Pm.dl n, p.fl n] := by
  have e : Pm.dl n = (p.inv.mul (Pm.dl n)).mul (p.fl n) := Pm.ext' fun i => by
    show dlf n i = dlf n (p.f (dlf n (dlf n (p.g i))))
    rw [dlf_dlf, p.fg]
  have := merge2 (Rd.half h) (Rd.half2 h) (h.inv.mul (Spt.dl n)) e
  rwa [← Pm.mul_assoc, Pm.mul_inv, Pm.one_mul] at this
theorem half_list {n : Nat} : ∀ {l : List Pm}, SptL n l → Star Mv (l ++ [Pm.dl n]) (Pm.dl n :: l.map (Pm.fl n))
  | [], _ => .refl _
  | p :: l, h => ((half_list (l := l) fun x hx => h x (by simp [hx])).cons p).trans ((half_over (h p (by simp))).app (l.map (Pm.fl n)))

/-! ### A power of the half twist, and a list behind it -/
def reps (n a : Nat) : List Pm := List.replicate a (Pm.dl n)
theorem reps_add (n a b : Nat) : reps n (a + b) = reps n a ++ reps n b := by unfold reps; rw [List.replicate_append_replicate]
theorem SptL.reps (n a : Nat) : SptL n (reps n a) := fun p hp => by rw [List.eq_of_mem_replicate hp]; exact Spt.dl n
theorem reps_fl (n a : Nat) : (reps n a).map (Pm.fl n) = reps n a := by unfold Go.Proofs.YtigffblelngpjaaDoor.reps; rw [List.map_replicate, Pm.fl_dl]
def Qv (n : Nat) (s t : Int × List Pm) : Prop := ∃ a b : Nat, s.1 - a = t.1 - b ∧ Eq' n (reps n a ++ s.2) (reps n b ++ t.2)
theorem Qv.refl {n : Nat} {s : Int × List Pm} (h : SptL n s.2) : Qv n s s := ⟨0, 0, rfl, Eq'.refl h⟩
theorem Qv.symm {n : Nat} {s t : Int × List Pm} (h : Qv n s t) : Qv n t s := by
  obtain ⟨a, b, h1, h2⟩ := h; exact ⟨b, a, h1.symm, h2.symm⟩
theorem Qv.trans {n : Nat} {s t u : Int × List Pm} (h : Qv n s t) (k : Qv n t u) : Qv n s u := by
  obtain ⟨a, b, h1, h2⟩ := h
  obtain ⟨c, d, k1, k2⟩ := k
  have e1 := h2.pre (SptL.reps n c)
  have e2 := k2.pre (SptL.reps n b)
  rw [← List.append_assoc, ← List.append_assoc, ← reps_add, ← reps_add] at e1 e2
  rw [Nat.add_comm b c] at e2
  exact ⟨c + a, b + d, by omega, e1.trans e2⟩
theorem Qv.sup {n : Nat} {s t : Int × List Pm} (h : Qv n s t) : SptL n s.2 ∧ SptL n t.2 := by
  obtain ⟨a, b, _, h1, h2, _⟩ := h; exact ⟨h1.right, h2.right⟩
theorem Qv.of {n : Nat} {p : Int} {l m : List Pm} (h : Eq' n l m) : Qv n (p, l) (p, m) := ⟨0, 0, rfl, h⟩
theorem Qv.up {n : Nat} {p : Int} {l : List Pm} (h : SptL n l) : Qv n (p, Pm.dl n :: l) (p + 1, l) := ⟨0, 1, by simp, Eq'.refl (SptL.cons (Spt.dl n) h)⟩
/-- A letter behind. -/
def act (n : Nat) (s : Int × List Pm) (k : Int) : Int × List Pm := if 0 < k then (s.1, s.2 ++ [Pm.s k.natAbs]) else (s.1 - 1, s.2.map (Pm.fl n) ++ [(Pm.dl n).sr k.natAbs])
theorem act_pos {n : Nat} {s : Int × List Pm} {k : Nat} (h : 1 ≤ k) : act n s (k : Int) = (s.1, s.2 ++ [Pm.s k]) := by
  unfold act; rw [if_pos (by omega), Int.natAbs_natCast]
theorem act_neg {n : Nat} {s : Int × List Pm} {k : Nat} (h : 1 ≤ k) : act n s (-(k : Int)) = (s.1 - 1, s.2.map (Pm.fl n) ++ [(Pm.dl n).sr k]) := by
  unfold act; rw [if_neg (by omega), Int.natAbs_neg, Int.natAbs_natCast]
theorem SptL.one {n : Nat} {p : Pm} (h : Spt n p) : SptL n [p] := SptL.cons h (SptL.nil n)
theorem act_Qv {n : Nat} {s t : Int × List Pm} (h : Qv n s t) {k : Int} (h1 : 1 ≤ k.natAbs) (h2 : k.natAbs < n) : Qv n (act n s k) (act n t k) := by
  obtain ⟨a, b, e, h⟩ := h
  unfold act
  split
  · refine ⟨a, b, e, ?_⟩
    have := h.app (SptL.one (Spt.s h1 h2))
    rwa [List.append_assoc, List.append_assoc] at this
  · refine ⟨a, b, by show s.1 - 1 - a = t.1 - 1 - b; omega, ?_⟩
    have := h.fl.app (SptL.one ((Spt.dl n).sr h1 h2))
    rwa [List.map_append, List.map_append, reps_fl, reps_fl, List.append_assoc, List.append_assoc] at this
theorem act_sup {n : Nat} {s : Int × List Pm} (h : SptL n s.2) {k : Int} (h1 : 1 ≤ k.natAbs) (h2 : k.natAbs < n) : SptL n (act n s k).2 := by
  unfold act
  split
  · exact h.app (SptL.one (Spt.s h1 h2))
  · exact h.fl.app (SptL.one ((Spt.dl n).sr h1 h2))
theorem d_f {n k i : Nat} : ((Pm.dl n).sr k).f i = sk k (dlf n i) := rfl
theorem d_g {n k i : Nat} : ((Pm.dl n).sr k).g i = dlf n (sk k i) := rfl
theorem s_d {n k : Nat} (h1 : 1 ≤ k) (h2 : k < n) : (Pm.s (n - k)).mul ((Pm.dl n).sr k) = Pm.dl n := Pm.ext' fun i => by
  show sk k (dlf n (sk (n - k) i)) = dlf n i
  unfold dlf sk; repeat' split
  all_goals omega
theorem Rd.s_d {n k : Nat} (h1 : 1 ≤ k) (h2 : k < n) : Rd (Pm.s (n - k)) ((Pm.dl n).sr k) := fun a b hab hh => by
  refine sk_lt hab fun ⟨e1, e2⟩ => ?_
  rw [d_f, d_f, e1, e2, dlf_in (show 1 ≤ n - k + 1 by omega) (by omega), dlf_in (show 1 ≤ n - k by omega) (by omega), show n + 1 - (n - k + 1) = k by omega, show n + 1 - (n - k) = k + 1 by omega, sk_k, sk_k1] at hh
  omega
theorem Rd.s_left {k : Nat} {q : Pm} (h : ¬ q.St k) : Rd (Pm.s k) q := fun a b hab hh => by
  refine sk_lt hab fun ⟨e1, e2⟩ => ?_
  rw [e1, e2] at hh; exact h hh
theorem Rd.s_right {k : Nat} {p : Pm} (h : ¬ p.En k) : Rd p (Pm.s k) := fun a b hab hh => by
  have hh' : sk k b < sk k a := hh
  obtain ⟨e1, e2⟩ : a = k ∧ b = k + 1 := Classical.byContradiction fun e => by have := sk_lt hab e; omega
  rw [e1, e2]; exact Pm.not_En h
theorem dl_En {n k : Nat} (h1 : 1 ≤ k) (h2 : k < n) : (Pm.dl n).En k := by
  show dlf n (k + 1) < dlf n k
  rw [dlf_in (by omega) (by omega), dlf_in h1 (by omega)]; omega
theorem d_noEn {n k : Nat} (h1 : 1 ≤ k) (h2 : k < n) : ¬ ((Pm.dl n).sr k).En k := by
  unfold Pm.En; rw [d_g, d_g, sk_k, sk_k1, dlf_in h1 (by omega), dlf_in (show 1 ≤ k + 1 by omega) (by omega)]; omega
/-- A letter, and back. -/
theorem act_back {n : Nat} {s : Int × List Pm} (hs : SptL n s.2) {k : Nat} (h1 : 1 ≤ k) (h2 : k < n) : Qv n (act n (act n s k) (-(k : Int))) s := by
  rw [act_pos h1, act_neg h1]
  simp only [List.map_append, List.map_cons, List.map_nil, List.append_assoc]
  rw [Pm.fl_s h1 h2]
  have e1 := merge1 (Rd.s_d h1 h2) ((Spt.dl n).sr h1 h2)
  rw [Go.Proofs.YtigffblelngpjaaDoor.s_d h1 h2] at e1
  have hS : SptL n ([Pm.s (n - k)] ++ [(Pm.dl n).sr k]) := (SptL.one (Spt.s (by omega) (by omega))).app (SptL.one ((Spt.dl n).sr h1 h2))
  have e2 := (Eq'.of_star hS e1).pre hs.fl
  have e3 : Eq' n (s.2.map (Pm.fl n) ++ [Pm.dl n] ++ ones 1) (s.2.map (Pm.fl n) ++ [Pm.dl n]) := Eq'.drop_ones (hs.fl.app (SptL.one (Spt.dl n))) 1
  rw [List.append_assoc] at e3
  have e4 := Eq'.of_star (hs.fl.app (SptL.one (Spt.dl n))) (half_list hs.fl)
  rw [map_fl_fl] at e4
  refine (Qv.of (e2.trans (e3.trans e4))).trans ?_
  have := Qv.up (n := n) (p := s.1 - 1) hs
  rwa [show s.1 - 1 + 1 = s.1 by omega] at this
theorem act_forth {n : Nat} {s : Int × List Pm} (hs : SptL n s.2) {k : Nat} (h1 : 1 ≤ k) (h2 : k < n) : Qv n (act n (act n s (-(k : Int))) k) s := by
  rw [act_neg h1, act_pos h1]
  simp only [List.append_assoc]
  have e1 := merge1 (n := n) (Rd.s_right (d_noEn h1 h2)) (Spt.s h1 h2)
  rw [show ((Pm.dl n).sr k).mul (Pm.s k) = Pm.dl n from Pm.sr_sr _ _] at e1
  have hS : SptL n ([(Pm.dl n).sr k] ++ [Pm.s k]) := (SptL.one ((Spt.dl n).sr h1 h2)).app (SptL.one (Spt.s h1 h2))
  have e2 := (Eq'.of_star hS e1).pre hs.fl
  have e3 : Eq' n (s.2.map (Pm.fl n) ++ [Pm.dl n] ++ ones 1) (s.2.map (Pm.fl n) ++ [Pm.dl n]) := Eq'.drop_ones (hs.fl.app (SptL.one (Spt.dl n))) 1
  rw [List.append_assoc] at e3
  have e4 := Eq'.of_star (hs.fl.app (SptL.one (Spt.dl n))) (half_list hs.fl)
  rw [map_fl_fl] at e4
  refine (Qv.of (e2.trans (e3.trans e4))).trans ?_
  have := Qv.up (n := n) (p := s.1 - 1) hs
  rwa [show s.1 - 1 + 1 = s.1 by omega] at this
theorem s_noSt {j k : Nat} (h : j ≠ k) : ¬ (Pm.s k).St j := by
  unfold Pm.St; show ¬ sk k (j + 1) < sk k j
  have := sk_lt (k := k) (show j < j + 1 by omega) (fun ⟨e, _⟩ => h e); omega
theorem two_merge {n j k : Nat} (hj : j ≠ k) (h1 : 1 ≤ j) (h2 : j < n) (h3 : 1 ≤ k) (h4 : k < n) : Eq' n [Pm.s j, Pm.s k] [(Pm.s j).mul (Pm.s k)] := by
  have e := merge1 (n := n) (Rd.s_left (s_noSt hj)) (Spt.s h3 h4)
  have hS : SptL n ([Pm.s j] ++ [Pm.s k]) := (SptL.one (Spt.s h1 h2)).app (SptL.one (Spt.s h3 h4))
  exact (Eq'.of_star hS e).trans (Eq'.drop_ones (SptL.one ((Spt.s h1 h2).mul (Spt.s h3 h4))) 1)
theorem act_far {n : Nat} {s : Int × List Pm} (hs : SptL n s.2) {j k : Nat} (h1 : 1 ≤ j) (h2 : j + 2 ≤ k) (h3 : k < n) : Qv n (act n (act n s j) k) (act n (act n s k) j) := by
  simp only [act_pos h1, act_pos (show 1 ≤ k by omega), List.append_assoc]
  have a := two_merge (n := n) (show j ≠ k by omega) h1 (by omega) (by omega) h3
  have b := two_merge (n := n) (show k ≠ j by omega) (by omega) h3 h1 (by omega)
  rw [show (Pm.s k).mul (Pm.s j) = (Pm.s j).mul (Pm.s k) from Pm.ext' fun i => sk_far h2 i] at b
  exact Qv.of ((a.trans b.symm).pre hs)
theorem three_merge {n j k : Nat} (hjk : j = k + 1 ∨ k = j + 1) (h1 : 1 ≤ j) (h2 : j < n) (h3 : 1 ≤ k) (h4 : k < n) : Eq' n [Pm.s j, Pm.s k, Pm.s j] [((Pm.s j).mul (Pm.s k)).mul (Pm.s j)] := by
  have a := (two_merge (n := n) (show j ≠ k by omega) h1 h2 h3 h4).app (SptL.one (Spt.s h1 h2))
  have hne : ¬ ((Pm.s j).mul (Pm.s k)).En j := by
    unfold Pm.En
    show ¬ sk j (sk k (j + 1)) < sk j (sk k j)
    rcases hjk with e | e
    · subst e
      rw [sk_of (show k + 1 + 1 ≠ k by omega) (by omega), sk_k1, sk_k1, sk_of (show k ≠ k + 1 by omega) (by omega)]; omega
    · subst e
      rw [sk_k, sk_of (show j ≠ j + 1 by omega) (by omega), sk_of (show j + 1 + 1 ≠ j by omega) (by omega), sk_k]; omega
  have e := merge1 (n := n) (Rd.s_right hne) (Spt.s h1 h2)
  have hS : SptL n ([(Pm.s j).mul (Pm.s k)] ++ [Pm.s j]) := (SptL.one ((Spt.s h1 h2).mul (Spt.s h3 h4))).app (SptL.one (Spt.s h1 h2))
  exact a.trans ((Eq'.of_star hS e).trans (Eq'.drop_ones (SptL.one (((Spt.s h1 h2).mul (Spt.s h3 h4)).mul (Spt.s h1 h2))) 1))
theorem act_braid {n : Nat} {s : Int × List Pm} (hs : SptL n s.2) {k : Nat} (h1 : 1 ≤ k) (h2 : k + 1 < n) :
    Qv n (act n (act n (act n s k) ((k + 1 : Nat) : Int)) k) (act n (act n (act n s ((k + 1 : Nat) : Int)) k) ((k + 1 : Nat) : Int)) := by
  simp only [act_pos h1, act_pos (show 1 ≤ k + 1 by omega), List.append_assoc]
  have a := three_merge (n := n) (j := k) (k := k + 1) (.inr rfl) h1 (by omega) (by omega) h2
  have b := three_merge (n := n) (j := k + 1) (k := k) (.inl rfl) (by omega) h2 h1 (by omega)
  rw [show ((Pm.s (k + 1)).mul (Pm.s k)).mul (Pm.s (k + 1)) = ((Pm.s k).mul (Pm.s (k + 1))).mul (Pm.s k) from Pm.ext' fun i => (sk_braid k i).symm] at b
  exact Qv.of ((a.trans b.symm).pre hs)

/-! ### The normal form -/
def Can (n : Nat) (s : Int × List Pm) : Prop := SptL n s.2 ∧ Nf s.2 ∧ Lst s.2 ∧ s.2.head? ≠ some (Pm.dl n)
theorem dl_ne {n : Nat} (h : 2 ≤ n) : Pm.dl n ≠ Pm.one := fun e => by
  have : dlf n 1 = 1 := congrArg (fun p => Pm.f p 1) e
  rw [dlf_in (by omega) (by omega)] at this; omega
theorem Nf.reps {n : Nat} {l : List Pm} (hs : SptL n l) (h : Nf l) : ∀ a, Nf (reps n a ++ l)
  | 0 => h
  | a + 1 => by
    have ih := Nf.reps hs h a
    show Nf (Pm.dl n :: (Go.Proofs.YtigffblelngpjaaDoor.reps n a ++ l))
    cases e : Go.Proofs.YtigffblelngpjaaDoor.reps n a ++ l with
    | nil => trivial
    | cons q r =>
      rw [e] at ih
      refine ⟨fun k hk => ?_, ih⟩
      have hq : Spt n q := ((SptL.reps n a).app hs) q (by rw [e]; simp)
      exact dl_En (hq.St hk).1 (hq.St hk).2
theorem Lst.reps {n : Nat} (hn : 2 ≤ n) {l : List Pm} (h : Lst l) (a : Nat) : Lst (reps n a ++ l) := by
  cases l with
  | cons p t => unfold Lst at *; rw [List.getLast?_append]; cases hh : (p :: t).getLast? with
    | none => simp at hh
    | some x => rw [hh] at h; simpa using h
  | nil =>
    cases a with
    | zero => exact h
    | succ a =>
      unfold Lst
      rw [List.append_nil, reps_add]
      show (Go.Proofs.YtigffblelngpjaaDoor.reps n a ++ [Pm.dl n]).getLast? ≠ some Pm.one
      simp only [List.getLast?_append, List.getLast?_singleton, Option.some_or]
      exact fun e => dl_ne hn (Option.some.inj e)
theorem reps_eq {n : Nat} {l m : List Pm} (hl : l.head? ≠ some (Pm.dl n)) (hm : m.head? ≠ some (Pm.dl n)) : ∀ {a b : Nat}, reps n a ++ l = reps n b ++ m → a = b ∧ l = m := by
  intro a
  induction a with
  | zero =>
    intro b e
    cases b with
    | zero => exact ⟨rfl, e⟩
    | succ b => exfalso; apply hl; have : l = Pm.dl n :: (reps n b ++ m) := e; rw [this]; rfl
  | succ a ih =>
    intro b e
    cases b with
    | zero => exfalso; apply hm; have : Pm.dl n :: (reps n a ++ l) = m := e; rw [← this]; rfl
    | succ b =>
      have : Pm.dl n :: (reps n a ++ l) = Pm.dl n :: (reps n b ++ m) := e
      obtain ⟨h1, h2⟩ := ih (List.cons.inj this).2
      exact ⟨by omega, h2⟩
theorem Can.unique {n : Nat} (hn : 2 ≤ n) {s t : Int × List Pm} (hs : Can n s) (ht : Can n t) (h : Qv n s t) : s = t := by
  obtain ⟨s1, s2, s3, s4⟩ := hs
  obtain ⟨t1, t2, t3, t4⟩ := ht
  obtain ⟨a, b, e, h⟩ := h
  have := Nf.unique h (Nf.reps s1 s2 a) (Nf.reps t1 t2 b) (Lst.reps hn s3 a) (Lst.reps hn t3 b)
  obtain ⟨e1, e2⟩ := reps_eq s4 t4 this
  exact Prod.ext (by omega) e2
theorem lead_ex (n : Nat) : ∀ (l : List Pm), ∃ a m, l = reps n a ++ m ∧ m.head? ≠ some (Pm.dl n)
  | [] => ⟨0, [], rfl, by simp⟩
  | p :: l => by
    by_cases e : p = Pm.dl n
    · obtain ⟨a, m, h1, h2⟩ := lead_ex n l
      exact ⟨a + 1, m, by rw [e, h1]; rfl, h2⟩
    · exact ⟨0, p :: l, rfl, by simpa using e⟩
theorem Nf.right : ∀ {l m : List Pm}, Nf (l ++ m) → Nf m
  | [], _, h => h
  | _ :: l, _, h => Nf.right (l := l) h.tail
theorem Lst.right {l m : List Pm} (h : Lst (l ++ m)) : Lst m := by
  unfold Lst at *
  rw [List.getLast?_append] at h
  cases hh : m.getLast? with
  | none => simp
  | some x => rw [hh] at h; simpa using h
theorem Can.ex {n : Nat} {s : Int × List Pm} (hs : SptL n s.2) : ∃ c, Can n c ∧ Qv n s c := by
  obtain ⟨z, h1, h2⟩ := Nf.ex hs
  obtain ⟨m, a, rfl, h3⟩ := strip_ex _ z rfl
  obtain ⟨b, o, rfl, h4⟩ := lead_ex n m
  have hsz := hs.star h1
  have e := (Eq'.of_star hs h1).trans (Eq'.drop_ones hsz.left a)
  exact ⟨(s.1 + b, o), ⟨hsz.left.right, (Nf.left h2).right, h3.right, h4⟩, 0, b, by show s.1 - (0 : Nat) = s.1 + b - b; omega, e⟩
noncomputable def can (n : Nat) (s : Int × List Pm) : Int × List Pm := open Classical in if h : SptL n s.2 then (Can.ex (n := n) h).choose else s
theorem can_spec {n : Nat} {s : Int × List Pm} (h : SptL n s.2) : Can n (can n s) ∧ Qv n s (can n s) := by
  unfold can; rw [dif_pos h]; exact (Can.ex h).choose_spec
theorem can_eq {n : Nat} (hn : 2 ≤ n) {s t : Int × List Pm} (h : Qv n s t) : can n s = can n t :=
  Can.unique hn (can_spec h.sup.1).1 (can_spec h.sup.2).1 ((can_spec h.sup.1).2.symm.trans (h.trans (can_spec h.sup.2).2))
theorem can_id {n : Nat} (hn : 2 ≤ n) {s : Int × List Pm} (h : Can n s) : can n s = s := Can.unique hn (can_spec h.1).1 h (can_spec h.1).2.symm
/-- A letter behind a normal form. -/
noncomputable def nfa (n : Nat) (s : Int × List Pm) (k : Int) : Int × List Pm := can n (act n s k)
theorem nfa_can {n : Nat} {s : Int × List Pm} (h : Can n s) {k : Int} (h1 : 1 ≤ k.natAbs) (h2 : k.natAbs < n) : Can n (nfa n s k) := (can_spec (act_sup h.1 h1 h2)).1
theorem nfa_Qv {n : Nat} {s t : Int × List Pm} (h : Qv n s t) {k : Int} (h1 : 1 ≤ k.natAbs) (h2 : k.natAbs < n) : Qv n (act n s k) (nfa n t k) :=
  (act_Qv h h1 h2).trans (can_spec (act_sup h.sup.2 h1 h2)).2
theorem nfa_canc {n : Nat} (hn : 2 ≤ n) {s : Int × List Pm} (h : Can n s) {k : Int} (h1 : 1 ≤ k.natAbs) (h2 : k.natAbs < n) : nfa n (nfa n s k) (-k) = s := by
  have hb : 1 ≤ (-k).natAbs ∧ (-k).natAbs < n := by rw [Int.natAbs_neg]; exact ⟨h1, h2⟩
  have q := nfa_Qv (nfa_Qv (Qv.refl h.1) h1 h2) hb.1 hb.2
  refine Can.unique hn (nfa_can (nfa_can h h1 h2) hb.1 hb.2) h (q.symm.trans ?_)
  rcases Int.natAbs_eq k with e | e
  · have := act_back h.1 h1 h2; rwa [← e] at this
  · have := act_forth h.1 h1 h2
    rw [show ((k.natAbs : Nat) : Int) = -k by omega, show -(-k) = k by omega] at this
    exact this
theorem nfa_farp {n : Nat} (hn : 2 ≤ n) {s : Int × List Pm} (h : Can n s) {j k : Nat} (h1 : 1 ≤ j) (h2 : j + 2 ≤ k) (h3 : k < n) : nfa n (nfa n s j) k = nfa n (nfa n s k) j := by
  have bj : 1 ≤ (j : Int).natAbs ∧ (j : Int).natAbs < n := by rw [Int.natAbs_natCast]; omega
  have bk : 1 ≤ (k : Int).natAbs ∧ (k : Int).natAbs < n := by rw [Int.natAbs_natCast]; omega
  have q1 := nfa_Qv (nfa_Qv (Qv.refl h.1) bj.1 bj.2) bk.1 bk.2
  have q2 := nfa_Qv (nfa_Qv (Qv.refl h.1) bk.1 bk.2) bj.1 bj.2
  exact Can.unique hn (nfa_can (nfa_can h bj.1 bj.2) bk.1 bk.2) (nfa_can (nfa_can h bk.1 bk.2) bj.1 bj.2) (q1.symm.trans ((act_far h.1 h1 h2 h3).trans q2))
theorem nfa_pos {n : Nat} (hn : 2 ≤ n) {s : Int × List Pm} (h : Can n s) {k : Nat} (h1 : 1 ≤ k) (h2 : k + 1 < n) :
    nfa n (nfa n (nfa n s k) ((k + 1 : Nat) : Int)) k = nfa n (nfa n (nfa n s ((k + 1 : Nat) : Int)) k) ((k + 1 : Nat) : Int) := by
  have bj : 1 ≤ (k : Int).natAbs ∧ (k : Int).natAbs < n := by rw [Int.natAbs_natCast]; omega
  have bk : 1 ≤ ((k + 1 : Nat) : Int).natAbs ∧ ((k + 1 : Nat) : Int).natAbs < n := by rw [Int.natAbs_natCast]; omega
  have q1 := nfa_Qv (nfa_Qv (nfa_Qv (Qv.refl h.1) bj.1 bj.2) bk.1 bk.2) bj.1 bj.2
  have q2 := nfa_Qv (nfa_Qv (nfa_Qv (Qv.refl h.1) bk.1 bk.2) bj.1 bj.2) bk.1 bk.2
  exact Can.unique hn (nfa_can (nfa_can (nfa_can h bj.1 bj.2) bk.1 bk.2) bj.1 bj.2) (nfa_can (nfa_can (nfa_can h bk.1 bk.2) bj.1 bj.2) bk.1 bk.2) (q1.symm.trans ((act_braid h.1 h1 h2).trans q2))
end Go.Proofs.YtigffblelngpjaaDoor
