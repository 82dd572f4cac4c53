/- Texts of this claim in one file: libraries and walks. -/
import Derived.Test.YtlhkehfplcclgaaDoorMCheck1
/- What a fabric's text tells: the texts of two fabrics are equal only if the fabrics are. No program in sight. -/
namespace Go.Proofs.YtlhkehfplcclgaaDoor
set_option linter.unusedVariables false
set_option linter.unusedSimpArgs false
set_option maxRecDepth 8000
open Go Go.RowKit

/-! ### Numerals -/
theorem dd_rng : ∀ (k u : Nat), u ≤ k → ∀ c ∈ Lib.decDigits u, 48 ≤ c.toNat ∧ c.toNat ≤ 57
  | 0, u, h, c, hc => by
    obtain rfl : u = 0 := by omega
    rw [dec_lt (by decide)] at hc
    simp only [List.mem_singleton] at hc
    subst hc; decide
  | k + 1, u, h, c, hc => by
    by_cases h10 : u < 10
    · rw [dec_lt h10] at hc
      simp only [List.mem_singleton] at hc
      subst hc
      rw [UInt8.toNat_ofNat_of_lt' (by show 48 + u < 256; omega)]; omega
    · rw [dec_ge h10] at hc
      rcases List.mem_append.1 hc with hc | hc
      · exact dd_rng k (u / 10) (by omega) c hc
      · simp only [List.mem_singleton] at hc
        subst hc
        rw [UInt8.toNat_ofNat_of_lt' (by show 48 + u % 10 < 256; omega)]; omega
theorem dd_ne (u : Nat) : Lib.decDigits u ≠ [] := by
  by_cases h10 : u < 10
  · rw [dec_lt h10]; simp
  · rw [dec_ge h10]; simp
theorem dig_inj {a b : Nat} (ha : a < 10) (hb : b < 10) (h : UInt8.ofNat (48 + a) = UInt8.ofNat (48 + b)) : a = b := by
  have := congrArg UInt8.toNat h
  rw [UInt8.toNat_ofNat_of_lt' (by show 48 + a < 256; omega), UInt8.toNat_ofNat_of_lt' (by show 48 + b < 256; omega)] at this
  omega
theorem dd_inj : ∀ (k u v : Nat), u ≤ k → Lib.decDigits u = Lib.decDigits v → u = v
  | 0, u, v, hk, h => by
    obtain rfl : u = 0 := by omega
    by_cases hv : v < 10
    · rw [dec_lt (by decide), dec_lt hv] at h
      exact dig_inj (by decide) hv (List.cons.inj h).1
    · rw [dec_lt (by decide), dec_ge hv] at h
      have := congrArg List.length h
      have h2 := List.length_pos_iff.2 (dd_ne (v / 10))
      rw [List.length_append, List.length_singleton, List.length_singleton] at this; omega
  | k + 1, u, v, hk, h => by
    by_cases hu : u < 10
    · by_cases hv : v < 10
      · rw [dec_lt hu, dec_lt hv] at h
        exact dig_inj hu hv (List.cons.inj h).1
      · rw [dec_lt hu, dec_ge hv] at h
        have := congrArg List.length h
        have h2 := List.length_pos_iff.2 (dd_ne (v / 10))
        rw [List.length_append, List.length_singleton, List.length_singleton] at this; omega
    · by_cases hv : v < 10
      · rw [dec_ge hu, dec_lt hv] at h
        have := congrArg List.length h
        have h2 := List.length_pos_iff.2 (dd_ne (u / 10))
        rw [List.length_append, List.length_singleton, List.length_singleton] at this; omega
      · rw [dec_ge hu, dec_ge hv] at h
        obtain ⟨h1, h2⟩ := List.append_inj' h rfl
        have e1 := dd_inj k (u / 10) (v / 10) (by omega) h1
        have e2 := dig_inj (Nat.mod_lt _ (by decide)) (Nat.mod_lt _ (by decide)) (List.cons.inj h2).1
        omega
/-- The signs of a numeral. -/
theorem itoa_rng (n : Int) : ∀ c ∈ Lib.itoa n, c.toNat = 45 ∨ (48 ≤ c.toNat ∧ c.toNat ≤ 57) := fun c hc => by
  unfold Lib.itoa at hc
  split at hc
  · rcases List.mem_cons.1 hc with rfl | hc
    · exact .inl rfl
    · exact .inr (dd_rng _ _ (Nat.le_refl _) c hc)
  · exact .inr (dd_rng _ _ (Nat.le_refl _) c hc)
theorem itoa_inj {m n : Int} (h : Lib.itoa m = Lib.itoa n) : m = n := by
  have key : ∀ u v : Nat, Lib.decDigits u = 45 :: Lib.decDigits v → False := fun u v e => by
    have := dd_rng _ u (Nat.le_refl _) 45 (by rw [e]; simp)
    exact absurd this.1 (by decide)
  unfold Lib.itoa at h
  by_cases hm : m < 0
  · rw [if_pos hm] at h
    by_cases hn : n < 0
    · rw [if_pos hn] at h
      have := dd_inj _ _ _ (Nat.le_refl _) (List.cons.inj h).2
      omega
    · rw [if_neg hn] at h; exact (key _ _ h.symm).elim
  · rw [if_neg hm] at h
    by_cases hn : n < 0
    · rw [if_pos hn] at h; exact (key _ _ h).elim
    · rw [if_neg hn] at h
      have := dd_inj _ _ _ (Nat.le_refl _) h
      omega
/-! ### Names, passes -/
theorem sep_inj {c : UInt8} : ∀ {a a' b b' : List UInt8}, c ∉ a → c ∉ a' → a ++ c :: b = a' ++ c :: b' → a = a' ∧ b = b'
  | [], [], _, _, _, _, h => ⟨rfl, (List.cons.inj h).2⟩
  | [], x :: a', _, _, _, h2, h => absurd (List.cons.inj h).1 fun e => h2 (by rw [e]; simp)
  | x :: a, [], _, _, h1, _, h => absurd (List.cons.inj h).1 fun e => h1 (by rw [← e]; simp)
  | x :: a, y :: a', b, b', h1, h2, h => by
    obtain ⟨e1, e2⟩ := List.cons.inj h
    obtain ⟨e3, e4⟩ := sep_inj (fun k => h1 (List.mem_cons_of_mem _ k)) (fun k => h2 (List.mem_cons_of_mem _ k)) e2
    exact ⟨by rw [e1, e3], e4⟩
theorem itoa_not {n : Int} {c : UInt8} (h : c.toNat ≠ 45 ∧ (c.toNat < 48 ∨ 57 < c.toNat)) : c ∉ Lib.itoa n := fun hc => by
  have := itoa_rng n c hc; omega
theorem nameT_eq (a : Nm) : nameT a = Lib.itoa a.y ++ 46 :: Lib.itoa a.n := by unfold nameT; simp
theorem nameT_inj {a b : Nm} (h : nameT a = nameT b) : a = b := by
  rw [nameT_eq, nameT_eq] at h
  obtain ⟨h1, h2⟩ := sep_inj (itoa_not (by decide)) (itoa_not (by decide)) h
  obtain ⟨y, n⟩ := a
  obtain ⟨y', n'⟩ := b
  rw [show y = y' from itoa_inj h1, show n = n' from itoa_inj h2]
theorem nameT_not {a : Nm} {c : UInt8} (h : c.toNat < 45 ∨ 57 < c.toNat) : c ∉ nameT a := fun hc => by
  rw [nameT_eq] at hc
  rcases List.mem_append.1 hc with hc | hc
  · exact itoa_not ⟨by omega, by omega⟩ hc
  · rcases List.mem_cons.1 hc with rfl | hc
    · have : (46 : UInt8).toNat = 46 := rfl
      omega
    · exact itoa_not ⟨by omega, by omega⟩ hc
theorem nameT_46 (a : Nm) : (46 : UInt8) ∈ nameT a := by rw [nameT_eq]; simp
def dT (p : Ps) : List UInt8 := if p.d = 1 then [62] else [60]
def fT (p : Ps) : List UInt8 := if p.f = true then [43] else []
theorem passT_eq (p : Ps) : passT p = nameT p.id ++ dT p ++ fT p := rfl
theorem passT_inj {p q : Ps} (hp : p.d = 0 ∨ p.d = 1) (hq : q.d = 0 ∨ q.d = 1) (h : passT p = passT q) : p = q := by
  have m62 : ∀ p : Ps, (62 : UInt8) ∈ passT p ↔ p.d = 1 := fun p => by
    rw [passT_eq, List.mem_append, List.mem_append]
    have h1 : (62 : UInt8) ∉ nameT p.id := nameT_not (by decide)
    unfold dT fT
    by_cases hd : p.d = 1 <;> by_cases hf : p.f = true <;> simp [hd, hf, h1]
  have m43 : ∀ p : Ps, (43 : UInt8) ∈ passT p ↔ p.f = true := fun p => by
    rw [passT_eq, List.mem_append, List.mem_append]
    have h1 : (43 : UInt8) ∉ nameT p.id := nameT_not (by decide)
    unfold dT fT
    by_cases hd : p.d = 1 <;> by_cases hf : p.f = true <;> simp [hd, hf, h1]
  have e1 : p.d = q.d := by
    have := (m62 p).symm.trans ((by rw [h]) : ((62 : UInt8) ∈ passT p ↔ (62 : UInt8) ∈ passT q)) |>.trans (m62 q)
    omega
  have e2 : p.f = q.f := by
    have := (m43 p).symm.trans ((by rw [h]) : ((43 : UInt8) ∈ passT p ↔ (43 : UInt8) ∈ passT q)) |>.trans (m43 q)
    exact Bool.eq_iff_iff.2 this
  have e3 : dT p = dT q := by unfold dT; rw [e1]
  have e4 : fT p = fT q := by unfold fT; rw [e2]
  rw [passT_eq, passT_eq, e3, e4] at h
  have e5 := nameT_inj (List.append_cancel_right (List.append_cancel_right h))
  obtain ⟨i, f, d⟩ := p
  obtain ⟨i', f', d'⟩ := q
  dsimp only at e1 e2 e5
  rw [e1, e2, e5]
/-! ### Words and lines -/
/-- A word has no space and no end of line in it. -/
def okW (x : List UInt8) : Prop := (32 : UInt8) ∉ x ∧ (10 : UInt8) ∉ x
theorem okW_name (a : Nm) : okW (nameT a) := ⟨nameT_not (by decide), nameT_not (by decide)⟩
theorem okW_itoa (n : Int) : okW (Lib.itoa n) := ⟨itoa_not (by decide), itoa_not (by decide)⟩
theorem okW_pass (p : Ps) : okW (passT p) := by
  have h1 := okW_name p.id
  unfold okW at h1 ⊢
  rw [passT_eq]
  simp only [List.mem_append, not_or]
  unfold dT fT
  refine ⟨⟨⟨h1.1, ?_⟩, ?_⟩, ⟨h1.2, ?_⟩, ?_⟩ <;> split <;> decide
theorem sp_inj : ∀ {r r' : List (List UInt8)} {x x' : List UInt8}, (32 : UInt8) ∉ x → (32 : UInt8) ∉ x' → (∀ y ∈ r, (32 : UInt8) ∉ y) → (∀ y ∈ r', (32 : UInt8) ∉ y) → x ++ sp r = x' ++ sp r' → x = x' ∧ r = r'
  | [], [], x, x', _, _, _, _, h => by simpa [sp] using h
  | [], y :: r', x, x', h1, h2, _, _, h => by
    rw [sp_cons] at h
    have e : x = x' ++ (32 :: (y ++ sp r')) := by simpa [sp] using h
    exact absurd (show (32 : UInt8) ∈ x by rw [e]; simp) h1
  | y :: r, [], x, x', h1, h2, _, _, h => by
    rw [sp_cons] at h
    have e : x ++ (32 :: (y ++ sp r)) = x' := by simpa [sp] using h
    exact absurd (show (32 : UInt8) ∈ x' by rw [← e]; simp) h2
  | y :: r, y' :: r', x, x', h1, h2, h3, h4, h => by
    rw [sp_cons, sp_cons] at h
    have e : x ++ 32 :: (y ++ sp r) = x' ++ 32 :: (y' ++ sp r') := by simpa using h
    obtain ⟨e1, e2⟩ := sep_inj h1 h2 e
    obtain ⟨e3, e4⟩ := sp_inj (h3 y (by simp)) (h4 y' (by simp)) (fun z hz => h3 z (List.mem_cons_of_mem _ hz)) (fun z hz => h4 z (List.mem_cons_of_mem _ hz)) e2
    exact ⟨e1, by rw [e3, e4]⟩
/-- The words of a line. -/
def okL (W : List (List UInt8)) : Prop := W ≠ [] ∧ ∀ x ∈ W, okW x
theorem join_inj {A B : List (List UInt8)} (hA : okL A) (hB : okL B) (h : Lib.join A [32] = Lib.join B [32]) : A = B := by
  obtain ⟨x, r, rfl⟩ := List.exists_cons_of_ne_nil hA.1
  obtain ⟨x', r', rfl⟩ := List.exists_cons_of_ne_nil hB.1
  rw [join_sp, join_sp] at h
  obtain ⟨e1, e2⟩ := sp_inj (hA.2 x (by simp)).1 (hB.2 x' (by simp)).1 (fun z hz => (hA.2 z (List.mem_cons_of_mem _ hz)).1) (fun z hz => (hB.2 z (List.mem_cons_of_mem _ hz)).1) h
  rw [e1, e2]
theorem join_10 {A : List (List UInt8)} (hA : okL A) : (10 : UInt8) ∉ Lib.join A [32] := by
  obtain ⟨x, r, rfl⟩ := List.exists_cons_of_ne_nil hA.1
  rw [join_sp]
  intro hc
  have key : ∀ r : List (List UInt8), (∀ y ∈ r, (10 : UInt8) ∉ y) → (10 : UInt8) ∉ sp r := by
    intro r
    induction r with
    | nil => intro _; simp [sp]
    | cons y r ih =>
      intro h
      rw [sp_cons]
      intro hc
      have h1 : (10 : UInt8) ∉ y := h y (by simp)
      have h2 := ih fun z hz => h z (List.mem_cons_of_mem _ hz)
      have : (10 : UInt8) ≠ 32 := by decide
      simp [h1, h2, this] at hc
  rcases List.mem_append.1 hc with hc | hc
  · exact (hA.2 x (by simp)).2 hc
  · exact key r (fun z hz => (hA.2 z (List.mem_cons_of_mem _ hz)).2) hc
theorem lines_inj : ∀ {A B : List (List (List UInt8))}, (∀ W ∈ A, okL W) → (∀ W ∈ B, okL W) → (A.map lineT).flatten = (B.map lineT).flatten → A = B
  | [], [], _, _, _ => rfl
  | [], W :: B, _, _, h => by unfold lineT at h; simp at h
  | W :: A, [], _, _, h => by unfold lineT at h; simp at h
  | W :: A, V :: B, hA, hB, h => by
    have h1 := hA W (by simp)
    have h2 := hB V (by simp)
    have e : Lib.join W [32] ++ 10 :: (A.map lineT).flatten = Lib.join V [32] ++ 10 :: (B.map lineT).flatten := by
      simp only [List.map_cons, List.flatten_cons] at h
      unfold lineT at h ⊢
      simpa using h
    obtain ⟨e1, e2⟩ := sep_inj (join_10 h1) (join_10 h2) e
    rw [join_inj h1 h2 e1, lines_inj (fun X hX => hA X (List.mem_cons_of_mem _ hX)) (fun X hX => hB X (List.mem_cons_of_mem _ hX)) e2]
/-! ### The lines of a fabric -/
def tabW (t : Tab) : List (List (List UInt8)) := ((List.range t.length).map fun y => (List.range (yi t y).length).map fun n => descT ⟨(y : Int) + 1, (n : Nat)⟩ (li (yi t y) n)).flatten
def nmsW (w : List UInt8) (l : List Nm) : List (List (List UInt8)) := if l = [] then [] else [w :: l.map nameT]
def wordsF (f : Fab) : List (List (List UInt8)) := tabW f.ys ++ f.cr.map crW ++ nmsW heldW f.held ++ nmsW fallenW f.fallen
theorem textB_eq (f : Fab) : textB f = ((wordsF f).map lineT).flatten := by
  have h1 : tabP f.ys f.ys.length = ((tabW f.ys).map lineT).flatten := by
    unfold tabP rowT rowP tabW
    rw [List.map_flatten, List.map_map, List.flatten_flatten, List.map_map]
    congr 1
    refine List.map_congr_left fun y _ => ?_
    simp only [Function.comp_apply, List.map_map]
    rfl
  have h2 : crP f.cr f.cr.length = ((f.cr.map crW).map lineT).flatten := by
    unfold crP; rw [List.take_length, List.map_map]; rfl
  have h3 : ∀ w l, nmsT w l = ((nmsW w l).map lineT).flatten := fun w l => by
    unfold nmsT nmsW; split <;> simp
  unfold textB wordsF
  rw [h1, h2, h3, h3]
  simp only [List.map_append, List.flatten_append]
theorem mem_tabW {t : Tab} {W : List (List UInt8)} : W ∈ tabW t ↔ ∃ y, y < t.length ∧ ∃ n, n < (yi t y).length ∧ W = descT ⟨(y : Int) + 1, (n : Nat)⟩ (li (yi t y) n) := by
  unfold tabW
  simp only [List.mem_flatten, List.mem_map, List.mem_range]
  constructor
  · rintro ⟨L, ⟨y, hy, rfl⟩, hW⟩
    simp only [List.mem_map, List.mem_range] at hW
    obtain ⟨n, hn, rfl⟩ := hW
    exact ⟨y, hy, n, hn, rfl⟩
  · rintro ⟨y, hy, n, hn, rfl⟩
    exact ⟨_, ⟨y, hy, rfl⟩, by simp only [List.mem_map, List.mem_range]; exact ⟨n, hn, rfl⟩⟩
/-- A loop's numbers are those that a text can tell. -/
structure TelL (l : Lp) : Prop where
  bed : l.bed = 0 ∨ l.bed = 1
  past : ∀ p ∈ l.past, p.d = 0 ∨ p.d = 1
def bedT (l : Lp) : List UInt8 := if l.bed = 1 then backT else frontT
def rest2 (l : Lp) : List (List UInt8) := (if l.thr = [] then [] else throughT :: l.thr.map nameT) ++ ((if l.past = [] then [] else [pastT]) ++ l.past.map passT)
def newW (l : Lp) : List (List UInt8) := if l.new = true then [newT] else []
theorem desc_eq (a : Nm) (l : Lp) : descT a l = nameT a :: bedT l :: (newW l ++ rest2 l) := by
  unfold descT d4T d3T d2T d1T bedT newW rest2; simp
def isP (x : List UInt8) : Bool := decide ((60 : UInt8) ∈ x ∨ (62 : UInt8) ∈ x)
def isN (x : List UInt8) : Bool := decide ((46 : UInt8) ∈ x) && !isP x
theorem isP_pass (p : Ps) : isP (passT p) = true := by
  unfold isP
  refine decide_eq_true ?_
  rw [passT_eq]
  unfold dT
  by_cases hd : p.d = 1 <;> simp [hd]
theorem isP_name (a : Nm) : isP (nameT a) = false := by
  unfold isP
  refine decide_eq_false ?_
  rintro (h | h)
  · exact nameT_not (by decide) h
  · exact nameT_not (by decide) h
theorem isN_name (a : Nm) : isN (nameT a) = true := by
  unfold isN
  rw [isP_name, decide_eq_true (nameT_46 a)]; rfl
theorem isN_pass (p : Ps) : isN (passT p) = false := by
  unfold isN
  rw [isP_pass, Bool.and_comm]; rfl
theorem map_inj_on {α : Type} {f : α → List UInt8} : ∀ {l m : List α}, (∀ a ∈ l, ∀ b ∈ m, f a = f b → a = b) → l.map f = m.map f → l = m
  | [], [], _, _ => rfl
  | [], b :: m, _, h => by simp at h
  | a :: l, [], _, h => by simp at h
  | a :: l, b :: m, hi, h => by
    simp only [List.map_cons] at h
    obtain ⟨h1, h2⟩ := List.cons.inj h
    rw [hi a (by simp) b (by simp) h1, map_inj_on (fun x hx y hy => hi x (List.mem_cons_of_mem _ hx) y (List.mem_cons_of_mem _ hy)) h2]
theorem filt_all {α : Type} (f : α → List UInt8) (p : List UInt8 → Bool) (b : Bool) (l : List α) (h : ∀ a, p (f a) = b) : (l.map f).filter p = if b then l.map f else [] := by
  induction l with
  | nil => cases b <;> rfl
  | cons a l ih =>
    rw [List.map_cons, List.filter_cons, h, ih]
    cases b <;> rfl
theorem desc_inj {a b : Nm} {l m : Lp} (hl : TelL l) (hm : TelL m) (h : descT a l = descT b m) : a = b ∧ l = m := by
  rw [desc_eq, desc_eq] at h
  obtain ⟨h1, h2⟩ := List.cons.inj h
  obtain ⟨h3, h4⟩ := List.cons.inj h2
  have e1 := nameT_inj h1
  have e2 : l.bed = m.bed := by
    have key : ∀ l : Lp, bedT l = backT ↔ l.bed = 1 := fun l => by
      unfold bedT
      by_cases e : l.bed = 1
      · rw [if_pos e]; exact ⟨fun _ => e, fun _ => rfl⟩
      · rw [if_neg e]; exact ⟨fun k => absurd k (by decide), fun k => absurd k e⟩
    have := (key l).symm.trans ((by rw [h3]) : (bedT l = backT ↔ bedT m = backT)) |>.trans (key m)
    have := hl.bed; have := hm.bed
    omega
  have nw : ∀ l : Lp, newT ∈ newW l ++ rest2 l ↔ l.new = true := fun l => by
    have k1 : ∀ a : Nm, newT ≠ nameT a := fun a e => absurd (nameT_46 a) (by rw [← e]; decide)
    have k2 : ∀ p : Ps, newT ≠ passT p := fun p e => absurd (show (46 : UInt8) ∈ passT p by rw [passT_eq]; simp [nameT_46]) (by rw [← e]; decide)
    have k3 : newT ≠ throughT := by decide
    have k4 : newT ≠ pastT := by decide
    have hr : newT ∉ rest2 l := fun hc => by
      unfold rest2 at hc
      rcases List.mem_append.1 hc with hc | hc
      · split at hc
        · cases hc
        · rcases List.mem_cons.1 hc with e | hc
          · exact k3 e
          · obtain ⟨a, _, e⟩ := List.mem_map.1 hc
            exact k1 a e.symm
      · rcases List.mem_append.1 hc with hc | hc
        · split at hc
          · cases hc
          · exact k4 (List.mem_singleton.1 hc)
        · obtain ⟨p, _, e⟩ := List.mem_map.1 hc
          exact k2 p e.symm
    rw [List.mem_append]
    unfold newW
    by_cases e : l.new = true
    · rw [if_pos e]; exact ⟨fun _ => e, fun _ => .inl (by simp)⟩
    · rw [if_neg e]; exact ⟨fun k => (by rcases k with k | k; cases k; exact absurd k hr), fun k => absurd k e⟩
  have e3 : l.new = m.new := by
    have := (nw l).symm.trans ((by rw [h4]) : (newT ∈ newW l ++ rest2 l ↔ newT ∈ newW m ++ rest2 m)) |>.trans (nw m)
    exact Bool.eq_iff_iff.2 this
  have e4 : newW l = newW m := by unfold newW; rw [e3]
  rw [e4] at h4
  have h5 := List.append_cancel_left h4
  have fN : ∀ l : Lp, (rest2 l).filter isN = l.thr.map nameT := fun l => by
    have k1 := filt_all nameT isN true l.thr isN_name
    have k2 := filt_all passT isN false l.past isN_pass
    unfold rest2
    rw [List.filter_append, List.filter_append, k2]
    have k3 : ((if l.past = [] then [] else [pastT]) : List (List UInt8)).filter isN = [] := by split <;> decide
    rw [k3]
    by_cases e : l.thr = []
    · rw [if_pos e, e]; rfl
    · rw [if_neg e, List.filter_cons, if_neg (by decide), k1]; simp
  have fP : ∀ l : Lp, (rest2 l).filter isP = l.past.map passT := fun l => by
    have k1 := filt_all nameT isP false l.thr isP_name
    have k2 := filt_all passT isP true l.past isP_pass
    unfold rest2
    rw [List.filter_append, List.filter_append, k2]
    have k3 : ((if l.past = [] then [] else [pastT]) : List (List UInt8)).filter isP = [] := by split <;> decide
    rw [k3]
    by_cases e : l.thr = []
    · rw [if_pos e]; rfl
    · rw [if_neg e, List.filter_cons, if_neg (by decide), k1]; simp
  have e5 : l.thr = m.thr := map_inj_on (fun _ _ _ _ => nameT_inj) (by rw [← fN, ← fN, h5])
  have e6 : l.past = m.past := map_inj_on (fun p hp q hq => passT_inj (hl.past p hp) (hm.past q hq)) (by rw [← fP, ← fP, h5])
  obtain ⟨b1, n1, t1, p1⟩ := l
  obtain ⟨b2, n2, t2, p2⟩ := m
  dsimp only at e2 e3 e5 e6
  exact ⟨e1, by rw [e2, e3, e5, e6]⟩
theorem desc_ok (a : Nm) (l : Lp) : okL (descT a l) := by
  refine ⟨by rw [desc_eq]; simp, fun x hx => ?_⟩
  rw [desc_eq] at hx
  rcases List.mem_cons.1 hx with rfl | hx
  · exact okW_name a
  rcases List.mem_cons.1 hx with rfl | hx
  · unfold bedT; split <;> (unfold okW; decide)
  rcases List.mem_append.1 hx with hx | hx
  · unfold newW at hx; split at hx
    · rw [List.mem_singleton.1 hx]; unfold okW; decide
    · cases hx
  unfold rest2 at hx
  rcases List.mem_append.1 hx with hx | hx
  · split at hx
    · cases hx
    · rcases List.mem_cons.1 hx with rfl | hx
      · unfold okW; decide
      · obtain ⟨b, _, rfl⟩ := List.mem_map.1 hx; exact okW_name b
  · rcases List.mem_append.1 hx with hx | hx
    · split at hx
      · cases hx
      · rw [List.mem_singleton.1 hx]; unfold okW; decide
    · obtain ⟨p, _, rfl⟩ := List.mem_map.1 hx; exact okW_pass p
theorem words_ok (f : Fab) : ∀ W ∈ wordsF f, okL W := fun W hW => by
  unfold wordsF at hW
  have key : ∀ w l, okW w → ∀ W ∈ nmsW w l, okL W := fun w l hw W hW => by
    unfold nmsW at hW; split at hW
    · cases hW
    · rw [List.mem_singleton.1 hW]
      refine ⟨by simp, fun x hx => ?_⟩
      rcases List.mem_cons.1 hx with rfl | hx
      · exact hw
      · obtain ⟨b, _, rfl⟩ := List.mem_map.1 hx; exact okW_name b
  rcases List.mem_append.1 hW with hW | hW
  · rcases List.mem_append.1 hW with hW | hW
    · rcases List.mem_append.1 hW with hW | hW
      · obtain ⟨y, _, n, _, rfl⟩ := mem_tabW.1 hW; exact desc_ok _ _
      · obtain ⟨c, _, rfl⟩ := List.mem_map.1 hW
        unfold crW
        refine ⟨by simp, fun x hx => ?_⟩
        simp only [List.mem_cons, List.not_mem_nil, or_false] at hx
        rcases hx with rfl | rfl | rfl | rfl
        · unfold okW; decide
        · exact okW_name _
        · exact okW_name _
        · exact okW_itoa _
    · exact key _ _ (by unfold okW; decide) W hW
  · exact key _ _ (by unfold okW; decide) W hW
/-- A fabric whose text tells everything. -/
structure TelF (f : Fab) : Prop where
  l6 : f.ys.length = 6
  l : ∀ r ∈ f.ys, ∀ l ∈ r, TelL l
def hd1 (W : List (List UInt8)) : List UInt8 := W.headD []
theorem filt_hd (f : Fab) (w : List UInt8) (hw : (46 : UInt8) ∉ w) :
    (wordsF f).filter (fun W => decide (hd1 W = w)) = (if w = crossW then f.cr.map crW else []) ++ (if w = heldW then nmsW heldW f.held else []) ++ (if w = fallenW then nmsW fallenW f.fallen else []) := by
  unfold wordsF
  rw [List.filter_append, List.filter_append, List.filter_append]
  have k1 : (tabW f.ys).filter (fun W => decide (hd1 W = w)) = [] := List.filter_eq_nil_iff.2 fun W hW => by
    obtain ⟨y, _, n, _, rfl⟩ := mem_tabW.1 hW
    rw [desc_eq]
    intro e
    have e2 : nameT ⟨(y : Int) + 1, (n : Nat)⟩ = w := of_decide_eq_true e
    exact hw (by rw [← e2]; exact nameT_46 _)
  have k2 : (f.cr.map crW).filter (fun W => decide (hd1 W = w)) = if w = crossW then f.cr.map crW else [] := by
    by_cases e : w = crossW
    · rw [if_pos e]
      refine List.filter_eq_self.2 fun W hW => ?_
      obtain ⟨c, _, rfl⟩ := List.mem_map.1 hW
      exact decide_eq_true (by rw [e]; rfl)
    · rw [if_neg e]
      refine List.filter_eq_nil_iff.2 fun W hW => ?_
      obtain ⟨c, _, rfl⟩ := List.mem_map.1 hW
      intro k
      exact e (of_decide_eq_true k).symm
  have k3 : ∀ v l, (nmsW v l).filter (fun W => decide (hd1 W = w)) = if w = v then nmsW v l else [] := fun v l => by
    unfold nmsW
    by_cases hl : l = []
    · rw [if_pos hl]; split <;> rfl
    · rw [if_neg hl]
      by_cases e : w = v
      · rw [if_pos e, List.filter_cons, if_pos (decide_eq_true (by rw [e]; rfl))]; rfl
      · rw [if_neg e, List.filter_cons, if_neg (fun k => e (of_decide_eq_true k).symm)]; rfl
  rw [k1, k2, k3, k3]; simp
theorem crW_inj {c d : Xg} (h : crW c = crW d) : c = d := by
  unfold crW at h
  obtain ⟨_, h1⟩ := List.cons.inj h
  obtain ⟨h2, h3⟩ := List.cons.inj h1
  obtain ⟨h4, h5⟩ := List.cons.inj h3
  have h6 := (List.cons.inj h5).1
  obtain ⟨a, b, n⟩ := c
  obtain ⟨a', b', n'⟩ := d
  dsimp only at h2 h4 h6
  rw [nameT_inj h2, nameT_inj h4, itoa_inj h6]
theorem nmsW_inj {w : List UInt8} {l m : List Nm} (h : nmsW w l = nmsW w m) : l = m := by
  unfold nmsW at h
  by_cases hl : l = []
  · rw [if_pos hl] at h
    by_cases hm : m = []
    · rw [hl, hm]
    · rw [if_neg hm] at h; cases h
  · rw [if_neg hl] at h
    by_cases hm : m = []
    · rw [if_pos hm] at h; cases h
    · rw [if_neg hm] at h
      have := (List.cons.inj (List.cons.inj h).1).2
      exact map_inj_on (fun _ _ _ _ => nameT_inj) this
theorem li_ext {r s : List Lp} (hl : r.length = s.length) (h : ∀ n, n < r.length → li r n = li s n) : r = s :=
  List.ext_getElem hl fun n h1 h2 => by
    have := h n h1
    rwa [li_of h1, li_of h2] at this
theorem yi_ext {t u : Tab} (hl : t.length = u.length) (h : ∀ y, y < t.length → yi t y = yi u y) : t = u :=
  List.ext_getElem hl fun n h1 h2 => by
    have := h n h1
    rwa [yi_of h1, yi_of h2] at this
/-- The text tells the fabric. -/
theorem textB_inj {f g : Fab} (hf : TelF f) (hg : TelF g) (h : textB f = textB g) : f = g := by
  rw [textB_eq, textB_eq] at h
  have hw := lines_inj (words_ok f) (words_ok g) h
  have e1 : f.cr = g.cr := by
    have k1 := filt_hd f crossW (by decide)
    rw [hw, filt_hd g crossW (by decide)] at k1
    rw [if_pos rfl, if_neg (by decide), if_neg (by decide), if_pos rfl, if_neg (by decide), if_neg (by decide)] at k1
    simp only [List.append_nil] at k1
    have key : ∀ {l m : List Xg}, l.map crW = m.map crW → l = m := by
      intro l
      induction l with
      | nil => intro m h; cases m with
        | nil => rfl
        | cons b m => simp at h
      | cons a l ih => intro m h; cases m with
        | nil => simp at h
        | cons b m =>
          simp only [List.map_cons] at h
          obtain ⟨h1, h2⟩ := List.cons.inj h
          rw [crW_inj h1, ih h2]
    exact (key k1).symm
  have e2 : f.held = g.held := by
    have k1 := filt_hd f heldW (by decide)
    rw [hw, filt_hd g heldW (by decide)] at k1
    rw [if_neg (by decide), if_pos rfl, if_neg (by decide), if_neg (by decide), if_pos rfl, if_neg (by decide)] at k1
    simp only [List.append_nil, List.nil_append] at k1
    exact (nmsW_inj k1).symm
  have e3 : f.fallen = g.fallen := by
    have k1 := filt_hd f fallenW (by decide)
    rw [hw, filt_hd g fallenW (by decide)] at k1
    rw [if_neg (by decide), if_neg (by decide), if_pos rfl, if_neg (by decide), if_neg (by decide), if_pos rfl] at k1
    simp only [List.append_nil, List.nil_append] at k1
    exact (nmsW_inj k1).symm
  have key : ∀ {f g : Fab}, TelF f → TelF g → wordsF f = wordsF g → ∀ y, y < 6 → ∀ n, n < (yi f.ys y).length → n < (yi g.ys y).length ∧ li (yi f.ys y) n = li (yi g.ys y) n := by
    intro f g hf hg hw y hy n hn
    have h1 : descT ⟨(y : Int) + 1, (n : Nat)⟩ (li (yi f.ys y) n) ∈ wordsF g := by
      rw [← hw]; unfold wordsF
      exact List.mem_append_left _ (List.mem_append_left _ (List.mem_append_left _ (mem_tabW.2 ⟨y, by rw [hf.l6]; exact hy, n, hn, rfl⟩)))
    have h46 : (46 : UInt8) ∈ hd1 (descT ⟨(y : Int) + 1, (n : Nat)⟩ (li (yi f.ys y) n)) := by rw [desc_eq]; exact nameT_46 _
    have hnm : ∀ w l W, (46 : UInt8) ∉ w → W ∈ nmsW w l → (46 : UInt8) ∉ hd1 W := fun w l W hw hW => by
      unfold nmsW at hW; split at hW
      · cases hW
      · rw [List.mem_singleton.1 hW]; exact hw
    unfold wordsF at h1
    rcases List.mem_append.1 h1 with h1 | h1
    · rcases List.mem_append.1 h1 with h1 | h1
      · rcases List.mem_append.1 h1 with h1 | h1
        · obtain ⟨y', hy', n', hn', e⟩ := mem_tabW.1 h1
          obtain ⟨e1, e2⟩ := desc_inj (hf.l _ (yi_mem (by rw [hf.l6]; exact hy)) _ (li_mem hn)) (hg.l _ (yi_mem hy') _ (li_mem hn')) e
          have k1 : (y : Int) + 1 = (y' : Int) + 1 := congrArg Nm.y e1
          have k2 : (n : Int) = (n' : Int) := congrArg Nm.n e1
          obtain rfl : y = y' := by omega
          obtain rfl : n = n' := by omega
          exact ⟨hn', e2⟩
        · obtain ⟨c, _, e⟩ := List.mem_map.1 h1
          rw [← e] at h46
          exact absurd h46 (by show (46 : UInt8) ∉ crossW; decide)
      · exact absurd h46 (hnm _ _ _ (by decide) h1)
    · exact absurd h46 (hnm _ _ _ (by decide) h1)
  have e4 : f.ys = g.ys := yi_ext (by rw [hf.l6, hg.l6]) fun y hy => by
    rw [hf.l6] at hy
    have a1 := key hf hg hw y hy
    have a2 := key hg hf hw.symm y hy
    have hl : (yi f.ys y).length = (yi g.ys y).length := by
      rcases Nat.lt_trichotomy (yi f.ys y).length (yi g.ys y).length with h | h | h
      · have := (a2 _ h).1; omega
      · exact h
      · have := (a1 _ h).1; omega
    exact li_ext hl fun n hn => (a1 n hn).2
  obtain ⟨t1, c1, h1, f1⟩ := f
  obtain ⟨t2, c2, h2, f2⟩ := g
  dsimp only at e1 e2 e3 e4
  rw [e1, e2, e3, e4]
end Go.Proofs.YtlhkehfplcclgaaDoor
/- One loop of a table changed; fabrics that differ. No program in sight. -/
namespace Go.Proofs.YtlhkehfplcclgaaDoor
set_option linter.unusedVariables false
set_option linter.unusedSimpArgs false
set_option maxRecDepth 8000
open Go Go.RowKit

/-- Loop n of row y is another one. -/
def tset (t : Tab) (y n : Nat) (l : Lp) : Tab := t.set y ((yi t y).set n l)
theorem tset_len (t : Tab) (y n : Nat) (l : Lp) : (tset t y n l).length = t.length := by unfold tset; simp
theorem yi_tset {t : Tab} {y n z : Nat} {l : Lp} (hy : y < t.length) : yi (tset t y n l) z = if z = y then (yi t y).set n l else yi t z := yi_set _ hy
theorem row_tset {t : Tab} {y n z : Nat} {l : Lp} (hy : y < t.length) : (yi (tset t y n l) z).length = (yi t z).length := by
  rw [yi_tset hy]
  by_cases e : z = y
  · rw [if_pos e, List.length_set, e]
  · rw [if_neg e]
theorem li_set {r : List Lp} {n m : Nat} {l : Lp} (hn : n < r.length) : li (r.set n l) m = if m = n then l else li r m := by
  unfold li
  by_cases h : m = n
  · subst h; rw [if_pos rfl]; simp [List.getD, hn]
  · rw [if_neg h]; simp [List.getD, List.getElem?_set, Ne.symm h]
theorem mem_tset {t : Tab} {y n : Nat} {l : Lp} (hy : y < t.length) {r : List Lp} (hr : r ∈ tset t y n l) {k : Lp} (hk : k ∈ r) : k = l ∨ ∃ r' ∈ t, k ∈ r' := by
  unfold tset at hr
  rcases List.mem_or_eq_of_mem_set hr with hr | hr
  · exact .inr ⟨r, hr, hk⟩
  · rw [hr] at hk
    rcases List.mem_or_eq_of_mem_set hk with hk | hk
    · exact .inr ⟨_, yi_mem hy, hk⟩
    · exact .inl hk
theorem mem_tset_len {t : Tab} {y n : Nat} {l : Lp} (hy : y < t.length) {r : List Lp} (hr : r ∈ tset t y n l) : ∃ r' ∈ t, r'.length = r.length := by
  unfold tset at hr
  rcases List.mem_or_eq_of_mem_set hr with hr | hr
  · exact ⟨r, hr, rfl⟩
  · exact ⟨_, yi_mem hy, by rw [hr, List.length_set]⟩
theorem hasB_tset {t : Tab} {y n : Nat} {l : Lp} (hy : y < t.length) (a : Nm) : hasB (tset t y n l) a = hasB t a := by
  unfold hasB
  rw [tset_len, row_tset hy]
theorem flat_set {α β : Type} (f : α → List β) {l : List α} {n : Nat} {a : α} (hn : n < l.length) (hp : (f a).Perm (f l[n])) : ((l.set n a).map f).flatten.Perm (l.map f).flatten := by
  have h1 : l = l.take n ++ l[n] :: l.drop (n + 1) := by simp
  have h2 : l.set n a = l.take n ++ a :: l.drop (n + 1) := by rw [List.set_eq_take_append_cons_drop, if_pos hn]
  rw [h2]
  conv => rhs; rw [h1]
  simp only [List.map_append, List.map_cons, List.flatten_append, List.flatten_cons]
  exact List.Perm.append_left _ (List.Perm.append_right _ hp)
theorem thrT_tset {t : Tab} {y n : Nat} {l : Lp} (hy : y < t.length) (hn : n < (yi t y).length) (hp : l.thr.Perm (li (yi t y) n).thr) : (thrT (tset t y n l)).Perm (thrT t) := by
  unfold tset thrT
  refine flat_set thrR hy ?_
  rw [← yi_of hy]
  have := flat_set Lp.thr (a := l) hn (by rw [← li_of hn]; exact hp)
  unfold thrR
  exact this
theorem cntT_tset {t : Tab} {y n : Nat} {l : Lp} (hy : y < t.length) : cntT (tset t y n l) = cntT t := by
  unfold cntT tset
  congr 2
  refine List.ext_getElem (by simp) fun i h1 h2 => ?_
  simp only [List.getElem_map, List.getElem_set]
  split
  · rename_i e; subst e; rw [List.length_set, yi_of hy]
  · rfl
/-- A change that leaves a table one that may be valid. -/
structure ChL (l l' : Lp) : Prop where
  bed : l'.bed = 0 ∨ l'.bed = 1
  thr : l'.thr.Perm l.thr
  ids : l'.past.map Ps.id = l.past.map Ps.id
  pin : ∀ p ∈ l'.past, p.In
  one : OneD l'.past
theorem ChL.need {l l' : Lp} (h : ChL l l') {a : Nm} (ha : a ∈ needL l') : a ∈ needL l := by
  unfold needL at ha ⊢
  rw [h.ids] at ha
  rcases List.mem_append.1 ha with ha | ha
  · exact List.mem_append_left _ (h.thr.mem_iff.1 ha)
  · exact List.mem_append_right _ ha
theorem ChL.plen {l l' : Lp} (h : ChL l l') : l'.past.length = l.past.length := by
  have := congrArg List.length h.ids
  simpa using this
theorem RightL.ch {t t' : Tab} {l l' : Lp} (h : RightL t l) (hc : ChL l l') (hh : ∀ a, hasB t' a = hasB t a) : RightL t' l' := by
  refine ⟨hc.bed, by rw [hc.thr.length_eq]; exact h.n1, by rw [hc.plen]; exact h.n2, fun a ha => ?_, fun p hp => ⟨hc.pin p hp, ?_⟩, hc.one⟩
  · have := h.i1 a (hc.thr.mem_iff.1 ha)
    exact ⟨this.1, by rw [hh]; exact this.2⟩
  · rw [hh]
    have h1 : p.id ∈ l.past.map Ps.id := by rw [← hc.ids]; exact List.mem_map.2 ⟨p, hp, rfl⟩
    obtain ⟨q, hq, e⟩ := List.mem_map.1 h1
    rw [← e]; exact (h.i2 q hq).2
theorem OKT.tset {t : Tab} {y n : Nat} {l' : Lp} (h : OKT t) (hy : y < t.length) (hn : n < (yi t y).length) (hc : ChL (li (yi t y) n) l') : OKT (tset t y n l') := by
  have hh : ∀ a, hasB (Go.Proofs.YtlhkehfplcclgaaDoor.tset t y n l') a = hasB t a := hasB_tset hy
  obtain ⟨rk, hac⟩ := h.ac
  refine ⟨⟨by rw [tset_len]; exact h.r.n4, fun r hr => ?_, fun r hr l hl => ?_⟩, (thrT_tset hy hn hc.thr).nodup_iff.2 h.nd, ⟨rk, fun z hz m hm a ha => ?_, fun z hz m hm => ?_⟩, by rw [cntT_tset hy]; exact h.c9⟩
  · obtain ⟨r', hr', e⟩ := mem_tset_len hy hr
    rw [← e]; exact h.r.n5 r' hr'
  · rcases mem_tset hy hr hl with rfl | ⟨r', hr', hl'⟩
    · have h1 := (h.r.ri _ (yi_mem hy) _ (li_mem hn)).1.ch hc hh
      exact ⟨h1, by rcases h1.bed with e | e <;> rw [e] <;> decide⟩
    · have h1 := h.r.ri _ hr' _ hl'
      exact ⟨h1.1.mono fun a ha => by rw [hh]; exact ha, h1.2⟩
  · rw [tset_len] at hz
    rw [row_tset hy] at hm
    rw [hh]
    rw [yi_tset hy] at ha
    by_cases e : z = y
    · subst e
      rw [if_pos rfl, li_set hn] at ha
      by_cases e2 : m = n
      · subst e2
        rw [if_pos rfl] at ha
        exact hac.need z hz m hm a (hc.need ha)
      · rw [if_neg e2] at ha; exact hac.need z hz m hm a ha
    · rw [if_neg e] at ha; exact hac.need z hz m hm a ha
  · rw [tset_len] at hz
    rw [row_tset hy] at hm
    exact hac.prev z hz m hm
theorem FIn.tset {f : Fab} {y n : Nat} {l' : Lp} (h : FIn f) (hy : y < f.ys.length) (hn : n < (yi f.ys y).length) (hc : ChL (li (yi f.ys y) n) l') : FIn { f with ys := tset f.ys y n l' } := by
  have h6 := h.n6 _ (yi_mem hy) _ (li_mem hn)
  have h5 := h.ys _ (yi_mem hy) _ (li_mem hn)
  refine ⟨h.held, h.fallen, h.cr, fun r hr l hl => ?_, h.n1, h.n2, h.n3, by show (Go.Proofs.YtlhkehfplcclgaaDoor.tset f.ys y n l').length ≤ 100; rw [tset_len]; exact h.n4, fun r hr => ?_, fun r hr l hl => ?_⟩
  · rcases mem_tset hy hr hl with rfl | ⟨r', hr', hl'⟩
    · exact ⟨by rcases hc.bed with e | e <;> rw [e] <;> decide, fun a ha => h5.2.1 a (hc.thr.mem_iff.1 ha), hc.pin⟩
    · exact h.ys r' hr' l hl'
  · obtain ⟨r', hr', e⟩ := mem_tset_len hy hr
    rw [← e]; exact h.n5 r' hr'
  · rcases mem_tset hy hr hl with rfl | ⟨r', hr', hl'⟩
    · exact ⟨by rw [hc.thr.length_eq]; exact h6.1, by rw [hc.plen]; exact h6.2⟩
    · exact h.n6 r' hr' l hl'
theorem tset_ne {t : Tab} {y n : Nat} {l' : Lp} (hy : y < t.length) (hn : n < (yi t y).length) (h : l' ≠ li (yi t y) n) : tset t y n l' ≠ t := fun e => by
  have h1 := congrArg (fun t => li (yi t y) n) e
  try dsimp only at h1
  rw [yi_tset hy, if_pos rfl, li_set hn, if_pos rfl] at h1
  exact h h1
theorem tset_self {t : Tab} {y n : Nat} (hy : y < t.length) (hn : n < (yi t y).length) : tset t y n (li (yi t y) n) = t := by
  unfold tset
  rw [li_of hn, List.set_getElem_self, yi_of hy, List.set_getElem_self]
/-! ### The seven changes -/
section
variable {t : Tab} {l : Lp}
theorem ch_bed (h : RightL t l) : ChL l { l with bed := 1 - l.bed } := ⟨by show 1 - l.bed = 0 ∨ 1 - l.bed = 1; rcases h.bed with e | e <;> rw [e] <;> simp, List.Perm.refl _, rfl, fun p hp => (h.i2 p hp).1, h.one⟩
theorem ch_new (h : RightL t l) : ChL l { l with new := !l.new } := ⟨h.bed, List.Perm.refl _, rfl, fun p hp => (h.i2 p hp).1, h.one⟩
theorem rot_perm {l : List Nm} (h : l ≠ []) : (l.drop 1 ++ [ni l 0]).Perm l := by
  obtain ⟨a, r, rfl⟩ := List.exists_cons_of_ne_nil h
  show (r ++ [a]).Perm (a :: r)
  exact List.perm_append_comm
theorem ch_thr (h : RightL t l) (h0 : l.thr ≠ []) : ChL l { l with thr := l.thr.drop 1 ++ [ni l.thr 0] } := ⟨h.bed, rot_perm h0, rfl, fun p hp => (h.i2 p hp).1, h.one⟩
/-- The first pass goes by the other side. -/
def flipP (l : List Ps) : List Ps := l.set 0 { qi l 0 with f := !(qi l 0).f }
theorem flipP_cons (p : Ps) (l : List Ps) : flipP (p :: l) = { p with f := !p.f } :: l := rfl
theorem ch_past (h : RightL t l) (h0 : l.past ≠ []) : ChL l { l with past := flipP l.past } := by
  obtain ⟨p, r, e⟩ := List.exists_cons_of_ne_nil h0
  refine ⟨h.bed, List.Perm.refl _, ?_, fun q hq => ?_, ?_⟩
  · show (flipP l.past).map Ps.id = _
    rw [e]; rfl
  · have hq' : q ∈ flipP l.past := hq
    rw [e, flipP_cons] at hq'
    rcases List.mem_cons.1 hq' with rfl | hq'
    · exact (h.i2 p (by rw [e]; simp)).1
    · exact (h.i2 q (by rw [e]; exact List.mem_cons_of_mem _ hq')).1
  · obtain ⟨d, hd, hall⟩ := h.one
    refine ⟨d, hd, fun q hq => ?_⟩
    have hq' : q ∈ flipP l.past := hq
    rw [e, flipP_cons] at hq'
    rcases List.mem_cons.1 hq' with rfl | hq'
    · exact hall p (by rw [e]; simp)
    · exact hall q (by rw [e]; exact List.mem_cons_of_mem _ hq')
theorem rot_ne {l : List Nm} (hn : l.Nodup) (h : 1 < l.length) : l.drop 1 ++ [ni l 0] ≠ l := fun e => by
  match l, h with
  | a :: b :: r, _ =>
    have e1 : b :: (r ++ [a]) = a :: b :: r := e
    have := (List.cons.inj e1).1
    subst this
    simp at hn
theorem flipP_ne {l : List Ps} (h : l ≠ []) : flipP l ≠ l := fun e => by
  obtain ⟨p, r, rfl⟩ := List.exists_cons_of_ne_nil h
  rw [flipP_cons] at e
  have h1 := congrArg Ps.f (List.cons.inj e).1
  dsimp only at h1
  cases hp : p.f <;> rw [hp] at h1 <;> cases h1
theorem swp_ne {l : List Nm} (hn : l.Nodup) (h : 1 < l.length) : swp l 1 ≠ l := fun e => by
  have h1 := congrArg (fun l => ni l 0) e
  try dsimp only at h1
  rw [swp_at (by decide) h, if_pos (by rfl)] at h1
  rw [ni_of h, ni_of (by omega)] at h1
  exact absurd ((List.getElem_inj hn).1 h1) (by decide)
theorem thrR_sub {r : List Lp} {k : Lp} (h : k ∈ r) : List.Sublist k.thr (thrR r) := by
  unfold thrR
  exact List.sublist_flatten_of_mem (List.mem_map.2 ⟨k, h, rfl⟩)
theorem thr_nodup {t : Tab} (h : OKT t) {y n : Nat} (hy : y < t.length) (hn : n < (yi t y).length) : (li (yi t y) n).thr.Nodup :=
  h.nd.sublist ((thrR_sub (li_mem hn)).trans (List.sublist_flatten_of_mem (List.mem_map.2 ⟨_, yi_mem hy, rfl⟩)))
end
/-- The two texts of fabrics that may be valid. -/
theorem TelF.of {f : Fab} (h6 : f.ys.length = 6) (h : OKT f.ys) : TelF f := ⟨h6, fun r hr l hl => by
  have h1 := (h.r.ri r hr l hl).1
  obtain ⟨d, hd, hall⟩ := h1.one
  exact ⟨h1.bed, fun p hp => by rw [hall p hp]; exact hd⟩⟩
theorem textT_iff {f g : Fab} (hf : TelF f) (hg : TelF g) (cf : fchk f = 0) (cg : fchk g = 0) : textT f = textT g ↔ f = g := by
  unfold textT
  rw [if_pos cf, if_pos cg]
  exact ⟨textB_inj hf hg, fun e => by rw [e]⟩
theorem textT_bad {f : Fab} (h : fchk f ≠ 0) : textT f = [] := by unfold textT; rw [if_neg h]
theorem textT_ne {f : Fab} (h : fchk f = 0) {a : Nm} (ha : hasB f.ys a = true) : textT f ≠ [] := fun e => by
  unfold textT at e
  rw [if_pos h, textB_eq] at e
  obtain ⟨y, n, rfl, hy, hn⟩ := hasB_iff ha
  have h1 : descT ⟨(y : Int) + 1, (n : Nat)⟩ (li (yi f.ys y) n) ∈ wordsF f := by
    unfold wordsF
    exact List.mem_append_left _ (List.mem_append_left _ (List.mem_append_left _ (mem_tabW.2 ⟨y, hy, n, hn, rfl⟩)))
  have h2 : (10 : UInt8) ∈ ((wordsF f).map lineT).flatten := List.mem_flatten.2 ⟨_, List.mem_map.2 ⟨_, h1, rfl⟩, by unfold lineT; simp⟩
  rw [e] at h2; cases h2
end Go.Proofs.YtlhkehfplcclgaaDoor
/- One loop of a table changed, in memory. -/
namespace Go.Proofs.YtlhkehfplcclgaaDoor
set_option linter.unusedVariables false
set_option linter.unusedSimpArgs false
set_option maxRecDepth 8000
open Go Go.RowKit

theorem cat_set {k : Nat} : ∀ {xs : List (List Value)}, (∀ x ∈ xs, x.length = k) → ∀ {n j : Nat}, n < xs.length → j < k → ∀ v : Value, xs.flatten.set (n * k + j) v = (xs.set n ((xs.getD n []).set j v)).flatten
  | [], _, n, j, hn, _, v => by simp at hn
  | x :: xs, hk, 0, j, _, hj, v => by
    have h1 := hk x (by simp)
    rw [Nat.zero_mul, Nat.zero_add, List.flatten_cons, List.set_append_left _ _ (by omega)]
    simp
  | x :: xs, hk, n + 1, j, hn, hj, v => by
    have h1 := hk x (by simp)
    have ih := cat_set (xs := xs) (fun y hy => hk y (List.mem_cons_of_mem _ hy)) (n := n) (j := j) (by simpa using hn) hj v
    rw [List.flatten_cons, List.set_append_right _ _ (by rw [h1, Nat.succ_mul]; omega), h1, show (n + 1) * k + j - k = n * k + j by rw [Nat.succ_mul]; omega, ih]
    simp
theorem cL_upd {ls : List Lp} {us vs us' vs' : Nat → Value} {n : Nat} {l' : Lp} (hn : n < ls.length) (hu : ∀ i, i ≠ n → us' i = us i) (hv : ∀ i, i ≠ n → vs' i = vs i) :
    cL (ls.set n l') us' vs' = (cL ls us vs).set n [.int .u8 l'.bed, .bool l'.new, us' n, vs' n] := by
  unfold cL
  rw [List.length_set]
  refine List.ext_getElem (by simp) fun i h1 h2 => ?_
  rw [List.getElem_set]
  simp only [List.getElem_map, List.getElem_range]
  rw [li_set hn]
  by_cases e : n = i
  · subst e; rw [if_pos rfl, if_pos rfl]
  · rw [if_neg (Ne.symm e), if_neg e, hu i (Ne.symm e), hv i (Ne.symm e)]
/-- Cell j of loop n is set. -/
theorem cL_cell {ls : List Lp} {us vs us' vs' : Nat → Value} {n j : Nat} {l' : Lp} {x : Value} (hk : Ks 4 (cL ls us vs)) (hn : n < ls.length) (hj : j < 4) (hu : ∀ i, i ≠ n → us' i = us i) (hv : ∀ i, i ≠ n → vs' i = vs i)
    (hx : [Value.int .u8 l'.bed, .bool l'.new, us' n, vs' n] = [Value.int .u8 (li ls n).bed, .bool (li ls n).new, us n, vs n].set j x) :
    (cL ls us vs).flatten.set (n * 4 + j) x = (cL (ls.set n l') us' vs').flatten := by
  rw [cat_set (fun y hy => (hk y hy).1) (by rw [cL_len]; exact hn) hj, cL_upd hn hu hv, cL_get hn, hx]
section
variable {N g m c n : Nat} {w : World} {ls : List Lp} {us vs : Nat → Value}
theorem LRo.ks {v : Value} (h : LRo N w v ls us vs) : Ks 4 (cL ls us vs) := cL_ks fun i hi => ⟨own_one (h.u i hi), own_one (h.v i hi)⟩
theorem LRo.flen {v : Value} (h : LRo N w v ls us vs) : (cL ls us vs).flatten.length = ls.length * 4 := by rw [h.ks.len, cL_len]
theorem LRo.ub {v : Value} (h : LRo N w v ls us vs) (hv : v.ownBlock = some g) {i : Nat} (hi : i < ls.length) : (us i).ownBlock ≠ some g ∧ (vs i).ownBlock ≠ some g :=
  ⟨fun e => own_ty (h.u i hi) h.row (by decide) g e hv, fun e => own_ty (h.v i hi) h.row (by decide) g e hv⟩
/-- The bed. -/
theorem LRo.put0 (h : LRo N w (.slice (some ⟨g, 0, none⟩) m c) ls us vs) (hm : m = ls.length) (hn : n < ls.length) (b : Int) :
    LRo N (w.setCell ⟨g, n * 4, none⟩ (.int .u8 b)) (.slice (some ⟨g, 0, none⟩) m c) (ls.set n { li ls n with bed := b }) us vs := by
  subst hm
  have h1 := own_setAt h.row (o := n * 4 + 0) (by rw [h.flen]; omega) (.int .u8 b)
  rw [cL_cell (l' := { li ls n with bed := b }) h.ks hn (by decide) (fun _ _ => rfl) (fun _ _ => rfl) rfl] at h1
  refine ⟨by rw [List.length_set]; exact h1, fun i hi => ?_, fun i hi => ?_⟩
  · rw [List.length_set] at hi
    have h2 := own_set (h.u i hi) (a := ⟨g, n * 4, none⟩) (h.ub rfl hi).1 (.int .u8 b)
    rw [li_set hn]
    by_cases e : i = n
    · subst e; rw [if_pos rfl]; exact h2
    · rw [if_neg e]; exact h2
  · rw [List.length_set] at hi
    have h2 := own_set (h.v i hi) (a := ⟨g, n * 4, none⟩) (h.ub rfl hi).2 (.int .u8 b)
    rw [li_set hn]
    by_cases e : i = n
    · subst e; rw [if_pos rfl]; exact h2
    · rw [if_neg e]; exact h2
/-- New. -/
theorem LRo.put1 (h : LRo N w (.slice (some ⟨g, 0, none⟩) m c) ls us vs) (hm : m = ls.length) (hn : n < ls.length) (b : Bool) :
    LRo N (w.setCell ⟨g, n * 4 + 1, none⟩ (.bool b)) (.slice (some ⟨g, 0, none⟩) m c) (ls.set n { li ls n with new := b }) us vs := by
  subst hm
  have h1 := own_setAt h.row (o := n * 4 + 1) (by rw [h.flen]; omega) (.bool b)
  rw [cL_cell (l' := { li ls n with new := b }) h.ks hn (by decide) (fun _ _ => rfl) (fun _ _ => rfl) rfl] at h1
  refine ⟨by rw [List.length_set]; exact h1, fun i hi => ?_, fun i hi => ?_⟩
  · rw [List.length_set] at hi
    have h2 := own_set (h.u i hi) (a := ⟨g, n * 4 + 1, none⟩) (h.ub rfl hi).1 (.bool b)
    rw [li_set hn]
    by_cases e : i = n
    · subst e; rw [if_pos rfl]; exact h2
    · rw [if_neg e]; exact h2
  · rw [List.length_set] at hi
    have h2 := own_set (h.v i hi) (a := ⟨g, n * 4 + 1, none⟩) (h.ub rfl hi).2 (.bool b)
    rw [li_set hn]
    by_cases e : i = n
    · subst e; rw [if_pos rfl]; exact h2
    · rw [if_neg e]; exact h2
/-- What it goes through. -/
theorem LRo.put2 (h : LRo N w (.slice (some ⟨g, 0, none⟩) m c) ls us vs) (hm : m = ls.length) (hn : n < ls.length) {u : Value} {th : List Nm} (hu : w.ownsRow N 41 2 u th.length (th.map Nm.cs).flatten) :
    LRo N (w.setCell ⟨g, n * 4 + 2, none⟩ u) (.slice (some ⟨g, 0, none⟩) m c) (ls.set n { li ls n with thr := th }) (upV us n u) vs := by
  subst hm
  have hug : u.ownBlock ≠ some g := fun e => own_ty hu h.row (by decide) g e rfl
  have h1 := own_setAt h.row (o := n * 4 + 2) (by rw [h.flen]; omega) u
  rw [cL_cell (l' := { li ls n with thr := th }) (us' := upV us n u) (vs' := vs) h.ks hn (by decide) (fun i e => by unfold upV; rw [if_neg e]) (fun _ _ => rfl) (by unfold upV; rw [if_pos rfl]; rfl)] at h1
  refine ⟨by rw [List.length_set]; exact h1, fun i hi => ?_, fun i hi => ?_⟩
  · rw [List.length_set] at hi
    rw [li_set hn]
    unfold upV
    by_cases e : i = n
    · subst e; rw [if_pos rfl, if_pos rfl]; exact own_set hu (a := ⟨g, i * 4 + 2, none⟩) hug u
    · rw [if_neg e, if_neg e]; exact own_set (h.u i hi) (a := ⟨g, n * 4 + 2, none⟩) (h.ub rfl hi).1 u
  · rw [List.length_set] at hi
    have h2 := own_set (h.v i hi) (a := ⟨g, n * 4 + 2, none⟩) (h.ub rfl hi).2 u
    rw [li_set hn]
    by_cases e : i = n
    · subst e; rw [if_pos rfl]; exact h2
    · rw [if_neg e]; exact h2
theorem cs_flip {l : List Ps} (h : l ≠ []) : (l.map Ps.cs).flatten.set 2 (.bool (!(qi l 0).f)) = ((flipP l).map Ps.cs).flatten := by
  obtain ⟨p, r, rfl⟩ := List.exists_cons_of_ne_nil h
  rfl
theorem flipP_len (l : List Ps) : (flipP l).length = l.length := by unfold flipP; simp
/-- The first pass. -/
theorem LRo.putP {v : Value} {gp d : Nat} (h : LRo N w v ls us vs) (hn : n < ls.length) (hv : vs n = .slice (some ⟨gp, 0, none⟩) m d) (hm : m = (li ls n).past.length) (h0 : (li ls n).past ≠ []) (hd : ∀ i, i < ls.length → i ≠ n → (vs i).ownBlock ≠ some gp) {b : Bool} (hb : b = !(qi (li ls n).past 0).f) :
    LRo N (w.setCell ⟨gp, 2, none⟩ (.bool b)) v (ls.set n { li ls n with past := flipP (li ls n).past }) us vs := by
  subst hm hb
  have hl := List.length_pos_iff.2 h0
  have hw := h.v n hn
  rw [hv] at hw
  have hvg : v.ownBlock ≠ some gp := fun e => own_ty h.row hw (by decide) gp e rfl
  have h1 := own_setAt hw (o := 2) (by rw [(Ks.ps _).len, List.length_map]; omega) (.bool (!(qi (li ls n).past 0).f))
  rw [cs_flip h0] at h1
  have e0 : cL (ls.set n { li ls n with past := flipP (li ls n).past }) us vs = cL ls us vs := by
    rw [cL_upd (us := us) (vs := vs) hn (fun _ _ => rfl) (fun _ _ => rfl)]
    have h3 := cL_get (us := us) (vs := vs) hn
    refine List.ext_getElem (by simp) fun i k1 k2 => ?_
    rw [List.getElem_set]
    split
    · rename_i e; subst e
      have k3 : (cL ls us vs).getD n [] = (cL ls us vs)[n] := by simp [List.getD, List.getElem?_eq_getElem k2]
      rw [k3] at h3
      exact h3.symm
    · rfl
  refine ⟨by rw [List.length_set, e0]; exact own_set h.row (a := ⟨gp, 2, none⟩) hvg _, fun i hi => ?_, fun i hi => ?_⟩
  · rw [List.length_set] at hi
    have h2 := own_set (h.u i hi) (a := ⟨gp, 2, none⟩) (fun e => own_ty (h.u i hi) hw (by decide) gp e rfl) (.bool (!(qi (li ls n).past 0).f))
    rw [li_set hn]
    by_cases e : i = n
    · subst e; rw [if_pos rfl]; exact h2
    · rw [if_neg e]; exact h2
  · rw [List.length_set] at hi
    rw [li_set hn]
    by_cases e : i = n
    · subst e; rw [if_pos rfl, hv, flipP_len]; exact h1
    · rw [if_neg e]; exact own_set (h.v i hi) (a := ⟨gp, 2, none⟩) (hd i hi e) _
end
section
variable {g0 g m c y n : Nat} {w : World} {F : Nat → Value} {us vs : Nat → Nat → Value} {s : TS} {fv mv : Value}
/-- A table whose row y is another one. -/
theorem tb_row {w' : World} (h6 : s.t.length = 6) (hy : y < 6) (ht : w'.rowIs g0 47 6 F) (hr : ∀ z, z < 6 → z ≠ y → LRo (g0 + 1) w' (F z) (yi s.t z) (us z) (vs z)) {r' : List Lp} {us' vs' : Nat → Value} (hn : LRo (g0 + 1) w' (F y) r' us' vs') : TB w' (.slice (some ⟨g0, 0, none⟩) 6 6) 6 (s.t.set y r') := by
  have hl : (s.t.set y r').length = 6 := by rw [List.length_set, h6]
  refine ⟨F, ⟨_, by rw [List.length_map, List.length_range, hl], by simp [hl], by omega, .inr ⟨g0, 0, rfl, fun i hi => ?_⟩⟩, fun i hi => ?_⟩
  · have hi' : i < 6 := by simpa [hl] using hi
    intro j hj
    have e1 : ((List.range (s.t.set y r').length).map fun i => [F i]).getD i [] = [F i] := by rw [hl]; simp [List.getD, hi']
    rw [e1] at hj ⊢
    obtain rfl : j = 0 := by simp at hj; omega
    have := ht.cell hi'
    simpa using this
  · rw [hl] at hi
    rw [yi_set _ (by rw [h6]; exact hy)]
    by_cases e : i = y
    · subst e; rw [if_pos rfl]; exact hn.to
    · rw [if_neg e]; exact (hr i hi e).to
/-- The rows but y stay where a cell of y's own block is set. -/
theorem OT.other (h : OT g0 w F us vs s fv mv) (hy : y < 6) (hF : (F y).ownBlock = some g) (o : Nat) (x : Value) : (w.setCell ⟨g, o, none⟩ x).rowIs g0 47 6 F ∧ ∀ z, z < 6 → z ≠ y → LRo (g0 + 1) (w.setCell ⟨g, o, none⟩ x) (F z) (yi s.t z) (us z) (vs z) := by
  have hg : g0 < g := ((h.rows y hy).row.lt g hF).1
  refine ⟨h.tab.setOther (fun e => by dsimp only at e; omega) x, fun z hz hzy => (h.rows z hz).set (a := ⟨g, o, none⟩) (fun e => h.dR z y hz hy hzy g e hF) (fun i hi e => own_ty ((h.rows z hz).u i hi) (h.rows y hy).row (by decide) g e hF) (fun i hi e => own_ty ((h.rows z hz).v i hi) (h.rows y hy).row (by decide) g e hF) x⟩
theorem OT.put0 (h : OT g0 w F us vs s fv mv) (h6 : s.t.length = 6) (hy : y < 6) (hn : n < (yi s.t y).length) (hF : F y = .slice (some ⟨g, 0, none⟩) m c) (hm : m = (yi s.t y).length) (b : Int) :
    TB (w.setCell ⟨g, n * 4, none⟩ (.int .u8 b)) (.slice (some ⟨g0, 0, none⟩) 6 6) 6 (tset s.t y n { li (yi s.t y) n with bed := b }) := by
  obtain ⟨h1, h2⟩ := h.other hy (g := g) (by rw [hF]; rfl) (n * 4) (.int .u8 b)
  have h3 := h.rows y hy
  rw [hF] at h3
  exact tb_row h6 hy h1 h2 (by rw [hF]; exact h3.put0 hm hn b)
theorem OT.put1 (h : OT g0 w F us vs s fv mv) (h6 : s.t.length = 6) (hy : y < 6) (hn : n < (yi s.t y).length) (hF : F y = .slice (some ⟨g, 0, none⟩) m c) (hm : m = (yi s.t y).length) (b : Bool) :
    TB (w.setCell ⟨g, n * 4 + 1, none⟩ (.bool b)) (.slice (some ⟨g0, 0, none⟩) 6 6) 6 (tset s.t y n { li (yi s.t y) n with new := b }) := by
  obtain ⟨h1, h2⟩ := h.other hy (g := g) (by rw [hF]; rfl) (n * 4 + 1) (.bool b)
  have h3 := h.rows y hy
  rw [hF] at h3
  exact tb_row h6 hy h1 h2 (by rw [hF]; exact h3.put1 hm hn b)
theorem OT.put2 (h : OT g0 w F us vs s fv mv) (h6 : s.t.length = 6) (hy : y < 6) (hn : n < (yi s.t y).length) (hF : F y = .slice (some ⟨g, 0, none⟩) m c) (hm : m = (yi s.t y).length) {u : Value} {th : List Nm} (hu : w.ownsRow (g0 + 1) 41 2 u th.length (th.map Nm.cs).flatten) :
    TB (w.setCell ⟨g, n * 4 + 2, none⟩ u) (.slice (some ⟨g0, 0, none⟩) 6 6) 6 (tset s.t y n { li (yi s.t y) n with thr := th }) := by
  obtain ⟨h1, h2⟩ := h.other hy (g := g) (by rw [hF]; rfl) (n * 4 + 2) u
  have h3 := h.rows y hy
  rw [hF] at h3
  exact tb_row h6 hy h1 h2 (by rw [hF]; exact h3.put2 hm hn hu)
theorem OT.putP {gp d : Nat} (h : OT g0 w F us vs s fv mv) (h6 : s.t.length = 6) (hy : y < 6) (hn : n < (yi s.t y).length) (hv : vs y n = .slice (some ⟨gp, 0, none⟩) m d) (hm : m = (li (yi s.t y) n).past.length) (h0 : (li (yi s.t y) n).past ≠ []) {b : Bool} (hb : b = !(qi (li (yi s.t y) n).past 0).f) :
    TB (w.setCell ⟨gp, 2, none⟩ (.bool b)) (.slice (some ⟨g0, 0, none⟩) 6 6) 6 (tset s.t y n { li (yi s.t y) n with past := flipP (li (yi s.t y) n).past }) := by
  have hw := (h.rows y hy).v n hn
  have hvb : (vs y n).ownBlock = some gp := by rw [hv]; rfl
  have hg : g0 < gp := (hw.lt gp hvb).1
  refine tb_row h6 hy (h.tab.setOther (fun e => by dsimp only at e; omega) _) (fun z hz hzy => (h.rows z hz).set (a := ⟨gp, 2, none⟩) (fun e => own_ty (h.rows z hz).row hw (by decide) gp e hvb) (fun i hi e => own_ty ((h.rows z hz).u i hi) hw (by decide) gp e hvb) (fun i hi e => h.dV z i y n hz hy hi hn (.inl hzy) gp e hvb) _) ((h.rows y hy).putP hn hv hm h0 (fun i hi hin e => h.dV y i y n hy hy hi hn (.inr hin) gp e hvb) hb)
end
end Go.Proofs.YtlhkehfplcclgaaDoor
