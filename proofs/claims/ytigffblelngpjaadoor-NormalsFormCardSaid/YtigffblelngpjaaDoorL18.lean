/- Texts of this claim in one file: libraries and walks. -/
import Derived.BigQuiet
import Derived.Test.YtigffblelngpjaaDoorL16
import Derived.Test.YtigffblelngpjaaDoorL17
/- Words with the same action are words of the same braid. No program in sight. -/
namespace Go.Proofs.YtigffblelngpjaaDoor
set_option linter.unusedVariables false
set_option linter.unusedSimpArgs false

/-! ### What free reduction keeps -/
theorem inv_red {F : List Int → Int} (hc : ∀ k p s, F (p ++ k :: -k :: s) = F (p ++ s)) : ∀ (z st : List Int), F (st ++ z) = F (z.foldl redStep st)
  | [], st => by rw [List.append_nil]; rfl
  | k :: z, st => by
    have ih := inv_red hc z (redStep st k)
    rw [List.foldl_cons, ← ih]
    by_cases hp : 0 < st.length ∧ gi st (st.length - 1) = -k
    · rw [redStep_pop hp.1 hp.2]
      have hs' : st = st.dropLast ++ [-k] := by
        have h1 : st.take (st.length - 1 + 1) = st.take (st.length - 1) ++ [gi st (st.length - 1)] := take_succ_gi (by omega)
        rw [show st.length - 1 + 1 = st.length from by omega, List.take_length, hp.2, ← List.dropLast_eq_take] at h1
        exact h1
      obtain ⟨u, hu⟩ : ∃ u, u = st.dropLast := ⟨_, rfl⟩
      rw [← hu] at hs' ⊢
      subst hs'
      have := hc (-k) u z
      rw [Int.neg_neg] at this
      rw [List.append_assoc]; exact this
    · rw [redStep_push (fun a b => hp ⟨a, b⟩), List.append_assoc]; rfl
theorem inv_red' {F : List Int → Int} (hc : ∀ k p s, F (p ++ k :: -k :: s) = F (p ++ s)) (z : List Int) : F (red z) = F z := by
  have := inv_red hc z []; rw [List.nil_append] at this; exact this.symm
/-- How often a letter stands there, signs counted. -/
def cntL (s : Nat) : List Int → Int
  | [] => 0
  | k :: a => (if k.natAbs = s then (if 0 < k then 1 else -1) else 0) + cntL s a
theorem cntL_app (s : Nat) : ∀ a b, cntL s (a ++ b) = cntL s a + cntL s b
  | [], b => by simp [cntL]
  | k :: a, b => by show _ + cntL s (a ++ b) = (_ + cntL s a) + cntL s b; rw [cntL_app s a b]; omega
theorem cntL_canc {s : Nat} (hs : 1 ≤ s) (k : Int) (p t : List Int) : cntL s (p ++ k :: -k :: t) = cntL s (p ++ t) := by
  rw [cntL_app, cntL_app]
  have e : cntL s (k :: -k :: t) = (if k.natAbs = s then (if 0 < k then 1 else -1) else 0) + ((if (-k).natAbs = s then (if 0 < -k then 1 else -1) else 0) + cntL s t) := rfl
  rw [e, Int.natAbs_neg]
  clear e
  by_cases h1 : k.natAbs = s
  · rw [if_pos h1, if_pos h1]
    by_cases h0 : 0 < k
    · rw [if_pos h0, if_neg (by omega)]; omega
    · rw [if_neg h0, if_pos (by omega)]; omega
  · rw [if_neg h1, if_neg h1]; omega
theorem cntL_red {s : Nat} (hs : 1 ≤ s) (z : List Int) : cntL s (red z) = cntL s z := inv_red' (cntL_canc hs) z
theorem cntL_conj {s : Nat} (hs : 1 ≤ s) (z y : List Int) : cntL s (red (z ++ (y ++ winvL z))) = cntL s y := by
  have h := cntL_red hs (z ++ winvL z)
  have e := red_cut [] z []
  simp only [List.nil_append, List.append_nil] at e
  rw [e, cntL_app] at h
  rw [cntL_red hs, cntL_app, cntL_app]
  have : cntL s (red []) = 0 := rfl
  omega
/-- The letters but n, reduced behind h. -/
def fh (n : Nat) (h : List Int) (a : List Int) : List Int := (a.filter fun k => decide (k.natAbs ≠ n)).foldl redStep h
theorem fh_app (n : Nat) (h a b : List Int) : fh n h (a ++ b) = fh n (fh n h a) b := by unfold fh; rw [List.filter_append, List.foldl_append]
theorem fh_red {n : Nat} {h : List Int} (hr : RedL h) (a : List Int) : RedL (fh n h a) := redL_fold _ _ hr
theorem fh_canc {n : Nat} {h : List Int} (hr : RedL h) (k : Int) (s : List Int) : fh n h (k :: -k :: s) = fh n h s := by
  unfold fh
  by_cases e : k.natAbs = n
  · simp [e]
  · simp [e, redStep_redo hr]
/-- Where n stands, by what stands before it: how often at g. -/
def lam (n : Nat) (g : List Int) : List Int → List Int → Int
  | _, [] => 0
  | h, k :: a => (if k.natAbs = n ∧ h = g then (if 0 < k then 1 else -1) else 0) + lam n g (fh n h [k]) a
theorem lam_app (n : Nat) (g : List Int) : ∀ a h b, lam n g h (a ++ b) = lam n g h a + lam n g (fh n h a) b
  | [], h, b => by simp [lam, fh]
  | k :: a, h, b => by
    show _ + lam n g (fh n h [k]) (a ++ b) = (_ + lam n g (fh n h [k]) a) + lam n g (fh n h (k :: a)) b
    rw [lam_app n g a, show k :: a = [k] ++ a from rfl, fh_app]; omega
theorem lam_canc {n : Nat} (hn : 1 ≤ n) (g : List Int) {h : List Int} (hr : RedL h) (k : Int) (p s : List Int) : lam n g h (p ++ k :: -k :: s) = lam n g h (p ++ s) := by
  rw [lam_app, lam_app]
  have hr2 := fh_red (n := n) hr p
  generalize fh n h p = h2 at *
  show _ + (_ + (_ + lam n g (fh n (fh n h2 [k]) [-k]) s)) = _
  have e1 : fh n (fh n h2 [k]) [-k] = h2 := by rw [← fh_app]; exact fh_canc hr2 k []
  rw [e1, Int.natAbs_neg]
  by_cases e : k.natAbs = n
  · have e2 : fh n h2 [k] = h2 := by unfold fh; simp [e]
    rw [e2]
    by_cases e3 : h2 = g
    · have h2 : k.natAbs = n ∧ h2 = g := ⟨e, e3⟩
      rw [if_pos h2, if_pos h2]
      by_cases h0 : 0 < k
      · rw [if_pos h0, if_neg (by omega)]; omega
      · rw [if_neg h0, if_pos (by omega)]; omega
    · simp [e, e3]
  · simp [e]
theorem lam_red {n : Nat} (hn : 1 ≤ n) (g : List Int) {h : List Int} (hr : RedL h) (z : List Int) : lam n g h (red z) = lam n g h z := inv_red' (F := lam n g h) (lam_canc hn g hr) z
theorem lam_conj {n : Nat} (hn : 1 ≤ n) (g z : List Int) : lam n g [] (red (z ++ ([(n : Int)] ++ winvL z))) = if fh n [] z = g then 1 else 0 := by
  have h := lam_red hn g redL_nil (z ++ winvL z)
  have e := red_cut [] z []
  simp only [List.nil_append, List.append_nil] at e
  rw [e, lam_app] at h
  have h0 : lam n g [] (red []) = 0 := rfl
  rw [lam_red hn g redL_nil, lam_app, lam_app]
  have e2 : fh n (fh n [] z) [(n : Int)] = fh n [] z := by unfold fh; simp
  rw [e2]
  have e3 : lam n g (fh n [] z) [(n : Int)] = if fh n [] z = g then 1 else 0 := by
    show (if (n : Int).natAbs = n ∧ fh n [] z = g then (if 0 < (n : Int) then 1 else -1) else 0) + 0 = _
    rw [Int.natAbs_natCast]
    by_cases e4 : fh n [] z = g
    · rw [if_pos ⟨rfl, e4⟩, if_pos (by omega), if_pos e4]; rfl
    · rw [if_neg (fun h => e4 h.2), if_neg e4]; rfl
  rw [e3]; omega
/-- What does not move n stands aside of it. -/
theorem conj_triv {n : Nat} (hn : 1 ≤ n) {z : List Int} (h : red (z ++ ([(n : Int)] ++ winvL z)) = [(n : Int)]) : fh n [] z = [] := by
  have h1 := lam_conj hn [] z
  have h2 := lam_conj hn [] []
  rw [h] at h1
  have e : red ([] ++ ([(n : Int)] ++ winvL [])) = [(n : Int)] := rfl
  rw [e, h1] at h2
  by_cases e2 : fh n [] z = []
  · exact e2
  · rw [if_neg e2, if_pos (by rfl)] at h2; exact absurd h2 (by decide)
theorem conj_same {n j : Nat} (hn : 1 ≤ n) (hj : 1 ≤ j) {z : List Int} (h : red (z ++ ([(j : Int)] ++ winvL z)) = [(n : Int)]) : j = n := by
  have h1 := cntL_conj hn z [(j : Int)]
  rw [h] at h1
  have e1 : cntL n [(n : Int)] = (if (n : Int).natAbs = n then (if 0 < (n : Int) then 1 else -1) else 0) + 0 := rfl
  have e2 : cntL n [(j : Int)] = (if (j : Int).natAbs = n then (if 0 < (j : Int) then 1 else -1) else 0) + 0 := rfl
  rw [e1, e2, Int.natAbs_natCast, Int.natAbs_natCast, if_pos rfl, if_pos (by omega)] at h1
  by_cases e : j = n
  · exact e
  · rw [if_neg e] at h1; omega

/-! ### Following a strand through the rows -/
def Sp (s : Nat) (rows : List (List Int)) (p : Nat) (z : List Int) : Prop := ri rows p = red (z ++ ([(s : Int)] ++ winvL z))
theorem conj_more (a z : List Int) (s : Nat) : red (a ++ red (z ++ ([(s : Int)] ++ winvL z)) ++ winvL a) = red ((a ++ z) ++ ([(s : Int)] ++ winvL (a ++ z))) := by
  rw [red_mid, invL_app]; simp only [List.append_assoc]
section
variable {n : Nat} {rows : List (List Int)} {k : Int} {q s : Nat} {z : List Int}
theorem Sp.pr (h1 : 1 ≤ n) (hV : IV n rows) (hk : wbad n k = false) (hq : k.natAbs = q + 1) (h0 : 0 < k) (h : Sp s rows q z) : Sp s (letterRows rows k) (q + 1) z := by
  unfold Sp at *; rw [ri_let h1 hV hk hq, if_pos rfl, ly_pos h0]; exact h
theorem Sp.pl (h1 : 1 ≤ n) (hV : IV n rows) (hk : wbad n k = false) (hq : k.natAbs = q + 1) (h0 : 0 < k) (h : Sp s rows (q + 1) z) : Sp s (letterRows rows k) q (ri rows q ++ z) := by
  unfold Sp at *; rw [ri_let h1 hV hk hq, if_neg (by omega), if_pos rfl, lx_pos h0, h, conj_more]
theorem Sp.nr (h1 : 1 ≤ n) (hV : IV n rows) (hk : wbad n k = false) (hq : k.natAbs = q + 1) (h0 : ¬ 0 < k) (h : Sp s rows q z) : Sp s (letterRows rows k) (q + 1) (winvL (ri rows (q + 1)) ++ z) := by
  unfold Sp at *; rw [ri_let h1 hV hk hq, if_pos rfl, ly_neg h0, h, ← conj_more, invL_invL]
theorem Sp.nl (h1 : 1 ≤ n) (hV : IV n rows) (hk : wbad n k = false) (hq : k.natAbs = q + 1) (h0 : ¬ 0 < k) (h : Sp s rows (q + 1) z) : Sp s (letterRows rows k) q z := by
  unfold Sp at *; rw [ri_let h1 hV hk hq, if_neg (by omega), if_pos rfl, lx_neg h0]; exact h
theorem Sp.oth (h1 : 1 ≤ n) (hV : IV n rows) (hk : wbad n k = false) (hq : k.natAbs = q + 1) {p : Nat} (e1 : p ≠ q) (e2 : p ≠ q + 1) (h : Sp s rows p z) : Sp s (letterRows rows k) p z := by
  unfold Sp at *; rw [ri_let h1 hV hk hq, if_neg e2, if_neg e1]; exact h
end
/-- Where the strand at place p goes. -/
def mvp (p : Nat) (k : Int) : Nat := if k.natAbs = p + 1 then p + 1 else if k.natAbs = p then p - 1 else p
theorem Sp.step {n s p : Nat} {rows : List (List Int)} {k : Int} (h1 : 1 ≤ n) (hV : IV n rows) (hk : wbad n k = false) (h : ∃ z, Sp s rows p z) : ∃ z, Sp s (letterRows rows k) (mvp p k) z := by
  obtain ⟨z, h⟩ := h
  obtain ⟨q, hq, hqn⟩ := place_of hk
  unfold mvp
  by_cases e1 : p = q
  · subst e1
    rw [if_pos hq]
    by_cases h0 : 0 < k
    · exact ⟨_, h.pr h1 hV hk hq h0⟩
    · exact ⟨_, h.nr h1 hV hk hq h0⟩
  · rw [if_neg (by omega)]
    by_cases e2 : p = q + 1
    · subst e2
      rw [if_pos hq, Nat.add_sub_cancel]
      by_cases h0 : 0 < k
      · exact ⟨_, h.pl h1 hV hk hq h0⟩
      · exact ⟨_, h.nl h1 hV hk hq h0⟩
    · rw [if_neg (by omega)]; exact ⟨_, h.oth h1 hV hk hq e1 e2⟩
theorem Sp.fold {n s : Nat} (h1 : 1 ≤ n) : ∀ {w : List Int} {p : Nat} {rows : List (List Int)}, Val n w → IV n rows → (∃ z, Sp s rows p z) → ∃ z, Sp s (w.foldl letterRows rows) (w.foldl mvp p) z
  | [], _, _, _, _, h => h
  | k :: w, p, rows, hv, hV, h => Sp.fold h1 (w := w) hv.tail (hV.step h1 hv.head) (Sp.step h1 hV hv.head h)
theorem IV.fold {n : Nat} (h1 : 1 ≤ n) {w : List Int} (hw : Val n w) {rows : List (List Int)} (hV : IV n rows) : IV n (w.foldl letterRows rows) := (laws_rows n h1).keeps w rows hV hw
theorem IV.start (n : Nat) : IV n (start n) := ⟨by unfold Go.Proofs.YtigffblelngpjaaDoor.start; simp, RL_start n⟩
theorem mvp_rpw : ∀ m j, 1 ≤ j → (rpw j m).foldl mvp (j - 1) = j - 1 + m
  | 0, j, _ => rfl
  | m + 1, j, h => by
    show (rpw (j + 1) m).foldl mvp (mvp (j - 1) (j : Int)) = _
    have : mvp (j - 1) (j : Int) = j + 1 - 1 := by unfold mvp; rw [Int.natAbs_natCast, if_pos (by omega)]; omega
    rw [this, mvp_rpw m (j + 1) (by omega)]; omega
theorem mvp_back : ∀ m j, 1 ≤ j → (winvL (rpw j m)).foldl mvp (j - 1 + m) = j - 1
  | 0, j, _ => rfl
  | m + 1, j, h => by
    show (winvL ((j : Int) :: rpw (j + 1) m)).foldl mvp (j - 1 + (m + 1)) = _
    rw [winvL_cons, List.foldl_append, show j - 1 + (m + 1) = j + 1 - 1 + m by omega, mvp_back m (j + 1) (by omega)]
    show mvp (j + 1 - 1) (-(j : Int)) = j - 1
    unfold mvp; rw [Int.natAbs_neg, Int.natAbs_natCast, if_neg (by omega), if_pos (by omega)]; omega
theorem mvp_Dp {n i : Nat} (h1 : 1 ≤ i) (h2 : i < n) : (Dp n i).foldl mvp (n - 1) = n - 1 ∧ (winvL (Dp n i)).foldl mvp (n - 1) = n - 1 := by
  have a := mvp_back (n - 1 - i) (i + 1) (by omega)
  have b := mvp_rpw (n - 1 - i) (i + 1) (by omega)
  rw [show i + 1 - 1 + (n - 1 - i) = n - 1 by omega] at a b
  rw [Nat.add_sub_cancel] at a b
  have m1 : ∀ x : Int, x.natAbs = i → mvp i x = i - 1 := fun x hx => by unfold mvp; rw [if_neg (by omega), if_pos (by omega)]
  have m2 : ∀ x : Int, x.natAbs = i → mvp (i - 1) x = i := fun x hx => by unfold mvp; rw [if_pos (by omega)]; omega
  have n1 : (i : Int).natAbs = i := Int.natAbs_natCast i
  have n2 : (-(i : Int)).natAbs = i := by rw [Int.natAbs_neg]; exact n1
  have c : mvp (mvp i (i : Int)) (i : Int) = i := by rw [m1 _ n1, m2 _ n1]
  have d : mvp (mvp i (-(i : Int))) (-(i : Int)) = i := by rw [m1 _ n2, m2 _ n2]
  constructor
  · unfold Dp
    rw [List.foldl_append, List.foldl_append, a]
    show (rpw (i + 1) (n - 1 - i)).foldl mvp (mvp (mvp i (i : Int)) (i : Int)) = n - 1
    rw [c, b]
  · unfold Dp
    rw [invL_app, invL_app, invL_invL, List.foldl_append, List.foldl_append, a]
    show (rpw (i + 1) (n - 1 - i)).foldl mvp (mvp (mvp i (-(i : Int))) (-(i : Int))) = n - 1
    rw [d, b]
theorem mvp_uw {n : Nat} : ∀ {v : List Int}, Val n v → (uw n v).foldl mvp (n - 1) = n - 1
  | [], _ => rfl
  | i :: v, h => by
    have hb := wb_bd h.head
    rw [uw_cons, List.foldl_append]
    have : (Dw n i).foldl mvp (n - 1) = n - 1 := by
      unfold Dw; split
      · exact (mvp_Dp hb.1 hb.2).1
      · exact (mvp_Dp hb.1 hb.2).2
    rw [this, mvp_uw h.tail]
theorem mvp_low {n : Nat} (hn : 2 ≤ n) : ∀ {b : List Int}, Val ((n - 1 : Nat) : Int) b → b.foldl mvp (n - 1) = n - 1
  | [], _ => rfl
  | k :: b, h => by
    have hb := wb_bd h.head
    show b.foldl mvp (mvp (n - 1) k) = n - 1
    have : mvp (n - 1) k = n - 1 := by unfold mvp; rw [if_neg (by omega), if_neg (by omega)]
    rw [this, mvp_low hn h.tail]

/-! ### The rounds of the last strand -/
def lab (p i : Nat) : Nat := if i < p then i + 1 else i
structure Rw (n : Nat) (rows : List (List Int)) (p : Nat) (zb : List Int) : Prop where
  iv : IV n rows
  pn : p < n
  sp : ∃ z, Sp n rows p z ∧ fh n [] z = zb
  ot : ∀ i, i < n → i ≠ p → fh n [] (ri rows i) = [(lab p i : Int)]
theorem fh_inv_mid {n : Nat} {h : List Int} (hr : RedL h) (z : List Int) : fh n h (z ++ winvL z) = h := by
  induction z generalizing h with
  | nil => rfl
  | cons k z ih =>
    rw [winvL_cons, show k :: z ++ (winvL z ++ [-k]) = [k] ++ ((z ++ winvL z) ++ [-k]) by simp, fh_app, fh_app, ih (fh_red hr [k]), ← fh_app]
    exact fh_canc hr k []
theorem fh_of_red {n : Nat} {h : List Int} (hr : RedL h) (z : List Int) : fh n h (red z) = fh n h z := by
  have key : ∀ (z st : List Int), fh n h (st ++ z) = fh n h (z.foldl redStep st) := by
    intro z
    induction z with
    | nil => intro st; rw [List.append_nil]; rfl
    | cons k z ih =>
      intro st
      rw [List.foldl_cons, ← ih (redStep st k)]
      by_cases hp : 0 < st.length ∧ gi st (st.length - 1) = -k
      · rw [redStep_pop hp.1 hp.2]
        have hs' : st = st.dropLast ++ [-k] := by
          have h1 : st.take (st.length - 1 + 1) = st.take (st.length - 1) ++ [gi st (st.length - 1)] := take_succ_gi (by omega)
          rw [show st.length - 1 + 1 = st.length from by omega, List.take_length, hp.2, ← List.dropLast_eq_take] at h1
          exact h1
        obtain ⟨u, hu⟩ : ∃ u, u = st.dropLast := ⟨_, rfl⟩
        rw [← hu] at hs' ⊢
        subst hs'
        have := fh_canc (n := n) (fh_red (n := n) hr u) (-k) z
        rw [Int.neg_neg] at this
        rw [List.append_assoc, fh_app, fh_app (a := u)]; exact this
      · rw [redStep_push (fun a b => hp ⟨a, b⟩), List.append_assoc]; rfl
  have := key z []
  rw [List.nil_append] at this
  exact this.symm
/-- Aside of n, the last strand is nothing. -/
theorem Sp.flat {n : Nat} {rows : List (List Int)} {p : Nat} {z : List Int} (h : Sp n rows p z) {g : List Int} (hr : RedL g) : fh n g (ri rows p) = g ∧ fh n g (winvL (ri rows p)) = g := by
  unfold Sp at h
  have e : ∀ t, fh n t [(n : Int)] = t := fun t => by unfold fh; simp
  have e' : ∀ t, fh n t [-(n : Int)] = t := fun t => by unfold fh; simp
  constructor
  · rw [h, fh_of_red hr, fh_app, fh_app, e, ← fh_app]
    exact fh_inv_mid hr z
  · rw [h, ← red_invL, fh_of_red hr, invL_app, invL_app, invL_invL, fh_app, fh_app]
    show fh n (fh n (fh n g z) [-(n : Int)]) (winvL z) = g
    rw [e', ← fh_app]
    exact fh_inv_mid hr z
theorem fh_conj {n : Nat} {a b : List Int} {x : Int} (ha : ∀ g, RedL g → fh n g a = g ∧ fh n g (winvL a) = g) (hb : fh n [] b = [x]) : fh n [] (red (a ++ b ++ winvL a)) = [x] ∧ fh n [] (red (winvL a ++ b ++ a)) = [x] := by
  have hx : RedL [x] := by rw [← hb]; exact fh_red redL_nil b
  constructor
  · rw [fh_of_red redL_nil, fh_app, fh_app, (ha _ redL_nil).1, hb, (ha _ hx).2]
  · rw [fh_of_red redL_nil, fh_app, fh_app, (ha _ redL_nil).2, hb, (ha _ hx).1]
section
variable {n : Nat} {rows : List (List Int)} {k : Int} {q : Nat} {zb : List Int}
theorem Rw.upP (h1 : 1 ≤ n) (hk : wbad n k = false) (hq : k.natAbs = q + 1) (h0 : 0 < k) (h : Rw n rows q zb) : Rw n (letterRows rows k) (q + 1) zb := by
  have hb := wb_bd hk
  obtain ⟨z, hz, e⟩ := h.sp
  refine ⟨h.iv.step h1 hk, by omega, ⟨z, hz.pr h1 h.iv hk hq h0, e⟩, fun i hi hne => ?_⟩
  rw [ri_let h1 h.iv hk hq, if_neg hne]
  by_cases e1 : i = q
  · subst e1
    rw [if_pos rfl, lx_pos h0]
    have ho := h.ot (i + 1) (by omega) (by omega)
    have := (fh_conj (fun g hg => hz.flat hg) ho).1
    rw [this]
    unfold lab
    rw [if_neg (by omega), if_pos (by omega)]
  · rw [if_neg e1, h.ot i hi e1]
    unfold lab
    by_cases e2 : i < q
    · rw [if_pos e2, if_pos (by omega)]
    · rw [if_neg e2, if_neg (by omega)]
theorem Rw.upN (h1 : 1 ≤ n) (hk : wbad n k = false) (hq : k.natAbs = q + 1) (h0 : ¬ 0 < k) (h : Rw n rows q zb) : ∃ z, fh n [] z = zb ∧ Rw n (letterRows rows k) (q + 1) (fh n [] (winvL (ri rows (q + 1)) ++ z)) := by
  have hb := wb_bd hk
  obtain ⟨z, hz, e⟩ := h.sp
  refine ⟨z, e, h.iv.step h1 hk, by omega, ⟨_, hz.nr h1 h.iv hk hq h0, rfl⟩, fun i hi hne => ?_⟩
  rw [ri_let h1 h.iv hk hq, if_neg hne]
  by_cases e1 : i = q
  · subst e1
    rw [if_pos rfl, lx_neg h0, h.ot (i + 1) (by omega) (by omega)]
    unfold lab
    rw [if_neg (by omega), if_pos (by omega)]
  · rw [if_neg e1, h.ot i hi e1]
    unfold lab
    by_cases e2 : i < q
    · rw [if_pos e2, if_pos (by omega)]
    · rw [if_neg e2, if_neg (by omega)]
theorem Rw.downN (h1 : 1 ≤ n) (hk : wbad n k = false) (hq : k.natAbs = q + 1) (h0 : ¬ 0 < k) (h : Rw n rows (q + 1) zb) : Rw n (letterRows rows k) q zb := by
  have hb := wb_bd hk
  obtain ⟨z, hz, e⟩ := h.sp
  refine ⟨h.iv.step h1 hk, by omega, ⟨z, hz.nl h1 h.iv hk hq h0, e⟩, fun i hi hne => ?_⟩
  rw [ri_let h1 h.iv hk hq]
  by_cases e1 : i = q + 1
  · subst e1
    rw [if_pos rfl, ly_neg h0]
    have ho := h.ot q (by omega) (by omega)
    have := (fh_conj (fun g hg => hz.flat hg) ho).2
    rw [this]
    unfold lab
    rw [if_pos (by omega), if_neg (by omega)]
  · rw [if_neg e1, if_neg hne, h.ot i hi e1]
    unfold lab
    by_cases e2 : i < q
    · rw [if_pos e2, if_pos (by omega)]
    · rw [if_neg e2, if_neg (by omega)]
theorem Rw.downP (h1 : 1 ≤ n) (hk : wbad n k = false) (hq : k.natAbs = q + 1) (h0 : 0 < k) (h : Rw n rows (q + 1) zb) : ∃ z, fh n [] z = zb ∧ Rw n (letterRows rows k) q (fh n [] (ri rows q ++ z)) := by
  have hb := wb_bd hk
  obtain ⟨z, hz, e⟩ := h.sp
  refine ⟨z, e, h.iv.step h1 hk, by omega, ⟨_, hz.pl h1 h.iv hk hq h0, rfl⟩, fun i hi hne => ?_⟩
  rw [ri_let h1 h.iv hk hq]
  by_cases e1 : i = q + 1
  · subst e1
    rw [if_pos rfl, ly_pos h0, h.ot q (by omega) (by omega)]
    unfold lab
    rw [if_pos (by omega), if_neg (by omega)]
  · rw [if_neg e1, if_neg hne, h.ot i hi e1]
    unfold lab
    by_cases e2 : i < q
    · rw [if_pos e2, if_pos (by omega)]
    · rw [if_neg e2, if_neg (by omega)]
end
end Go.Proofs.YtigffblelngpjaaDoor
/- Words with the same action are words of the same braid: the end. No program in sight. -/
namespace Go.Proofs.YtigffblelngpjaaDoor
set_option linter.unusedVariables false
set_option linter.unusedSimpArgs false

theorem fh_letter {n : Nat} {k : Int} (hk : k.natAbs ≠ n) (x : List Int) : fh n [] ([k] ++ x) = fh n [] (k :: x) := rfl
theorem Rw.fold_up {n : Nat} (h1 : 1 ≤ n) {zb : List Int} : ∀ {m j : Nat} {rows : List (List Int)}, 1 ≤ j → j + m ≤ n → Rw n rows (j - 1) zb → Rw n ((rpw j m).foldl letterRows rows) (j - 1 + m) zb
  | 0, _, _, _, _, h => h
  | m + 1, j, rows, h2, h3, h => by
    have := Rw.upP h1 (wb_nat h2 (by omega)) (q := j - 1) (by rw [Int.natAbs_natCast]; omega) (by omega) h
    have := Rw.fold_up h1 (m := m) (j := j + 1) (by omega) (by omega) (by rw [show j + 1 - 1 = j - 1 + 1 by omega]; exact this)
    rw [show j - 1 + (m + 1) = j + 1 - 1 + m by omega]
    exact this
theorem Rw.fold_down {n : Nat} (h1 : 1 ≤ n) {zb : List Int} : ∀ {m j : Nat} {rows : List (List Int)}, 1 ≤ j → j + m ≤ n → Rw n rows (j - 1 + m) zb → Rw n ((winvL (rpw j m)).foldl letterRows rows) (j - 1) zb
  | 0, _, _, _, _, h => h
  | m + 1, j, rows, h2, h3, h => by
    show Rw n ((winvL ((j : Int) :: rpw (j + 1) m)).foldl letterRows rows) (j - 1) zb
    rw [winvL_cons, List.foldl_append]
    have h4 := Rw.fold_down h1 (m := m) (j := j + 1) (by omega) (by omega) (by rw [show j + 1 - 1 + m = j - 1 + (m + 1) by omega]; exact h)
    rw [show j + 1 - 1 = j - 1 + 1 by omega] at h4
    exact Rw.downN h1 (wbad_neg (wb_nat h2 (by omega))) (q := j - 1) (by rw [Int.natAbs_neg, Int.natAbs_natCast]; omega) (by omega) h4
theorem fh_cons_of {n : Nat} {a z zb : List Int} {x : Int} (ha : fh n [] a = [x]) (hz : fh n [] z = zb) (hx : x.natAbs ≠ n) : fh n [] (a ++ z) = red (x :: zb) := by
  have hzr : RedL zb := by rw [← hz]; exact fh_red redL_nil z
  rw [fh_app, ha]
  have h1 : fh n [x] z = red ([x] ++ (z.filter fun k => decide (k.natAbs ≠ n))) := by
    unfold fh red
    rw [List.foldl_append]
    have : [x].foldl redStep [] = [x] := rfl
    rw [this]
  have h2 : zb = red (z.filter fun k => decide (k.natAbs ≠ n)) := by rw [← hz]; rfl
  rw [h1, h2]
  have := red_mid [x] (z.filter fun k => decide (k.natAbs ≠ n)) []
  simp only [List.append_nil] at this
  rw [← this]; rfl
theorem Rw.round {n i : Nat} {rows : List (List Int)} {zb : List Int} (hn : 2 ≤ n) (i1 : 1 ≤ i) (i2 : i < n) (h : Rw n rows (n - 1) zb) :
    Rw n ((Dp n i).foldl letterRows rows) (n - 1) (red ((i : Int) :: zb)) ∧ Rw n ((winvL (Dp n i)).foldl letterRows rows) (n - 1) (red (-(i : Int) :: zb)) := by
  have h1 : 1 ≤ n := by omega
  have hw := wb_nat i1 i2
  have d := Rw.fold_down h1 (m := n - 1 - i) (j := i + 1) (by omega) (by omega) (by rw [show i + 1 - 1 + (n - 1 - i) = n - 1 by omega]; exact h)
  generalize hr1 : (winvL (rpw (i + 1) (n - 1 - i))).foldl letterRows rows = r1 at d
  rw [show i + 1 - 1 = i - 1 + 1 by omega] at d
  have up : ∀ {r : List (List Int)} {zz : List Int}, Rw n r i zz → Rw n ((rpw (i + 1) (n - 1 - i)).foldl letterRows r) (n - 1) zz := fun {r zz} hh => by
    have := Rw.fold_up h1 (m := n - 1 - i) (j := i + 1) (by omega) (by omega) (by rw [Nat.add_sub_cancel]; exact hh)
    rwa [show i + 1 - 1 + (n - 1 - i) = n - 1 by omega] at this
  constructor
  · obtain ⟨z, hz, h2⟩ := Rw.downP h1 hw (q := i - 1) (by rw [Int.natAbs_natCast]; omega) (by omega) d
    have hl := d.ot (i - 1) (by omega) (by omega)
    unfold lab at hl
    rw [if_pos (by omega), show ((i - 1 + 1 : Nat) : Int) = (i : Int) by omega] at hl
    rw [fh_cons_of hl hz (by rw [Int.natAbs_natCast]; omega)] at h2
    have h3 := Rw.upP h1 hw (q := i - 1) (by rw [Int.natAbs_natCast]; omega) (by omega) h2
    rw [show i - 1 + 1 = i by omega] at h3
    have h4 := up h3
    unfold Dp
    rw [List.foldl_append, List.foldl_append, hr1]
    exact h4
  · have h2 := Rw.downN h1 (wbad_neg hw) (q := i - 1) (by rw [Int.natAbs_neg, Int.natAbs_natCast]; omega) (by omega) d
    obtain ⟨z, hz, h3⟩ := Rw.upN h1 (wbad_neg hw) (q := i - 1) (by rw [Int.natAbs_neg, Int.natAbs_natCast]; omega) (by omega) h2
    have hl := h2.ot (i - 1 + 1) (by omega) (by omega)
    unfold lab at hl
    rw [if_neg (by omega), show ((i - 1 + 1 : Nat) : Int) = (i : Int) by omega] at hl
    have hl' : fh n [] (winvL (ri (letterRows r1 (-(i : Int))) (i - 1 + 1))) = [-(i : Int)] := by
      generalize ri (letterRows r1 (-(i : Int))) (i - 1 + 1) = b at hl ⊢
      have e : ∀ b : List Int, fh n [] (winvL b) = red (winvL (b.filter fun k => decide (k.natAbs ≠ n))) := fun b => by
        unfold fh red winvL
        congr 1
        rw [List.filter_map, List.filter_reverse]
        congr 1; congr 1
        refine List.filter_congr fun k _ => ?_
        simp only [Function.comp, Int.natAbs_neg]
      rw [e, red_invL]
      have : red (b.filter fun k => decide (k.natAbs ≠ n)) = [(i : Int)] := hl
      rw [this]; rfl
    rw [fh_cons_of hl' hz (by rw [Int.natAbs_neg, Int.natAbs_natCast]; omega), show i - 1 + 1 = i by omega] at h3
    have h4 := up h3
    unfold Dp
    rw [invL_app, invL_app, invL_invL, List.foldl_append, List.foldl_append, hr1]
    exact h4
theorem red_red_cons (x : Int) (y : List Int) : red (x :: red y) = red (x :: y) := by
  have := red_mid [x] y []
  simp only [List.append_nil] at this
  exact this
theorem Rw.rounds {n : Nat} (hn : 2 ≤ n) : ∀ {v : List Int} {rows : List (List Int)} {zb : List Int}, Val n v → Rw n rows (n - 1) (red zb) → Rw n ((uw n v).foldl letterRows rows) (n - 1) (red (v.reverse ++ zb))
  | [], _, _, _, h => h
  | i :: v, rows, zb, hv, h => by
    have hb := wb_bd hv.head
    rw [uw_cons, List.foldl_append]
    obtain ⟨a, b⟩ := Rw.round hn hb.1 hb.2 h
    have h2 : Rw n ((Dw n i).foldl letterRows rows) (n - 1) (red (i :: zb)) := by
      rw [← red_red_cons]
      unfold Dw
      by_cases h0 : 0 < i
      · rw [if_pos h0]; rwa [show ((i.natAbs : Nat) : Int) = i by omega] at a
      · rw [if_neg h0]; rwa [show -((i.natAbs : Nat) : Int) = i by omega] at b
    have h3 := Rw.rounds hn hv.tail h2
    rw [List.reverse_cons, List.append_assoc]
    exact h3
theorem Rw.start {n : Nat} (hn : 1 ≤ n) : Rw n (start n) (n - 1) (red []) := by
  have hr : ∀ i, i < n → ri (Go.Proofs.YtigffblelngpjaaDoor.start n) i = [(i : Int) + 1] := fun i hi => by
    unfold Go.Proofs.YtigffblelngpjaaDoor.start; rw [ri_range_map _ hi]
  refine ⟨IV.start n, by omega, ⟨[], ?_, rfl⟩, fun i hi hne => ?_⟩
  · unfold Sp
    rw [hr _ (by omega), show ((n - 1 : Nat) : Int) + 1 = n by omega]; rfl
  · rw [hr i hi]
    have e : fh n [] [(i : Int) + 1] = [(i : Int) + 1] := by
      unfold fh
      have : ((i : Int) + 1).natAbs ≠ n := by omega
      simp only [List.filter_cons, List.filter_nil, this, ne_eq, not_false_eq_true, decide_true, if_true]; rfl
    rw [e]
    unfold lab
    rw [if_pos (by omega)]; simp
theorem Sp.low {n : Nat} (hn : 2 ≤ n) {z : List Int} : ∀ {b : List Int} {rows : List (List Int)}, Val ((n - 1 : Nat) : Int) b → IV n rows → Sp n rows (n - 1) z → Sp n (b.foldl letterRows rows) (n - 1) z
  | [], _, _, _, h => h
  | k :: b, rows, hb, hV, h => by
    have hk := wb_bd hb.head
    have hkn : wbad n k = false := hb.more (by omega) k (by simp)
    exact Sp.low hn (b := b) hb.tail (hV.step (by omega) hkn) (h.oth (by omega) hV hkn (q := k.natAbs - 1) (by omega) (by omega) (by omega))
/-- Rows of fewer strands. -/
theorem rows_less {n : Nat} (hn : 2 ≤ n) {r : List Int} : ∀ {b : List Int} {rows : List (List Int)}, Val ((n - 1 : Nat) : Int) b → IV (n - 1) rows → IV n (rows ++ [r]) → b.foldl letterRows (rows ++ [r]) = b.foldl letterRows rows ++ [r]
  | [], _, _, _, _ => rfl
  | k :: b, rows, hb, hV, hV' => by
    have hk := wb_bd hb.head
    have hkn : wbad n k = false := hb.more (by omega) k (by simp)
    have hq : k.natAbs = (k.natAbs - 1) + 1 := by omega
    have hV1 := hV.step (by omega) hb.head
    have hl := hV.1
    have happ : ∀ (rows : List (List Int)), rows.length = n - 1 → ∀ j, ri (rows ++ [r]) j = if j < n - 1 then ri rows j else ri [r] (j - (n - 1)) := fun rows hl j => by
      unfold ri
      rw [List.getD_eq_getElem?_getD, List.getD_eq_getElem?_getD, List.getD_eq_getElem?_getD, List.getElem?_append, hl]
      split <;> rfl
    have e : letterRows (rows ++ [r]) k = letterRows rows k ++ [r] := by
      refine ext_rows (n := n) (hV'.step (by omega) hkn).1 (by rw [List.length_append, hV1.1]; simp; omega) fun j hj => ?_
      have hA : ri (rows ++ [r]) (k.natAbs - 1) = ri rows (k.natAbs - 1) := by rw [happ _ hl, if_pos (by omega)]
      have hB : ri (rows ++ [r]) (k.natAbs - 1 + 1) = ri rows (k.natAbs - 1 + 1) := by rw [happ _ hl, if_pos (by omega)]
      have hC := ri_let (by omega) hV hb.head hq j
      rw [ri_let (by omega) hV' hkn hq, hA, hB, happ _ hV1.1, happ _ hl, hC]
      by_cases e1 : j = k.natAbs - 1 + 1
      · rw [if_pos e1, if_pos (show j < n - 1 by omega), if_pos e1]
      · rw [if_neg e1, if_neg e1]
        by_cases e2 : j = k.natAbs - 1
        · rw [if_pos e2, if_pos (show j < n - 1 by omega), if_pos e2]
        · rw [if_neg e2, if_neg e2]
    show b.foldl letterRows (letterRows (rows ++ [r]) k) = _
    have hV2 := hV'.step (by omega) hkn
    rw [e] at hV2 ⊢
    exact rows_less hn hb.tail hV1 hV2
theorem start_more {n : Nat} (hn : 2 ≤ n) : start n = start (n - 1) ++ [[(n : Int)]] := by
  obtain ⟨m, rfl⟩ : ∃ m, n = m + 1 := ⟨n - 1, by omega⟩
  unfold start
  rw [Nat.add_sub_cancel, List.range_succ, List.map_append]
  simp
theorem Laws.less {n m : Nat} (h : m ≤ n) {S : Type} {f : S → Int → S} {V : S → Prop} (L : Laws (n : Int) f V) : Laws (m : Int) f V := by
  have hw : ∀ k, wbad (m : Int) k = false → wbad (n : Int) k = false := fun k hk => by
    have := wb_bd hk; exact wbad_not (by omega) (by omega) (by omega)
  exact ⟨fun s k hs hk => L.keep s k hs (hw k hk), fun s k hs hk => L.canc s k hs (hw k hk), fun s p q a b hs ha hb ea eb hpq => L.far s p q a b hs (hw a ha) (hw b hb) ea eb hpq, fun s q hs hq => L.pos s q hs (by omega), fun s q hs hq => L.neg s q hs (by omega)⟩
theorem Br.more {n m : Nat} (h : m ≤ n) {x y : List Int} (hb : Br (m : Int) x y) : Br (n : Int) x y := fun S f V L s hs => hb S f V (L.less h) s hs
/-- A word that moves nothing is a word of the braid that is nothing. -/
theorem faith : ∀ (n : Nat) {w : List Int}, 1 ≤ n → Val n w → actRows n w = start n → Br n w []
  | 0, _, h, _, _ => by omega
  | 1, w, _, hv, _ => by
    cases w with
    | nil => exact Br.refl _ _
    | cons k w => have := wb_bd hv.head; omega
  | n + 2, w, _, hv, ha => by
    obtain ⟨m, hm⟩ : ∃ m, m = n + 2 := ⟨_, rfl⟩
    have ih := fun {b} => faith (n + 1) (w := b)
    rw [show n + 1 = m - 1 by omega] at ih
    rw [← hm] at hv ha ⊢
    have hn : 2 ≤ m := by omega
    obtain ⟨j, v, b, j1, j2, v1, b1, hbr⟩ := comb_br hn hv
    have b1' : Val m b := b1.more (by omega)
    have hr := rpw_val (n := m) j1 (show j + (m - j) ≤ m by omega)
    have hact := br_act (by omega) hbr
    rw [ha] at hact
    -- the last strand comes from the last place
    have hj : j = m := by
      have s0 : ∃ z, Sp j (start m) (j - 1) z := ⟨[], by
        unfold Sp Go.Proofs.YtigffblelngpjaaDoor.start
        rw [ri_range_map _ (by omega), show ((j - 1 : Nat) : Int) + 1 = j by omega]; rfl⟩
      have s1 := Sp.fold (by omega) (hr.app ((uw_val v1).app b1')) (IV.start m) s0
      rw [List.foldl_append (f := mvp), List.foldl_append (f := mvp), mvp_rpw _ _ j1, show j - 1 + (m - j) = m - 1 by omega, mvp_uw v1, mvp_low hn b1] at s1
      obtain ⟨z, hz⟩ := s1
      have : (rpw j (m - j) ++ (uw m v ++ b)).foldl letterRows (start m) = start m := hact.symm
      rw [this] at hz
      unfold Sp Go.Proofs.YtigffblelngpjaaDoor.start at hz
      rw [ri_range_map _ (by omega), show ((m - 1 : Nat) : Int) + 1 = m by omega] at hz
      exact conj_same (by omega) j1 hz.symm
    rw [hj, Nat.sub_self, show rpw m 0 = [] from rfl, List.nil_append] at hbr hact
    -- its rounds cancel
    have hz : red v.reverse = [] := by
      have h1 := Rw.rounds hn v1 (Rw.start (by omega : 1 ≤ m))
      rw [List.append_nil] at h1
      obtain ⟨z, hz, e⟩ := h1.sp
      have h2 := Sp.low hn b1 h1.iv hz
      have h3 : b.foldl letterRows ((uw m v).foldl letterRows (start m)) = start m := by
        rw [← List.foldl_append]; exact hact.symm
      rw [h3] at h2
      unfold Sp Go.Proofs.YtigffblelngpjaaDoor.start at h2
      rw [ri_range_map _ (by omega), show ((m - 1 : Nat) : Int) + 1 = m by omega] at h2
      rw [← e]
      exact conj_triv (by omega) h2.symm
    have hvr : Val m v.reverse := fun x hx => v1 x (List.mem_reverse.1 hx)
    have hu := uw_trivial hvr hz
    rw [List.reverse_reverse] at hu
    have hwb : Br m w b := hbr.trans ((ev_br hn ((uw_val v1).app b1') b1').2 (by rw [ev_app, hu, Bj.one_mul]))
    -- the other strands
    have hb2 := br_act (by omega) hwb
    rw [ha] at hb2
    have hb3 : actRows (m - 1) b = start (m - 1) := by
      have : b.foldl letterRows (start m) = start m := hb2.symm
      rw [start_more hn, rows_less hn b1 (IV.start _) (by rw [← start_more hn]; exact IV.start m)] at this
      exact List.append_cancel_right this
    exact hwb.trans ((ih (by omega) b1 hb3).more (by omega))
/-- THE THEOREM: the same action, the same braid. -/
theorem act_br {n : Nat} (h1 : 1 ≤ n) {w v : List Int} (hw : Val n w) (hv : Val n v) : actRows n w = actRows n v ↔ Br n w v := by
  constructor
  · intro h
    have e : actRows n (w ++ winvL v) = actRows n (v ++ winvL v) := by
      unfold actRows at *; rw [List.foldl_append, List.foldl_append, h]
    rw [br_act h1 (Br.inv hv)] at e
    have b := (faith n h1 (hw.app hv.inv) e).right v
    have c := (Br.inv' hv).left hw
    rw [List.append_assoc] at b
    rw [List.append_nil] at c
    exact c.symm.trans b
  · exact br_act h1
theorem nfw_act {n : Nat} (hn : 2 ≤ n) {w v : List Int} (hw : Val n w) (hv : Val n v) : nfw n w = nfw n v ↔ actRows n w = actRows n v := (nfw_iff hn hw hv).trans (act_br (by omega) hw hv).symm
end Go.Proofs.YtigffblelngpjaaDoor
/- Normal forms in memory; the law's helpers same and clipped. -/
namespace Go.Proofs.YtigffblelngpjaaDoor
set_option linter.unusedVariables false
set_option linter.unusedSimpArgs false
set_option maxRecDepth 8000
open Go Go.RowKit

/-- A normal form in memory, of any capacities. -/
def NS (w : World) (v : Value) (N q : Int) (ls : List (List Int)) : Prop := ∃ a c, v = .agg #[.int .i64 N, .int .i64 q, .slice a ls.length c] ∧ ISS .u8 w (.slice a ls.length c) c ls
/-- .. without spare capacity. -/
def NX (w : World) (v : Value) (N q : Int) (ls : List (List Int)) : Prop := ∃ a, v = .agg #[.int .i64 N, .int .i64 q, .slice a ls.length ls.length] ∧ ISX .u8 w (.slice a ls.length ls.length) ls.length ls
theorem NX.ns {w : World} {v : Value} {N q : Int} {ls : List (List Int)} (h : NX w v N q ls) : NS w v N q ls := by
  obtain ⟨a, e, h⟩ := h; exact ⟨a, _, e, h.iss⟩
theorem NX.ext {w w' : World} {v : Value} {N q : Int} {ls : List (List Int)} (h : NX w v N q ls) (x : Ext w w') : NX w' v N q ls := by
  obtain ⟨a, e, h⟩ := h; exact ⟨a, e, h.ext x⟩
theorem NS.ext {w w' : World} {v : Value} {N q : Int} {ls : List (List Int)} (h : NS w v N q ls) (x : Ext w w') : NS w' v N q ls := by
  obtain ⟨a, c, e, h⟩ := h; exact ⟨a, c, e, h.ext x⟩
theorem NX.mk {w : World} {g m : Nat} {N q : Int} {ls : List (List Int)} (h : ISX .u8 w (.slice (some ⟨g, 0, none⟩) m m) m ls) (hm : ls.length = m) : NX w (.agg #[.int .i64 N, .int .i64 q, .slice (some ⟨g, 0, none⟩) m m]) N q ls := by
  subst hm; exact ⟨_, rfl, h⟩
theorem B3.new (w : World) (x y z : Value) (t : TypeId) : B3 (w.alloc (.cells #[x, y, z] t)) w.heap.size x y z t := Deep.blk_alloc_new _ _
def Byt (ls : List (List Int)) : Prop := ∀ i, i < ls.length → U8L (ri ls i)
theorem PML.byt {n : Nat} {ls : List (List Int)} (h : PML n ls) (h8 : n ≤ 8) : Byt ls := fun i hi => by
  rw [ri_of_lt hi]; exact (h _ (List.getElem_mem _)).u8l h8
theorem bstr_go (xs : List Int) (a : ByteArray) : (xs.foldl (fun r n => r.push (UInt8.ofNat n.toNat)) a).data.toList = a.data.toList ++ xs.map (fun n => UInt8.ofNat n.toNat) := by
  induction xs generalizing a with
  | nil => simp
  | cons x xs ih =>
    rw [List.foldl_cons, ih]
    simp [ByteArray.push]
theorem bstr_data (xs : List Int) : (bstr xs).data.toList = xs.map (fun n => UInt8.ofNat n.toNat) := by
  unfold bstr; rw [bstr_go]; rfl
theorem bstr_inj {xs ys : List Int} (hx : U8L xs) (hy : U8L ys) (h : bstr xs = bstr ys) : xs = ys := by
  have h' : xs.map (fun n => UInt8.ofNat n.toNat) = ys.map (fun n => UInt8.ofNat n.toNat) := by rw [← bstr_data, ← bstr_data, h]
  have hl : xs.length = ys.length := by have := congrArg List.length h'; simpa using this
  refine gi_ext hl fun i hi => ?_
  have e := congrArg (fun l => l[i]?) h'
  simp only [List.getElem?_map] at e
  rw [gi_some hi, gi_some (by omega)] at e
  have b1 := hx i hi
  have b2 := hy i (by omega)
  simp only [Option.map_some, Option.some.injEq] at e
  have := congrArg UInt8.toNat e
  rw [UInt8.toNat_ofNat', UInt8.toNat_ofNat'] at this
  omega
def nsame (N M p q : Int) (xs ys : List (List Int)) : Bool := decide (N = M ∧ p = q ∧ xs = ys)
theorem nsame_no {N M p q : Int} {xs ys : List (List Int)} (h : ¬ (N = M ∧ p = q ∧ xs.length = ys.length)) : nsame N M p q xs ys = false :=
  decide_eq_false fun ⟨a, b, c⟩ => h ⟨a, b, by rw [c]⟩

set_option maxHeartbeats 4000000 in
theorem NSame_calls (v v' : Value) (N M p q : Int) (xs ys : List (List Int)) (w : World) (h : NS w v N p xs) (h' : NS w v' M q ys) (hb : Byt xs) (hb' : Byt ys) :
    Calls Tryd.prog 12 #[v, v'] w fun e w' => e = .returned (.bool (nsame N M p q xs ys)) ∧ Ext w w' := by
  obtain ⟨a, c, rfl, vs, caps, h⟩ := h
  obtain ⟨a', c', rfl, vs', caps', h'⟩ := h'
  obtain ⟨h1, h2, ao, e, hao⟩ := h.open
  obtain ⟨h1', h2', bo, e', hbo⟩ := h'.open
  simp only [Value.slice.injEq, and_true] at e e'
  subst e; subst e'
  obtain ⟨W, hW⟩ : ∃ W, W = (w.alloc (.cells #[.int .i64 N, .int .i64 p, .slice a xs.length c] 30)).alloc (.cells #[.int .i64 M, .int .i64 q, .slice a' ys.length c'] 30) := ⟨_, rfl⟩
  have xW : Ext w W := by rw [hW]; exact ((Ext.refl w).alloc _).alloc _
  have b1 : B3 W w.heap.size (.int .i64 N) (.int .i64 p) (.slice a xs.length c) 30 := by
    rw [hW]; exact ((Ext.refl _).alloc _).block (B3.new w _ _ _ _)
  have b2 : B3 W (w.heap.size + 1) (.int .i64 M) (.int .i64 q) (.slice a' ys.length c') 30 := by
    rw [hW]
    have := B3.new (w.alloc (.cells #[.int .i64 N, .int .i64 p, .slice a xs.length c] 30)) (.int .i64 M) (.int .i64 q) (.slice a' ys.length c') 30
    simpa using this
  have hr := fun i hi => (h.2 i hi).ext xW
  have hr' := fun i hi => (h'.2 i hi).ext xW
  have hno := @nsame_no N M p q xs ys
  have hyes : N = M → p = q → xs.length = ys.length → (∀ i, i < xs.length → ri xs i = ri ys i) → nsame N M p q xs ys = true := fun a b c d => decide_eq_true ⟨a, b, ri_ext c d⟩
  have hne : ∀ i, ri xs i ≠ ri ys i → nsame N M p q xs ys = false := fun i hi => decide_eq_false fun ⟨_, _, e⟩ => hi (by rw [e])
  obtain ⟨n, hn⟩ : ∃ n, n = xs.length := ⟨_, rfl⟩
  obtain ⟨m, hm⟩ : ∃ m, m = ys.length := ⟨_, rfl⟩
  obtain ⟨R, hR⟩ : ∃ R, R = nsame N M p q xs ys := ⟨_, rfl⟩
  have hB1 := hb; have hB2 := hb'
  unfold Byt at hB1 hB2
  rw [← hn] at hao h1 hr hno hyes hW b1 hB1 ⊢
  rw [← hm] at hbo h1' hr' hno hyes hW b2 hB2 ⊢
  rw [← hR] at hno hyes hne ⊢
  have c0 := b1.c0; have c1 := b1.c1; have c2 := b1.c2; have d0 := b2.c0; have d1 := b2.c1; have d2 := b2.c2
  have Hr := Lib.hid hr; have Hr' := Lib.hid hr'; have Hno := Lib.hid hno; have Hyes := Lib.hid hyes; have Hne := Lib.hid hne; have HW := Lib.hid hW; have XW := Lib.hid xW
  have HB1 := Lib.hid hB1; have HB2 := Lib.hid hB2
  have Hao := Lib.hid (fun i hi => (hao.resolve_left (fun ⟨_, h0, _⟩ => by omega) : ∃ b o, a = some ⟨b, o, none⟩ ∧ ∀ i, i < n → w.cell? ⟨b, o + i, none⟩ = some (vs i)) : ∀ i, i < n → _)
  have Hbo := Lib.hid (fun i hi => (hbo.resolve_left (fun ⟨_, h0, _⟩ => by omega) : ∃ b o, a' = some ⟨b, o, none⟩ ∧ ∀ i, i < m → w.cell? ⟨b, o + i, none⟩ = some (vs' i)) : ∀ i, i < m → _)
  clear hao hbo hr hr' hno hyes hne hW xW hn hm hR h h' hb hb' hB1 hB2 b1 b2
  unfold maxLen at h2 h2'
  go_enter Tryd.func12, Tryd.ntmps12
  by_cases hNM : N = M ∧ p = q ∧ n = m
  · obtain ⟨rfl, rfl, rfl⟩ := hNM
    go_wp2
    rw [← HW.out]
    go_loopw [5] (fun i wr => ∃ k m : Nat, k ≤ n ∧ i = .int .i64 k ∧ wr = W.drewN m ∧ Hid (∀ i, i < k → ri xs i = ri ys i)) (fun i _ => n - (intOf i).toNat)
    case atStart => exact ⟨0, 0, Nat.zero_le _, rfl, rfl, Lib.hid fun i h => by omega⟩
    case round =>
      obtain ⟨k, m, hk, rfl, rfl, Hs⟩ := hrel
      by_cases hlt : k < n
      · obtain ⟨b, o, rfl, hc⟩ := Hao.out k hlt
        obtain ⟨b', o', rfl, hc'⟩ := Hbo.out k hlt
        have hck := XW.out.cell (hc k hlt)
        have hck' := XW.out.cell (hc' k hlt)
        have e1 : (k : Int) < n := by omega
        have e2 : (0 : Int) ≤ k := by omega
        have cv := fun j => run_bstr (P := Tryd.prog) ((Hr.out k hlt).ext ((Ext.refl W).drewN j)) Tryd.underlying22 Tryd.underlying5 Tryd.underlying9
        have cv' := fun j => run_bstr (P := Tryd.prog) ((Hr'.out k hlt).ext ((Ext.refl W).drewN j)) Tryd.underlying22 Tryd.underlying5 Tryd.underlying9
        have Hinj := Lib.hid (fun e => bstr_inj (HB1.out k hlt) (HB2.out k hlt) e : bstr (ri xs k) = bstr (ri ys k) → ri xs k = ri ys k)
        have Hinj2 := Lib.hid (fun e : ri xs k = ri ys k => show bstr (ri xs k) = bstr (ri ys k) by rw [e])
        obtain ⟨s1, hs1⟩ : ∃ s, s = bstr (ri xs k) := ⟨_, rfl⟩
        obtain ⟨s2, hs2⟩ : ∃ s, s = bstr (ri ys k) := ⟨_, rfl⟩
        rw [← hs1] at cv Hinj Hinj2
        rw [← hs2] at cv' Hinj Hinj2
        generalize vs k = u at hck cv
        generalize vs' k = u' at hck' cv'
        clear hc hc' hs1 hs2
        by_cases he : s1 = s2
        · have He := Lib.hid (Hinj.out he)
          have se := str_eq he
          clear he
          go_wp2
          go_quiet (fail)
          go_wp2
          go_roundw
          case rel => exact ⟨k + 1, _, by omega, by go_num, rfl, Lib.hid fun i hi => by
            by_cases e : i = k
            · subst e; exact He.out
            · exact Hs.out i (by omega)⟩
          case measure => simp [intOf]; omega
        · have He := Lib.hid (Hne.out k fun e => he (Hinj2.out e))
          have se := str_ne he
          clear he
          go_wp2
          go_quiet (fail)
          go_wp2
          go_ret
          exact ⟨ret_bool He.out.symm, (XW.out.trans ((Ext.refl W).drewN _)).drewN _⟩
      · obtain rfl : k = n := by omega
        have He := Lib.hid (Hyes.out (by simp) (by simp) (by simp) Hs.out)
        go_wp2
        go_ret
        exact ⟨ret_bool He.out.symm, XW.out.drewN _⟩
  · have He := Lib.hid (Hno.out hNM)
    by_cases g1 : N = M
    · have f1 : (N != M) = false := by simp [g1]
      by_cases g2 : p = q
      · have f2 : (p != q) = false := by simp [g2]
        have f3 : ((n : Int) != (m : Int)) = true := by simp; omega
        clear hNM g1 g2
        go_wp2
        rw [← HW.out]
        go_ret
        exact ⟨ret_bool He.out.symm, XW.out⟩
      · have f2 : (p != q) = true := by simp [g2]
        clear hNM g1 g2
        go_wp2
        rw [← HW.out]
        go_ret
        exact ⟨ret_bool He.out.symm, XW.out⟩
    · have f1 : (N != M) = true := by simp [g1]
      clear hNM g1
      go_wp2
      rw [← HW.out]
      go_ret
      exact ⟨ret_bool He.out.symm, XW.out⟩
end Go.Proofs.YtigffblelngpjaaDoor
