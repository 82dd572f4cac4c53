/- Texts of this claim in one file: libraries and walks. -/
import Derived.Laws.EntriesVeiled
import Derived.Deep.QuietTactic
import Derived.Lib.BitFns
import Derived.Test.YtigffblelngpjaaDoorL5
import Derived.Test.YtigffblelngpjaaDoorL7
import Derived.Test.YtigffblelngpjaaDoorL8
import Derived.Test.YtigffblelngpjaaDoorL9
import Derived.Test.YtigffblelngpjaaDoorL12
/- The normal forms obey the laws of braids: words of the same braid have the same normal form. No program in sight. -/
namespace Go.Proofs.YtigffblelngpjaaDoor
set_option linter.unusedVariables false
set_option linter.unusedSimpArgs false

def Cm (n : Nat) (a b : Int) : Prop := ∀ s, Can n s → nfa n (nfa n s a) b = nfa n (nfa n s b) a
theorem Cm.symm {n : Nat} {a b : Int} (h : Cm n a b) : Cm n b a := fun s hs => (h s hs).symm
theorem Cm.neg {n : Nat} (hn : 2 ≤ n) {a b : Int} (ha : 1 ≤ a.natAbs ∧ a.natAbs < n) (hb : 1 ≤ b.natAbs ∧ b.natAbs < n) (h : Cm n a b) : Cm n a (-b) := fun s hs => by
  have hb' : 1 ≤ (-b).natAbs ∧ (-b).natAbs < n := by rw [Int.natAbs_neg]; exact hb
  have ht := nfa_can hs hb'.1 hb'.2
  have e := nfa_canc hn hs hb'.1 hb'.2
  rw [Int.neg_neg] at e
  have e2 := h _ ht
  rw [e] at e2
  rw [← e2]
  exact nfa_canc hn (nfa_can ht ha.1 ha.2) hb.1 hb.2
theorem Cm.all {n : Nat} (hn : 2 ≤ n) {j k : Nat} (h1 : 1 ≤ j) (h2 : j + 2 ≤ k) (h3 : k < n) {a b : Int} (ha : a.natAbs = j) (hb : b.natAbs = k) : Cm n a b := by
  have c1 : Cm n (j : Int) (k : Int) := fun s hs => nfa_farp hn hs h1 h2 h3
  have bj : 1 ≤ (j : Int).natAbs ∧ (j : Int).natAbs < n := by rw [Int.natAbs_natCast]; omega
  have bk : 1 ≤ (k : Int).natAbs ∧ (k : Int).natAbs < n := by rw [Int.natAbs_natCast]; omega
  have bj' : 1 ≤ (-(j : Int)).natAbs ∧ (-(j : Int)).natAbs < n := by rw [Int.natAbs_neg]; exact bj
  have bk' : 1 ≤ (-(k : Int)).natAbs ∧ (-(k : Int)).natAbs < n := by rw [Int.natAbs_neg]; exact bk
  have c2 := c1.neg hn bj bk
  have c3 := (c1.symm.neg hn bk bj).symm
  have c4 := (c2.symm.neg hn bk' bj).symm
  rcases Int.natAbs_eq a with e | e <;> rcases Int.natAbs_eq b with e' | e' <;> rw [e, e', ha, hb]
  · exact c1
  · exact c2
  · exact c3
  · exact c4
theorem wb_bd {n : Nat} {k : Int} (h : wbad n k = false) : 1 ≤ k.natAbs ∧ k.natAbs < n := by
  obtain ⟨q, h1, h2⟩ := place_of h; omega
theorem laws_nf {n : Nat} (hn : 2 ≤ n) : Laws (n : Int) (nfa n) (Can n) where
  keep := fun s k hs hk => nfa_can hs (wb_bd hk).1 (wb_bd hk).2
  canc := fun s k hs hk => nfa_canc hn hs (wb_bd hk).1 (wb_bd hk).2
  far := fun s p q a b hs ha hb ea eb hpq => Cm.all hn (j := p + 1) (k := q + 1) (by omega) (by omega) (by have := wb_bd hb; omega) ea eb s hs
  pos := fun s q hs hq => by
    have := nfa_pos hn hs (k := q + 1) (by omega) (by omega)
    simpa [Int.natCast_add, Int.add_assoc] using this
  neg := fun s q hs hq => by
    have ba : 1 ≤ ((q : Int) + 1).natAbs ∧ ((q : Int) + 1).natAbs < n := by omega
    have bb : 1 ≤ ((q : Int) + 2).natAbs ∧ ((q : Int) + 2).natAbs < n := by omega
    have ba' : 1 ≤ (-((q : Int) + 1)).natAbs ∧ (-((q : Int) + 1)).natAbs < n := by rw [Int.natAbs_neg]; exact ba
    have bb' : 1 ≤ (-((q : Int) + 2)).natAbs ∧ (-((q : Int) + 2)).natAbs < n := by rw [Int.natAbs_neg]; exact bb
    have pos := fun s (hs : Can n s) => show nfa n (nfa n (nfa n s ((q : Int) + 1)) ((q : Int) + 2)) ((q : Int) + 1) = nfa n (nfa n (nfa n s ((q : Int) + 2)) ((q : Int) + 1)) ((q : Int) + 2) from by
      have := nfa_pos hn hs (k := q + 1) (by omega) (by omega)
      simpa [Int.natCast_add, Int.add_assoc] using this
    have up := fun s (hs : Can n s) {k : Int} (hk : 1 ≤ k.natAbs ∧ k.natAbs < n) (hk' : 1 ≤ (-k).natAbs ∧ (-k).natAbs < n) => show nfa n (nfa n s (-k)) k = s from by
      have := nfa_canc hn hs hk'.1 hk'.2; rwa [Int.neg_neg] at this
    have u1 := nfa_can hs ba'.1 ba'.2; have u2 := nfa_can u1 bb'.1 bb'.2; have u3 := nfa_can u2 ba'.1 ba'.2
    have v1 := nfa_can hs bb'.1 bb'.2; have v2 := nfa_can v1 ba'.1 ba'.2; have v3 := nfa_can v2 bb'.1 bb'.2
    -- both go back to s
    have eu : nfa n (nfa n (nfa n (nfa n (nfa n (nfa n s (-((q : Int) + 1))) (-((q : Int) + 2))) (-((q : Int) + 1))) ((q : Int) + 1)) ((q : Int) + 2)) ((q : Int) + 1) = s := by
      rw [up _ u2 ba ba', up _ u1 bb bb', up _ hs ba ba']
    have ev : nfa n (nfa n (nfa n (nfa n (nfa n (nfa n s (-((q : Int) + 2))) (-((q : Int) + 1))) (-((q : Int) + 2))) ((q : Int) + 2)) ((q : Int) + 1)) ((q : Int) + 2) = s := by
      rw [up _ v2 bb bb', up _ v1 ba ba', up _ hs bb bb']
    rw [← pos _ v3] at ev
    have key := eu.trans ev.symm
    have inj := fun {x y : Int × List Pm} (hx : Can n x) (hy : Can n y) {k : Int} (hk : 1 ≤ k.natAbs ∧ k.natAbs < n) (e : nfa n x k = nfa n y k) => show x = y from by
      rw [← nfa_canc hn hx hk.1 hk.2, e, nfa_canc hn hy hk.1 hk.2]
    have a1 := nfa_can u3 ba.1 ba.2; have a2 := nfa_can a1 bb.1 bb.2
    have b1 := nfa_can v3 ba.1 ba.2; have b2 := nfa_can b1 bb.1 bb.2
    exact inj u3 v3 ba (inj a1 b1 bb (inj a2 b2 ba key))
theorem Can.zero (n : Nat) : Can n (0, []) := ⟨SptL.nil n, trivial, Lst.nil, by simp⟩
/-- The normal form of a word. -/
noncomputable def nfw (n : Nat) (w : List Int) : Int × List Pm := w.foldl (nfa n) (0, [])
theorem nfw_br {n : Nat} (hn : 2 ≤ n) {x y : List Int} (h : Br n x y) : nfw n x = nfw n y := h _ _ _ (laws_nf hn) _ (Can.zero n)
/-- The word as a power and a list, not moved yet. -/
def raw (n : Nat) (w : List Int) : Int × List Pm := w.foldl (act n) (0, [])
theorem fold_Qv {n : Nat} : ∀ (w : List Int) {s t : Int × List Pm}, Val n w → Qv n s t → Qv n (w.foldl (act n) s) (w.foldl (nfa n) t)
  | [], _, _, _, h => h
  | k :: w, s, t, hv, h => fold_Qv w hv.tail (nfa_Qv h (wb_bd hv.head).1 (wb_bd hv.head).2)
theorem raw_nfw {n : Nat} {w : List Int} (hv : Val n w) : Qv n (raw n w) (nfw n w) := fold_Qv w hv (Qv.refl (SptL.nil n))
theorem nfw_can {n : Nat} (hn : 2 ≤ n) {w : List Int} (hv : Val n w) : Can n (nfw n w) := (laws_nf hn).keeps w _ (Can.zero n) hv
/-- What is normal and moved into the word's is its normal form. -/
theorem nfw_eq {n : Nat} (hn : 2 ≤ n) {w : List Int} (hv : Val n w) {c : Int × List Pm} (hc : Can n c) (h : Qv n (raw n w) c) : c = nfw n w :=
  Can.unique hn hc (nfw_can hn hv) (h.symm.trans (raw_nfw hv))
end Go.Proofs.YtigffblelngpjaaDoor
/- Products of normal forms, and their inverses. No program in sight. -/
namespace Go.Proofs.YtigffblelngpjaaDoor
set_option linter.unusedVariables false
set_option linter.unusedSimpArgs false

/-- The list flipped, if p is odd. -/
def flN (n : Nat) (p : Int) (l : List Pm) : List Pm := if p % 2 = 0 then l else l.map (Pm.fl n)
theorem flN_zero (n : Nat) (l : List Pm) : flN n 0 l = l := rfl
theorem flN_succ (n : Nat) (p : Int) (l : List Pm) : flN n (p + 1) l = (flN n p l).map (Pm.fl n) := by
  unfold flN
  rcases Int.emod_two_eq p with h | h
  · have h2 : ¬ (p + 1) % 2 = 0 := by omega
    rw [if_pos h, if_neg h2]
  · have h1 : ¬ p % 2 = 0 := by omega
    have h2 : (p + 1) % 2 = 0 := by omega
    rw [if_neg h1, if_pos h2, map_fl_fl]
theorem flN_pred (n : Nat) (p : Int) (l : List Pm) : flN n (p - 1) l = (flN n p l).map (Pm.fl n) := by
  have := flN_succ n (p - 1) l
  rw [show p - 1 + 1 = p by omega] at this
  rw [this, map_fl_fl]
theorem flN_app (n : Nat) (p : Int) (l m : List Pm) : flN n p (l ++ m) = flN n p l ++ flN n p m := by
  unfold flN; split
  · rfl
  · rw [List.map_append]
theorem flN_flN (n : Nat) (p q : Int) (l : List Pm) : flN n p (flN n q l) = flN n (p + q) l := by
  unfold flN
  rcases Int.emod_two_eq p with h | h <;> rcases Int.emod_two_eq q with h' | h'
  · have h2 : (p + q) % 2 = 0 := by omega
    rw [if_pos h, if_pos h', if_pos h2]
  · have h1 : ¬ q % 2 = 0 := by omega
    have h2 : ¬ (p + q) % 2 = 0 := by omega
    rw [if_pos h, if_neg h1, if_neg h2]
  · have h1 : ¬ p % 2 = 0 := by omega
    have h2 : ¬ (p + q) % 2 = 0 := by omega
    rw [if_neg h1, if_pos h', if_neg h2]
  · have h1 : ¬ p % 2 = 0 := by omega
    have h3 : ¬ q % 2 = 0 := by omega
    have h2 : (p + q) % 2 = 0 := by omega
    rw [if_neg h1, if_neg h3, if_pos h2, map_fl_fl]
theorem flN_nil (n : Nat) (p : Int) : flN n p [] = [] := by unfold flN; split <;> rfl
theorem SptL.flN {n : Nat} {l : List Pm} (h : SptL n l) (p : Int) : SptL n (flN n p l) := by
  unfold Go.Proofs.YtigffblelngpjaaDoor.flN; split
  · exact h
  · exact h.fl
theorem Eq'.flN {n : Nat} {l m : List Pm} (h : Eq' n l m) (p : Int) : Eq' n (flN n p l) (flN n p m) := by
  unfold Go.Proofs.YtigffblelngpjaaDoor.flN; split
  · exact h
  · exact h.fl
theorem reps_flN (n a : Nat) (p : Int) : flN n p (reps n a) = reps n a := by
  unfold flN; split
  · rfl
  · exact reps_fl n a
/-- First s, then t. -/
def pr (n : Nat) (s t : Int × List Pm) : Int × List Pm := (s.1 + t.1, flN n t.1 s.2 ++ t.2)
theorem pr_sup {n : Nat} {s t : Int × List Pm} (hs : SptL n s.2) (ht : SptL n t.2) : SptL n (pr n s t).2 := (hs.flN _).app ht
theorem pr_assoc (n : Nat) (s t u : Int × List Pm) : pr n (pr n s t) u = pr n s (pr n t u) := by
  unfold pr
  simp only [flN_app, flN_flN, List.append_assoc, Int.add_assoc]
  rw [Int.add_comm u.1 t.1]
theorem pr_one (n : Nat) (s : Int × List Pm) : pr n s (0, []) = s := by unfold pr; rw [flN_zero]; simp
theorem one_pr (n : Nat) (s : Int × List Pm) : pr n (0, []) s = s := by unfold pr; rw [flN_nil]; simp
theorem pr_act (n : Nat) (s t : Int × List Pm) (k : Int) : act n (pr n s t) k = pr n s (act n t k) := by
  unfold act pr
  split
  · simp
  · simp only [flN_pred, List.map_append, List.append_assoc]
    rw [show s.1 + t.1 - 1 = s.1 + (t.1 - 1) by omega]
theorem pr_fold (n : Nat) (s : Int × List Pm) : ∀ (v : List Int) (t : Int × List Pm), v.foldl (act n) (pr n s t) = pr n s (v.foldl (act n) t)
  | [], _ => rfl
  | k :: v, t => by rw [List.foldl_cons, List.foldl_cons, pr_act]; exact pr_fold n s v _
theorem raw_app (n : Nat) (w v : List Int) : raw n (w ++ v) = pr n (raw n w) (raw n v) := by
  unfold raw
  rw [List.foldl_append]
  conv => lhs; rw [← pr_one n (w.foldl (act n) (0, []))]
  exact pr_fold n _ v _
/-- Half twists go to the front. -/
theorem reps_front {n : Nat} : ∀ (a : Nat) (p : Int) {l m : List Pm}, SptL n l → SptL n m → Qv n (p, l ++ (reps n a ++ m)) (p + a, flN n a l ++ m)
  | 0, p, l, m, hl, hm => by
    have : flN n ((0 : Nat) : Int) l = l := rfl
    rw [this, show p + ((0 : Nat) : Int) = p by simp]
    exact Qv.refl (s := (p, l ++ m)) (hl.app hm)
  | a + 1, p, l, m, hl, hm => by
    have e1 : Star Mv (l ++ [Pm.dl n] ++ (reps n a ++ m)) (Pm.dl n :: l.map (Pm.fl n) ++ (reps n a ++ m)) := (half_list hl).app _
    have hS : SptL n (l ++ [Pm.dl n] ++ (reps n a ++ m)) := (hl.app (SptL.one (Spt.dl n))).app ((SptL.reps n a).app hm)
    have e2 := Qv.of (p := p) (Eq'.of_star hS e1)
    have e3 := Qv.up (n := n) (p := p) (hl.fl.app ((SptL.reps n a).app hm))
    have e4 := reps_front a (p + 1) hl.fl hm
    rw [List.append_assoc] at e2
    have e5 := e2.trans (e3.trans e4)
    have : flN n ((a + 1 : Nat) : Int) l = flN n a (l.map (Pm.fl n)) := by
      rw [show ((a + 1 : Nat) : Int) = (a : Int) + 1 by omega, ← flN_flN]; rfl
    rw [this, show p + ((a + 1 : Nat) : Int) = p + 1 + a by omega]
    exact e5
theorem pr_left {n : Nat} {s s' t : Int × List Pm} (h : Qv n s s') (ht : SptL n t.2) : Qv n (pr n s t) (pr n s' t) := by
  obtain ⟨a, b, e, h⟩ := h
  refine ⟨a, b, by show s.1 + t.1 - a = s'.1 + t.1 - b; omega, ?_⟩
  have := (h.flN t.1).app ht
  rwa [flN_app, flN_app, reps_flN, reps_flN, List.append_assoc, List.append_assoc] at this
theorem pr_right {n : Nat} {s t t' : Int × List Pm} (h : Qv n t t') (hs : SptL n s.2) : Qv n (pr n s t) (pr n s t') := by
  obtain ⟨h1, h2⟩ := h.sup
  obtain ⟨a, b, e, h⟩ := h
  have key := fun (u : Int × List Pm) (hu : SptL n u.2) (c : Nat) => show Qv n (s.1 + (u.1 - c), flN n (u.1 - c) s.2 ++ (reps n c ++ u.2)) (pr n s u) from by
    have := reps_front (n := n) c (s.1 + (u.1 - c)) (hs.flN (u.1 - c)) hu
    rw [flN_flN, show (c : Int) + (u.1 - c) = u.1 by omega, show s.1 + (u.1 - c) + (c : Int) = s.1 + u.1 by omega] at this
    exact this
  have e2 := Qv.of (p := s.1 + (t.1 - a)) (h.pre (hs.flN (t.1 - a)))
  have e3 := key t' h2 b
  rw [← e] at e3
  exact (key t h1 a).symm.trans (e2.trans e3)
theorem pr_nfw {n : Nat} {w v : List Int} (hw : Val n w) (hv : Val n v) : Qv n (raw n (w ++ v)) (pr n (nfw n w) (nfw n v)) := by
  rw [raw_app]
  exact (pr_left (raw_nfw hw) (raw_nfw hv).sup.1).trans (pr_right (raw_nfw hv) (raw_nfw hw).sup.2)

/-! ### The way back -/
def Pm.rst (n : Nat) (p : Pm) : Pm := p.inv.mul (Pm.dl n)
theorem Spt.rst {n : Nat} {p : Pm} (h : Spt n p) : Spt n (p.rst n) := h.inv.mul (Spt.dl n)
theorem Pm.fl_rst (n : Nat) (p : Pm) : (p.rst n).fl n = (p.fl n).rst n := Pm.ext' fun i => by
  show dlf n (dlf n (p.g (dlf n i))) = dlf n (dlf n (p.g (dlf n i)))
  rfl
/-- The factors of the way back of a list with the half twist to the power p ahead of it. -/
def invf (n : Nat) (p : Int) : List Pm → List Pm
  | [] => []
  | f :: l => invf n (p + 1) l ++ flN n (p + 1) [f.rst n]
theorem invf_sup {n : Nat} : ∀ {l : List Pm} (p : Int), SptL n l → SptL n (invf n p l)
  | [], _, _ => SptL.nil n
  | f :: l, p, h => (invf_sup (p + 1) fun x hx => h x (by simp [hx])).app ((SptL.one (h f (by simp)).rst).flN _)
theorem rst_merge {n : Nat} {p : Pm} (h : Spt n p) : Eq' n [p, p.rst n] [Pm.dl n] := by
  have e := merge1 (n := n) (Rd.half h) h.rst
  rw [← Pm.mul_assoc, Pm.mul_inv, Pm.one_mul] at e
  exact (Eq'.of_star ((SptL.one h).app (SptL.one h.rst)) e).trans (Eq'.drop_ones (SptL.one (Spt.dl n)) 1)
/-- Letters of a list, and back. -/
theorem invf_back {n : Nat} : ∀ (N : Nat) (l : List Pm), l.length = N → ∀ (p : Int), SptL n l → Qv n (-(l.length : Int), flN n (-p - l.length) l ++ invf n p l) (0, [])
  | 0, l, hl, p, h => by
    obtain rfl := List.eq_nil_of_length_eq_zero hl
    have : flN n (-p - (([] : List Pm).length : Int)) ([] : List Pm) = [] := flN_nil _ _
    rw [this]
    exact Qv.refl (SptL.nil n)
  | N + 1, [], hl, p, h => by simp at hl
  | N + 1, f :: l, hl, p, h => by
    have hN : l.length = N := by simpa using hl
    have hf := h f (by simp)
    have hs : SptL n l := fun x hx => h x (by simp [hx])
    have ih := invf_back N l hN (p + 1) hs
    have h1 : SptL n (flN n (-(p + 1)) [f]) := (SptL.one hf).flN _
    have h2 : SptL n (flN n (p + 1) [f.rst n]) := (SptL.one hf.rst).flN _
    have e1 := pr_right (s := (-1, flN n (-(p + 1)) [f])) ih h1
    have e2 := pr_left (t := (0, flN n (p + 1) [f.rst n])) e1 h2
    rw [pr_one] at e2
    have e3 : pr n (pr n (-1, flN n (-(p + 1)) [f]) (-(l.length : Int), flN n (-(p + 1) - l.length) l ++ invf n (p + 1) l)) (0, flN n (p + 1) [f.rst n]) = (-((f :: l).length : Int), flN n (-p - (f :: l).length) (f :: l) ++ invf n p (f :: l)) := by
      unfold pr
      simp only [flN_zero, flN_flN]
      refine Prod.ext (by simp; omega) ?_
      show flN n (-(l.length : Int) + -(p + 1)) [f] ++ (flN n (-(p + 1) - l.length) l ++ invf n (p + 1) l) ++ flN n (p + 1) [f.rst n] = flN n (-p - ((f :: l).length : Int)) ([f] ++ l) ++ (invf n (p + 1) l ++ flN n (p + 1) [f.rst n])
      rw [flN_app, List.length_cons, show -p - ((l.length + 1 : Nat) : Int) = -(l.length : Int) + -(p + 1) by omega, show -(p + 1) - (l.length : Int) = -(l.length : Int) + -(p + 1) by omega]
      simp only [List.append_assoc]
    rw [e3] at e2
    refine e2.trans ?_
    have e4 : pr n (-1, flN n (-(p + 1)) [f]) (0, flN n (p + 1) [f.rst n]) = (-1, flN n (p + 1) [f, f.rst n]) := by
      unfold pr
      simp only [flN_zero]
      have : flN n (-(p + 1)) [f] = flN n (p + 1) [f] := by unfold flN; rw [show (-(p + 1)) % 2 = (p + 1) % 2 by omega]
      rw [this, ← flN_app]; rfl
    rw [e4]
    have e5 := (rst_merge hf).flN (p + 1)
    rw [show [Pm.dl n] = reps n 1 from rfl, reps_flN] at e5
    have e6 := Qv.up (n := n) (p := -1) (SptL.nil n)
    exact (Qv.of e5).trans e6
/-- The way back of a power and a list. -/
def nvi (n : Nat) (s : Int × List Pm) : Int × List Pm := (-s.1 - s.2.length, invf n s.1 s.2)
theorem nvi_sup {n : Nat} {s : Int × List Pm} (h : SptL n s.2) : SptL n (nvi n s).2 := invf_sup _ h
theorem pr_nvi {n : Nat} {s : Int × List Pm} (h : SptL n s.2) : Qv n (pr n s (nvi n s)) (0, []) := by
  have := invf_back _ s.2 rfl s.1 h
  unfold pr nvi
  rwa [show s.1 + (-s.1 - (s.2.length : Int)) = -(s.2.length : Int) by omega]
theorem nvi_pr {n : Nat} {s : Int × List Pm} (h : SptL n s.2) : Qv n (pr n (nvi n s) s) (0, []) := by
  have h1 := nvi_sup h
  have h2 := nvi_sup h1
  have e := pr_nvi h1
  -- s is the way back of its way back
  have e2 : Qv n s (nvi n (nvi n s)) := by
    have a := pr_right (s := s) e h
    rw [← pr_assoc, pr_one] at a
    have b := pr_left (t := nvi n (nvi n s)) (pr_nvi h) h2
    rw [one_pr] at b
    exact a.symm.trans b
  exact (pr_right e2 h1).trans e
theorem nvi_Qv {n : Nat} {s t : Int × List Pm} (hs : SptL n s.2) (ht : SptL n t.2) (h : Qv n (pr n s t) (0, [])) : Qv n (nvi n s) t := by
  have a := pr_right (s := nvi n s) h (nvi_sup hs)
  rw [← pr_assoc, pr_one] at a
  have b := pr_left (t := t) (nvi_pr hs) ht
  rw [one_pr] at b
  exact a.symm.trans b
end Go.Proofs.YtigffblelngpjaaDoor
/- Permutations as lists of numbers, and as functions. No program in sight. -/
namespace Go.Proofs.YtigffblelngpjaaDoor
set_option linter.unusedVariables false
set_option linter.unusedSimpArgs false

/-- A permutation of n strands. -/
structure PM (n : Nat) (xs : List Int) : Prop where
  ok : pok xs
  len : xs.length = n
def pmF (n : Nat) (xs : List Int) (i : Nat) : Nat := if 1 ≤ i ∧ i ≤ n then (gi xs (i - 1)).toNat else i
theorem pmF_in {n i : Nat} {xs : List Int} (h1 : 1 ≤ i) (h2 : i ≤ n) : pmF n xs i = (gi xs (i - 1)).toNat := if_pos ⟨h1, h2⟩
theorem pmF_out {n i : Nat} {xs : List Int} (h : i = 0 ∨ n < i) : pmF n xs i = i := if_neg (by omega)
theorem PM.inv {n : Nat} {xs : List Int} (h : PM n xs) : PM n (invL xs) := ⟨invL_pok h.ok, by rw [invL_len, h.len]⟩
theorem PM.bd {n : Nat} {xs : List Int} (h : PM n xs) {i : Nat} (h1 : 1 ≤ i) (h2 : i ≤ n) : 1 ≤ gi xs (i - 1) ∧ gi xs (i - 1) ≤ (n : Int) := by
  have := pok_bd h.ok h1 (by rw [h.len]; exact h2); rwa [h.len] at this
theorem pmF_bd {n : Nat} {xs : List Int} (h : PM n xs) {i : Nat} (h1 : 1 ≤ i) (h2 : i ≤ n) : 1 ≤ pmF n xs i ∧ pmF n xs i ≤ n := by
  have := h.bd h1 h2
  rw [pmF_in h1 h2]; omega
theorem pmF_back {n : Nat} {xs : List Int} (h : PM n xs) (i : Nat) : pmF n (invL xs) (pmF n xs i) = i := by
  by_cases hi : 1 ≤ i ∧ i ≤ n
  · have hb := h.bd hi.1 hi.2
    have e : pmF n xs i = (gi xs (i - 1)).toNat := pmF_in hi.1 hi.2
    have := invL_at h.ok (i := i - 1) (by rw [h.len]; omega)
    have hc := pmF_bd h hi.1 hi.2
    rw [pmF_in hc.1 hc.2, e, show (gi xs (i - 1)).toNat - 1 = (gi xs (i - 1) - 1).toNat by omega, this]; omega
  · rw [pmF_out (xs := xs) (i := i) (by omega), pmF_out (by omega)]
theorem pmF_forth {n : Nat} {xs : List Int} (h : PM n xs) (v : Nat) : pmF n xs (pmF n (invL xs) v) = v := by
  by_cases hv : 1 ≤ v ∧ v ≤ n
  · obtain ⟨i, hi, e⟩ := pok_hit h.ok (u := v - 1) (by rw [h.len]; omega)
    have e2 : pmF n xs (i + 1) = v := by rw [pmF_in (by omega) (by rw [← h.len]; omega), Nat.add_sub_cancel, e]; omega
    rw [← e2, pmF_back h]
  · rw [pmF_out (i := v) (by omega), pmF_out (by omega)]
noncomputable def pm (n : Nat) (xs : List Int) : Pm := open Classical in if h : PM n xs then ⟨pmF n xs, pmF n (invL xs), pmF_forth h, pmF_back h⟩ else Pm.one
theorem PM.f {n : Nat} {xs : List Int} (h : PM n xs) (i : Nat) : (pm n xs).f i = pmF n xs i := by unfold pm; rw [dif_pos h]
theorem PM.g {n : Nat} {xs : List Int} (h : PM n xs) (i : Nat) : (pm n xs).g i = pmF n (invL xs) i := by unfold pm; rw [dif_pos h]
theorem PM.spt {n : Nat} {xs : List Int} (h : PM n xs) : Spt n (pm n xs) := fun i hi => by rw [h.f, pmF_out hi]
theorem PM.eq {n : Nat} {xs ys : List Int} (h : PM n xs) (k : PM n ys) (e : pm n xs = pm n ys) : xs = ys := by
  refine gi_ext (by rw [h.len, k.len]) fun i hi => ?_
  rw [h.len] at hi
  have := congrArg (fun p => Pm.f p (i + 1)) e
  simp only [h.f, k.f] at this
  rw [pmF_in (by omega) (by omega), pmF_in (by omega) (by omega), Nat.add_sub_cancel] at this
  have a := h.bd (i := i + 1) (by omega) (by omega); have b := k.bd (i := i + 1) (by omega) (by omega)
  rw [Nat.add_sub_cancel] at a b
  omega
theorem PM.St {n k : Nat} {xs : List Int} (h : PM n xs) (h1 : 1 ≤ k) (h2 : k < n) : (pm n xs).St k ↔ gi xs k < gi xs (k - 1) := by
  unfold Pm.St
  rw [h.f, h.f, pmF_in (by omega) (by omega), pmF_in h1 (by omega), Nat.add_sub_cancel]
  have a := h.bd (i := k + 1) (by omega) (by omega); have b := h.bd h1 (by omega : k ≤ n)
  rw [Nat.add_sub_cancel] at a
  omega
theorem PM.En {n k : Nat} {xs : List Int} (h : PM n xs) (h1 : 1 ≤ k) (h2 : k < n) : (pm n xs).En k ↔ gi (invL xs) k < gi (invL xs) (k - 1) := by
  have := h.inv.St h1 h2
  unfold Pm.St at this
  unfold Pm.En
  rw [h.g, h.g, ← h.inv.f, ← h.inv.f]; exact this
/-- Made from a list that is known at each place. -/
theorem pm_mk {n : Nat} {xs : List Int} {p : Pm} (hp : Spt n p) (hl : xs.length = n) (h : ∀ i, 1 ≤ i → i ≤ n → gi xs (i - 1) = (p.f i : Int)) : PM n xs ∧ pm n xs = p := by
  have hPM : PM n xs := by
    refine ⟨pok_mk (fun i h1 h2 => ?_) fun i j h1 h2 h3 e => ?_, hl⟩
    · rw [hl] at h2 ⊢
      have := hp.in h1 h2
      rw [h i h1 h2]; omega
    · rw [hl] at h3
      rw [h i h1 (by omega), h j (by omega) h3] at e
      have := p.inj (Int.ofNat.inj e); omega
  refine ⟨hPM, Pm.ext' fun i => ?_⟩
  rw [hPM.f]
  by_cases hi : 1 ≤ i ∧ i ≤ n
  · rw [pmF_in hi.1 hi.2, h i hi.1 hi.2]; omega
  · rw [pmF_out (by omega), hp i (by omega)]
theorem PM.gif {n : Nat} {xs : List Int} (h : PM n xs) {i : Nat} (h1 : 1 ≤ i) (h2 : i ≤ n) : gi xs (i - 1) = ((pm n xs).f i : Int) := by
  have := h.bd h1 h2
  rw [h.f, pmF_in h1 h2]; omega
/-- The letter k ahead. -/
theorem PM.swL {n k : Nat} {xs : List Int} (h : PM n xs) (h1 : 1 ≤ k) (h2 : k < n) : PM n (swL xs k) ∧ pm n (swL xs k) = Pm.sl k (pm n xs) := by
  refine pm_mk ((Spt.s h1 h2).mul h.spt) (by rw [swL_len, h.len]) fun i i1 i2 => ?_
  rw [Pm.sl_f, swL_gi h1 (by rw [h.len]; exact h2)]
  by_cases e1 : i = k
  · subst e1
    rw [if_neg (by omega), if_pos rfl, sk_k, ← h.gif (by omega) (by omega), Nat.add_sub_cancel]
  · by_cases e2 : i = k + 1
    · subst e2
      rw [if_pos (by omega), sk_k1, ← h.gif h1 (by omega)]
    · rw [if_neg (by omega), if_neg (by omega), sk_of e1 e2, ← h.gif i1 i2]
/-- The letter k behind: values exchanged. -/
def vsw (xs : List Int) (k : Nat) : List Int := xs.map fun x => if x = (k : Int) then (k : Int) + 1 else if x = (k : Int) + 1 then (k : Int) else x
theorem vsw_len (xs : List Int) (k : Nat) : (vsw xs k).length = xs.length := by unfold vsw; simp
theorem vsw_gi {xs : List Int} {k i : Nat} (h : i < xs.length) : gi (vsw xs k) i = if gi xs i = (k : Int) then (k : Int) + 1 else if gi xs i = (k : Int) + 1 then (k : Int) else gi xs i := by
  unfold vsw
  rw [gi_of_lt (by simpa using h), List.getElem_map, gi_of_lt h]
theorem PM.vsw {n k : Nat} {xs : List Int} (h : PM n xs) (h1 : 1 ≤ k) (h2 : k < n) : PM n (vsw xs k) ∧ pm n (vsw xs k) = (pm n xs).sr k := by
  refine pm_mk (h.spt.sr h1 h2) (by rw [vsw_len, h.len]) fun i i1 i2 => ?_
  have hg := h.gif i1 i2
  rw [vsw_gi (by rw [h.len]; omega), hg, Pm.sr_f]
  unfold sk
  by_cases e1 : (pm n xs).f i = k
  · rw [if_pos (by omega), if_pos e1]; omega
  · by_cases e2 : (pm n xs).f i = k + 1
    · rw [if_neg (by omega), if_pos (by omega), if_neg e1, if_pos e2]
    · rw [if_neg (by omega), if_neg (by omega), if_neg e1, if_neg e2]
theorem PM.idL (n : Nat) : PM n (idL n) ∧ pm n (idL n) = Pm.one := by
  refine pm_mk (Spt.one n) (idL_len n) fun i i1 i2 => ?_
  rw [idL_gi (by omega)]
  show ((i - 1 : Nat) : Int) + 1 = (i : Int)
  omega
theorem PM.halfL (n : Nat) : PM n (halfL n) ∧ pm n (halfL n) = Pm.dl n := by
  refine pm_mk (Spt.dl n) (halfL_len n) fun i i1 i2 => ?_
  rw [halfL_gi (by omega)]
  show (n : Int) - ((i - 1 : Nat) : Int) = ((dlf n i : Nat) : Int)
  rw [dlf_in i1 i2]; omega
theorem upd_rev (new : Nat → Int) (m : Nat) : ∀ (n j : Nat), n ≤ m → j < n → upd (fun k => m - 1 - k) new n (m - 1 - j) = new j
  | 0, j, _, h => absurd h (Nat.not_lt_zero _)
  | n + 1, j, hn, h => by
    unfold upd
    by_cases e : j = n
    · subst e; rw [if_pos rfl]
    · rw [if_neg (by omega)]; exact upd_rev new m n j (by omega) (by omega)
theorem flipL_gi {xs : List Int} {j : Nat} (h : j < xs.length) : gi (flipL xs) j = (xs.length : Int) + 1 - gi xs (xs.length - 1 - j) := by
  unfold flipL
  rw [updL_gi h]
  have := upd_rev (fun k => (xs.length : Int) + 1 - gi xs k) xs.length xs.length (xs.length - 1 - j) (Nat.le_refl _) (by omega)
  rwa [show xs.length - 1 - (xs.length - 1 - j) = j by omega] at this
theorem PM.flipL {n : Nat} {xs : List Int} (h : PM n xs) : PM n (flipL xs) ∧ pm n (flipL xs) = (pm n xs).fl n := by
  refine pm_mk h.spt.fl (by rw [flipL_len, h.len]) fun i i1 i2 => ?_
  rw [flipL_gi (by rw [h.len]; omega), h.len, Pm.fl_f, dlf_in i1 i2]
  have hb := h.spt.in (show 1 ≤ n + 1 - i by omega) (by omega)
  rw [dlf_in hb.1 hb.2, show n - 1 - (i - 1) = n + 1 - i - 1 by omega, h.gif (by omega) (by omega)]; omega
theorem PM.restL {n : Nat} {xs ys : List Int} (h : PM n xs) (k : PM n ys) : PM n (restL xs ys) ∧ pm n (restL xs ys) = (pm n xs).inv.mul (pm n ys) := by
  refine pm_mk (h.spt.inv.mul k.spt) (by rw [restL_len, h.len]) fun i i1 i2 => ?_
  show _ = (((pm n ys).f ((pm n xs).g i) : Nat) : Int)
  have hb := h.spt.gin i1 i2
  have := restL_at (ys := ys) h.ok (i := (pm n xs).g i - 1) (by rw [h.len]; omega)
  rw [h.gif hb.1 hb.2, k.gif hb.1 hb.2, (pm n xs).fg] at this
  rw [← this]; congr 1; omega
/-- Lists of them. -/
def PML (n : Nat) (ls : List (List Int)) : Prop := ∀ x ∈ ls, PM n x
noncomputable def pms (n : Nat) (ls : List (List Int)) : List Pm := ls.map (pm n)
theorem PML.spt {n : Nat} {ls : List (List Int)} (h : PML n ls) : SptL n (pms n ls) := fun p hp => by
  obtain ⟨x, hx, rfl⟩ := List.mem_map.1 hp; exact (h x hx).spt
theorem PML.eq {n : Nat} : ∀ {ls ms : List (List Int)}, PML n ls → PML n ms → pms n ls = pms n ms → ls = ms
  | [], [], _, _, _ => rfl
  | [], _ :: _, _, _, e => by simp [pms] at e
  | _ :: _, [], _, _, e => by simp [pms] at e
  | x :: ls, y :: ms, h, k, e => by
    simp only [pms, List.map_cons, List.cons.injEq] at e
    rw [(h x (by simp)).eq (k y (by simp)) e.1, PML.eq (fun z hz => h z (by simp [hz])) (fun z hz => k z (by simp [hz])) e.2]
/-- A measure of what can still be moved. -/
def phi (n : Nat) : List Pm → Nat
  | [] => 0
  | p :: l => wt p n * 1000 ^ l.length + phi n l
theorem wt_le {n : Nat} {p : Pm} (h : Spt n p) : ∀ m, m ≤ n → wt p m ≤ m * (n * n)
  | 0, _ => by simp [wt]
  | m + 1, hm => by
    have ih := wt_le h m (by omega)
    have hb := (h.gin (show 1 ≤ m + 1 by omega) hm).2
    have : (m + 1) * p.g (m + 1) ≤ n * n := Nat.mul_le_mul hm hb
    rw [wt, Nat.succ_mul m (n * n)]
    exact Nat.add_le_add ih this
theorem wt_lt1000 {n : Nat} {p : Pm} (h : Spt n p) (h8 : n ≤ 8) : wt p n < 1000 := by
  have := wt_le h n (Nat.le_refl _)
  have h2 : n * (n * n) ≤ 8 * (8 * 8) := Nat.mul_le_mul h8 (Nat.mul_le_mul h8 h8)
  omega
theorem phi_lt {n : Nat} (h8 : n ≤ 8) : ∀ {l : List Pm}, SptL n l → phi n l < 1000 ^ l.length
  | [], _ => by simp [phi]
  | p :: l, h => by
    have ih := phi_lt h8 (l := l) fun x hx => h x (by simp [hx])
    have := wt_lt1000 (h p (by simp)) h8
    rw [phi, List.length_cons, Nat.pow_succ, Nat.mul_comm (1000 ^ l.length)]
    have h2 : wt p n * 1000 ^ l.length ≤ 999 * 1000 ^ l.length := Nat.mul_le_mul_right _ (by omega)
    omega
theorem phi_mv {n : Nat} (h8 : n ≤ 8) {l l' : List Pm} (hs : SptL n l) (h : Mv l l') : phi n l' < phi n l := by
  induction h with
  | here p q k rest h1 h2 =>
    have hq := hs q (by simp)
    have hlt := wt_lt h2 n (by have := (hq.St h1).2; omega)
    have hs' := hs.mv (.here p q k rest h1 h2)
    have hb := phi_lt h8 (l := Pm.sl k q :: rest) fun x hx => hs' x (by simp [hx])
    show wt (p.sr k) n * 1000 ^ (rest.length + 1) + phi n (Pm.sl k q :: rest) < wt p n * 1000 ^ (rest.length + 1) + phi n (q :: rest)
    have : (wt (p.sr k) n + 1) * 1000 ^ (rest.length + 1) ≤ wt p n * 1000 ^ (rest.length + 1) := Nat.mul_le_mul_right _ hlt
    rw [Nat.add_mul, Nat.one_mul] at this
    exact Nat.lt_of_lt_of_le (Nat.add_lt_add_left hb _) (Nat.le_trans this (Nat.le_add_right _ _))
  | tail p hm ih =>
    have := ih fun x hx => hs x (by simp [hx])
    rw [phi, phi, hm.len]; omega
end Go.Proofs.YtigffblelngpjaaDoor
/- Contracts of normals.list[uint8] with its closures: identity, half, clone. (Printed by gen_na.py.) -/
namespace Go.Proofs.YtigffblelngpjaaDoor
set_option linter.unusedVariables false
set_option linter.unusedSimpArgs false
set_option maxRecDepth 8000
open Go Go.RowKit

/-- Nothing but block q may have changed. -/
def But (q : Nat) (w w' : World) : Prop := w'.os = w.os ∧ w'.tape = w.tape ∧ w'.output = w.output ∧ w.heap.size ≤ w'.heap.size ∧ ∀ b, b < w.heap.size → b ≠ q → w'.heap[b]? = w.heap[b]?
theorem But.refl (q : Nat) (w : World) : But q w w := ⟨rfl, rfl, rfl, Nat.le_refl _, fun _ _ _ => rfl⟩
theorem But.drew {q : Nat} {w w' : World} (h : But q w w') : But q w w'.drew := h
theorem But.drewN {q : Nat} {w w' : World} (h : But q w w') (m : Nat) : But q w (w'.drewN m) := h
theorem But.set {q o : Nat} {w w' : World} (h : But q w w') (v : Value) : But q w (w'.setCell ⟨q, o, none⟩ v) := by
  obtain ⟨h1, h2, h3, h4, h5⟩ := h
  refine ⟨h1, h2, h3, by simpa [World.setCell] using h4, fun b hb hq => ?_⟩
  rw [Deep.blk_setCell_other _ _ _ _ hq]; exact h5 b hb hq
theorem But.ext {q : Nat} {w0 w w' : World} (h : But q w w') (x : Ext w0 w) (hq : w0.heap.size ≤ q) : Ext w0 w' :=
  ⟨h.1.trans x.os, h.2.1.trans x.tape, h.2.2.1.trans x.output, Nat.le_trans x.size h.2.2.2.1, fun b hb => (h.2.2.2.2 b (Nat.lt_of_lt_of_le hb x.size) (by omega)).trans (Below.block x b hb)⟩
/-- A block of the call's own holds these bytes. -/
def OB (w : World) (b : Nat) (xs : List Int) : Prop := w.rowIs b 5 xs.length fun i => .int .u8 (gi xs i)
theorem rowIs_to {w : World} {b n : Nat} {t : TypeId} {f g : Nat → Value} (h : w.rowIs b t n f) (hg : ∀ i, i < n → f i = g i) : w.rowIs b t n g := by
  obtain ⟨c, h1, h2, h3⟩ := h
  exact ⟨c, h1, h2, fun i hi => by rw [h3 i hi, hg i hi]⟩
theorem OB.ext {w w' : World} {b : Nat} {xs : List Int} (h : OB w b xs) (x : Ext w w') : OB w' b xs := x.row h
theorem OB.but {w w' : World} {b q : Nat} {xs : List Int} (h : OB w b xs) (x : But q w w') (hq : b ≠ q) : OB w' b xs := by
  obtain ⟨c, h1, h2⟩ := h
  exact ⟨c, by rw [x.2.2.2.2 b (Array.getElem?_eq_some_iff.1 h1).1 hq]; exact h1, h2⟩
theorem OB.is {w : World} {b : Nat} {xs : List Int} (h : OB w b xs) (hl : xs.length ≤ 1000000) : IS .u8 w (.slice (some ⟨b, 0, none⟩) xs.length xs.length) xs.length xs := IS.of_row h rfl (by unfold maxLen; omega) fun i hi => rfl
theorem OB.lt {w : World} {b : Nat} {xs : List Int} (h : OB w b xs) : b < w.heap.size := by obtain ⟨c, h1, _⟩ := h; exact (Array.getElem?_eq_some_iff.1 h1).1
/-- A fresh block is returned. -/
def RetB (w0 : World) (xs : List Int) (e : Ending) (w' : World) : Prop := ∃ b, e = .returned (.slice (some ⟨b, 0, none⟩) xs.length xs.length) ∧ OB w' b xs ∧ w0.heap.size ≤ b ∧ Ext w0 w'
theorem URow.ob {w wr : World} {n : Nat} {new : Nat → Int} {xs : List Int} (h : URow w wr n (fun k => k) new n) (hl : xs.length = n) (hx : ∀ i, i < n → gi xs i = new i) : OB wr w.heap.size xs ∧ Ext w wr := by
  obtain ⟨h1, f, h2, h3⟩ := h
  refine ⟨?_, h1⟩
  unfold OB
  rw [hl]
  exact rowIs_to h2 fun i hi => by rw [h3 i, upd_id new n i hi, hx i hi]

theorem Ident1_calls (i : Int)  (w : World) (hi : 0 ≤ i ∧ i ≤ 100) :
    Calls Tryd.prog 66 #[.int .i64 i] w fun e w' => e = .returned (.int .u8 (i + 1)) ∧ w' = w := by
  have w1 : IntKind.i64.wrap (i + 1) = i + 1 := IntWalk.i64_in _ ⟨by omega, by omega⟩
  have w2 : IntKind.u8.wrap (i + 1) = i + 1 := IntWalk.u8_in _ ⟨by omega, by omega⟩
  have w3 : (i + 1) % 256 = i + 1 := by omega
  go_enter Tryd.func66, Tryd.ntmps66
  go_wp2
  go_ret
  exact ⟨rfl, rfl⟩

theorem Half1_calls (i : Int) (B : Nat) (n : Int) (w : World) (hi : 0 ≤ i ∧ i ≤ n ∧ n ≤ 100) (hB : w.cell? ⟨B, 0, none⟩ = some (.int .i64 n)) :
    Calls Tryd.prog 67 #[.int .i64 i, .pointer (some ⟨B, 0, none⟩)] w fun e w' => e = .returned (.int .u8 (n - i)) ∧ w' = w := by
  have w1 : IntKind.i64.wrap (n - i) = n - i := IntWalk.i64_in _ ⟨by omega, by omega⟩
  have w2 : IntKind.u8.wrap (n - i) = n - i := IntWalk.u8_in _ ⟨by omega, by omega⟩
  have w3 : (n - i) % 256 = n - i := by omega
  go_enter Tryd.func67, Tryd.ntmps67
  go_wp2
  go_ret
  exact ⟨rfl, rfl⟩

theorem Clone1_calls (i : Int) (B b o N c : Nat) (k : Nat) (x : Int) (w : World) (hi : i = (k : Int)) (hk : k < N) (hB : w.cell? ⟨B, 0, none⟩ = some (.slice (some ⟨b, o, none⟩) N c)) (hx : w.cell? ⟨b, o + k, none⟩ = some (.int .u8 x)) :
    Calls Tryd.prog 73 #[.int .i64 i, .pointer (some ⟨B, 0, none⟩)] w fun e w' => e = .returned (.int .u8 (x)) ∧ w' = w := by
  subst hi
  have t1 : (k : Int) < N := by omega
  have t2 : (0 : Int) ≤ k := by omega
  go_enter Tryd.func73, Tryd.ntmps73
  go_wp2
  go_ret
  exact ⟨rfl, rfl⟩

set_option maxHeartbeats 1000000 in
theorem list_ident (n : Nat) (ys : List Int) (w : World) (hn : n ≤ 8) (hl : ys.length = n) (hy : ∀ i, i < n → gi ys i = (i : Int) + 1) :
    Calls Tryd.prog 65 #[.int .i64 n, .func (Fn.func 66) #[] #[]] w (RetB w ys) := by
  have hfin : ∀ wr, URow w wr n (fun k => k) (fun i => (i : Int) + 1) n → RetB w ys (.returned (.slice (some ⟨w.heap.size, 0, none⟩) n n)) wr := fun wr h => by
    obtain ⟨a, b⟩ := h.ob hl hy
    exact ⟨_, by rw [hl], a, Nat.le_refl _, b⟩
  have HFin := Lib.hid hfin; clear hfin hy hl
  have hmk := run_make_row' (P := Tryd.prog) 22 5 (.int .u8 0) 1 Tryd.underlying22 (by kernel_rfl) rfl .i64 .i64 n (by omega) (by omega)
  go_enter Tryd.func65, Tryd.ntmps65
  go_wp2
  go_loopw [6, 11] (fun _ i wr => ∃ k : Nat, k ≤ n ∧ i = .int .i64 k ∧ Hid (URow w wr n (fun k => k) (fun i => (i : Int) + 1) k)) (fun _ i _ => n - (intOf i).toNat)
  case atStart => exact ⟨0, Nat.zero_le _, rfl, Lib.hid (URow.start w n _ _)⟩
  case round =>
    obtain ⟨k, hk, rfl, H⟩ := hrel
    by_cases hlt : k < n
    · have t1 : (k : Int) < n := by omega
      have t1' : (0 : Int) ≤ k := by omega
      have hnx := H.out.next
      have HX := Lib.hid H.out.1
      obtain ⟨_, f, hrow, hf⟩ := H.out
      have hst := hrow.cell (i := k) hlt
      have hfz := hrow.frozen k
      rw [hf k] at hst
      have HNX := Lib.hid hnx
      clear hnx hrow hf
      go_wp2_with fail
      refine (Ident1_calls _ _ ⟨by omega, by omega⟩).mono ?_
      rintro e w1 ⟨rfl, rfl⟩
      go_wp2
      go_roundw
      case rel => exact ⟨k + 1, by omega, by go_num, HNX⟩
      case measure => simp [intOf]; omega
    · obtain rfl : k = n := by omega
      have t1 : ¬ (k : Int) < k := by omega
      go_wp2
      go_ret
      exact HFin.out _ H.out

set_option maxHeartbeats 1000000 in
theorem list_half (n : Nat) (B : Nat) (ys : List Int) (w : World) (hn : n ≤ 8) (hl : ys.length = n) (hy : ∀ i, i < n → gi ys i = (n : Int) - i) (hB : w.cell? ⟨B, 0, none⟩ = some (.int .i64 n)) :
    Calls Tryd.prog 65 #[.int .i64 n, .func (Fn.func 67) #[] #[.pointer (some ⟨B, 0, none⟩)]] w (RetB w ys) := by
  have hfin : ∀ wr, URow w wr n (fun k => k) (fun i => (n : Int) - i) n → RetB w ys (.returned (.slice (some ⟨w.heap.size, 0, none⟩) n n)) wr := fun wr h => by
    obtain ⟨a, b⟩ := h.ob hl hy
    exact ⟨_, by rw [hl], a, Nat.le_refl _, b⟩
  have HFin := Lib.hid hfin; clear hfin hy hl
  have hmk := run_make_row' (P := Tryd.prog) 22 5 (.int .u8 0) 1 Tryd.underlying22 (by kernel_rfl) rfl .i64 .i64 n (by omega) (by omega)
  have HB := Lib.hid hB; clear hB
  go_enter Tryd.func65, Tryd.ntmps65
  go_wp2
  go_loopw [6, 11] (fun _ i wr => ∃ k : Nat, k ≤ n ∧ i = .int .i64 k ∧ Hid (URow w wr n (fun k => k) (fun i => (n : Int) - i) k)) (fun _ i _ => n - (intOf i).toNat)
  case atStart => exact ⟨0, Nat.zero_le _, rfl, Lib.hid (URow.start w n _ _)⟩
  case round =>
    obtain ⟨k, hk, rfl, H⟩ := hrel
    by_cases hlt : k < n
    · have t1 : (k : Int) < n := by omega
      have t1' : (0 : Int) ≤ k := by omega
      have hnx := H.out.next
      have HX := Lib.hid H.out.1
      obtain ⟨_, f, hrow, hf⟩ := H.out
      have hst := hrow.cell (i := k) hlt
      have hfz := hrow.frozen k
      rw [hf k] at hst
      have HNX := Lib.hid hnx
      clear hnx hrow hf
      go_wp2_with fail
      refine (Half1_calls _ B n _ ⟨by omega, by omega, by omega⟩ (HX.out.cell HB.out)).mono ?_
      rintro e w1 ⟨rfl, rfl⟩
      go_wp2
      go_roundw
      case rel => exact ⟨k + 1, by omega, by go_num, HNX⟩
      case measure => simp [intOf]; omega
    · obtain rfl : k = n := by omega
      have t1 : ¬ (k : Int) < k := by omega
      go_wp2
      go_ret
      exact HFin.out _ H.out

set_option maxHeartbeats 1000000 in
theorem list_clone (n : Nat) (B b o c : Nat) (xs : List Int) (ys : List Int) (w : World) (hn : n ≤ 8) (hl : ys.length = n) (hy : ∀ i, i < n → gi ys i = gi xs i) (hB : w.cell? ⟨B, 0, none⟩ = some (.slice (some ⟨b, o, none⟩) n c)) (hx : ∀ i, i < n → w.cell? ⟨b, o + i, none⟩ = some (.int .u8 (gi xs i))) :
    Calls Tryd.prog 65 #[.int .i64 n, .func (Fn.func 73) #[] #[.pointer (some ⟨B, 0, none⟩)]] w (RetB w ys) := by
  have hfin : ∀ wr, URow w wr n (fun k => k) (fun i => gi xs i) n → RetB w ys (.returned (.slice (some ⟨w.heap.size, 0, none⟩) n n)) wr := fun wr h => by
    obtain ⟨a, b⟩ := h.ob hl hy
    exact ⟨_, by rw [hl], a, Nat.le_refl _, b⟩
  have HFin := Lib.hid hfin; clear hfin hy hl
  have hmk := run_make_row' (P := Tryd.prog) 22 5 (.int .u8 0) 1 Tryd.underlying22 (by kernel_rfl) rfl .i64 .i64 n (by omega) (by omega)
  have HB := Lib.hid hB; have HXs := Lib.hid hx; clear hB hx
  go_enter Tryd.func65, Tryd.ntmps65
  go_wp2
  go_loopw [6, 11] (fun _ i wr => ∃ k : Nat, k ≤ n ∧ i = .int .i64 k ∧ Hid (URow w wr n (fun k => k) (fun i => gi xs i) k)) (fun _ i _ => n - (intOf i).toNat)
  case atStart => exact ⟨0, Nat.zero_le _, rfl, Lib.hid (URow.start w n _ _)⟩
  case round =>
    obtain ⟨k, hk, rfl, H⟩ := hrel
    by_cases hlt : k < n
    · have t1 : (k : Int) < n := by omega
      have t1' : (0 : Int) ≤ k := by omega
      have hnx := H.out.next
      have HX := Lib.hid H.out.1
      obtain ⟨_, f, hrow, hf⟩ := H.out
      have hst := hrow.cell (i := k) hlt
      have hfz := hrow.frozen k
      rw [hf k] at hst
      have HNX := Lib.hid hnx
      clear hnx hrow hf
      go_wp2_with fail
      refine (Clone1_calls _ B b o n c k (gi xs k) _ rfl hlt (HX.out.cell HB.out) (HX.out.cell (HXs.out k hlt))).mono ?_
      rintro e w1 ⟨rfl, rfl⟩
      go_wp2
      go_roundw
      case rel => exact ⟨k + 1, by omega, by go_num, HNX⟩
      case measure => simp [intOf]; omega
    · obtain rfl : k = n := by omega
      have t1 : ¬ (k : Int) < k := by omega
      go_wp2
      go_ret
      exact HFin.out _ H.out

theorem Identity_calls (n : Nat) (w : World) (hn : n ≤ 8) : Calls Tryd.prog 34 #[.int .i64 n] w (RetB w (idL n)) := by
  have hc := list_ident n (idL n) w hn (idL_len n) (fun i hi => idL_gi hi)
  obtain ⟨L, hL⟩ : ∃ L, L = idL n := ⟨_, rfl⟩
  rw [← hL] at hc ⊢
  have HC := Lib.hid hc
  clear hc hL
  go_enter Tryd.func34, Tryd.ntmps34
  go_wp2_with fail
  refine HC.out.mono ?_
  rintro e w1 ⟨b, rfl, h1, h2, h3⟩
  have H := Lib.hid (And.intro h1 (And.intro h2 h3))
  clear h1 h2 h3 HC
  go_wp2
  go_ret
  exact ⟨b, rfl, H.out⟩
theorem Half_calls (n : Nat) (w : World) (hn : n ≤ 8) : Calls Tryd.prog 35 #[.int .i64 n] w (RetB w (halfL n)) := by
  obtain ⟨B, hB⟩ : ∃ B, B = w.alloc (.cells #[.int .i64 n] 3) := ⟨_, rfl⟩
  have xB : Ext w B := by rw [hB]; exact (Ext.refl w).alloc _
  have hb0 : B.cell? ⟨w.heap.size, 0, none⟩ = some (.int .i64 n) := by rw [hB, World.cell?_alloc_at (hn := rfl)]; rfl
  have hc := list_half n w.heap.size (halfL n) B hn (halfL_len n) (fun i hi => halfL_gi hi) hb0
  obtain ⟨L, hL⟩ : ∃ L, L = halfL n := ⟨_, rfl⟩
  rw [← hL] at hc ⊢
  have HC := Lib.hid hc; have HB := Lib.hid hB; have XB := Lib.hid xB
  have e0 := hb0
  rw [hB] at e0
  clear hc hL hB xB hb0
  go_enter Tryd.func35, Tryd.ntmps35
  go_wp2_with fail
  rw [← HB.out]
  refine HC.out.mono ?_
  rintro e w1 ⟨b, rfl, h1, h2, h3⟩
  have H := Lib.hid (And.intro h1 (And.intro (Nat.le_trans XB.out.size h2) (XB.out.trans h3)))
  clear h1 h2 h3 HC e0
  go_wp2
  go_ret
  exact ⟨b, rfl, H.out⟩
theorem Clone_calls (v : Value) (c : Nat) (xs : List Int) (w : World) (h : IS .u8 w v c xs) (h1 : 1 ≤ xs.length) (h8 : xs.length ≤ 8) : Calls Tryd.prog 47 #[v] w (RetB w xs) := by
  obtain ⟨_, _, ao, rfl, hao⟩ := h.open
  obtain ⟨b, o, rfl, hx⟩ : ∃ b o, ao = some ⟨b, o, none⟩ ∧ ∀ i, i < xs.length → w.cell? ⟨b, o + i, none⟩ = some (.int .u8 (gi xs i)) := by
    rcases hao with ⟨_, h0, _⟩ | h
    · omega
    · exact h
  obtain ⟨B, hB⟩ : ∃ B, B = w.alloc (.cells #[.slice (some ⟨b, o, none⟩) xs.length c] 22) := ⟨_, rfl⟩
  have xB : Ext w B := by rw [hB]; exact (Ext.refl w).alloc _
  have hb0 : B.cell? ⟨w.heap.size, 0, none⟩ = some (.slice (some ⟨b, o, none⟩) xs.length c) := by rw [hB, World.cell?_alloc_at (hn := rfl)]; rfl
  have hc := list_clone xs.length w.heap.size b o c xs xs B h8 rfl (fun i hi => rfl) hb0 (fun i hi => xB.cell (hx i hi))
  have hfin : ∀ e w1, RetB B xs e w1 → RetB w xs e w1 := fun e w1 ⟨q, h1, h2, h3, h4⟩ => ⟨q, h1, h2, Nat.le_trans xB.size h3, xB.trans h4⟩
  have HC := Lib.hid hc; have HB := Lib.hid hB; have HF := Lib.hid hfin
  have e0 := hb0
  rw [hB] at e0
  obtain ⟨N, hN⟩ : ∃ N, N = xs.length := ⟨_, rfl⟩
  rw [← hN] at HC HB e0 ⊢
  have HN := Lib.hid hN
  clear hc hB xB hb0 h hx hfin hN h1 h8
  go_enter Tryd.func47, Tryd.ntmps47
  go_wp2_with fail
  rw [← HB.out]
  refine HC.out.mono ?_
  intro e w1 hr
  have hr2 := HF.out e w1 hr
  obtain ⟨q, rfl, h2, h3, h4⟩ := hr2
  have H := Lib.hid (And.intro h2 (And.intro h3 h4))
  clear h2 h3 h4 hr HC e0
  go_wp2
  go_ret
  exact ⟨q, rfl, H.out⟩
end Go.Proofs.YtigffblelngpjaaDoor
/- Contracts of normals.exchange, starts. -/
namespace Go.Proofs.YtigffblelngpjaaDoor
set_option linter.unusedVariables false
set_option linter.unusedSimpArgs false
set_option maxRecDepth 8000
open Go Go.RowKit

/-- The first k values exchanged. -/
def vswTo (xs : List Int) (q k : Nat) (i : Nat) : Int := if i < k then gi (vsw xs q) i else gi xs i
set_option maxHeartbeats 2000000 in
theorem Exchange_calls (b q : Nat) (xs : List Int) (w : World) (h : OB w b xs) (hn : xs.length ≤ 8) (hq : 1 ≤ q ∧ q < xs.length) (hb : ∀ i, i < xs.length → 1 ≤ gi xs i ∧ gi xs i ≤ 8) :
    Calls Tryd.prog 33 #[.slice (some ⟨b, 0, none⟩) xs.length xs.length, .int .i64 q] w fun e w' => e = .returned (.slice (some ⟨b, 0, none⟩) xs.length xs.length) ∧ OB w' b (vsw xs q) ∧ But b w w' := by
  obtain ⟨N, hN⟩ : ∃ N, N = xs.length := ⟨_, rfl⟩
  have hgi := fun i (hi : i < N) => vsw_gi (xs := xs) (k := q) (i := i) (by rw [← hN]; exact hi)
  have h0 : w.rowIs b 5 N (fun i => .int .u8 (vswTo xs q 0 i)) := by
    unfold OB at h; rw [← hN] at h
    exact rowIs_to h fun i hi => by unfold vswTo; rw [if_neg (by omega)]
  have hend : ∀ w', w'.rowIs b 5 N (fun i => .int .u8 (vswTo xs q N i)) → OB w' b (vsw xs q) := fun w' h' => by
    unfold OB; rw [vsw_len, ← hN]
    exact rowIs_to h' fun i hi => by unfold vswTo; rw [if_pos hi]
  rw [← hN] at hn hq hb ⊢
  have Hb := Lib.hid hb; have HG := Lib.hid hgi; have H0 := Lib.hid h0; have HE := Lib.hid hend
  have hq1 : (1 : Int) ≤ q := by omega
  have w1 : IntKind.i64.wrap ((q : Int) + 1) = (q : Int) + 1 := IntWalk.i64_in _ ⟨by omega, by omega⟩
  have w2 : IntKind.u8.wrap ((q : Int) + 1) = (q : Int) + 1 := IntWalk.u8_in _ ⟨by omega, by omega⟩
  have w3 : IntKind.u8.wrap (q : Int) = (q : Int) := IntWalk.u8_in _ ⟨by omega, by omega⟩
  have w4 : ((q : Int) + 1) % 256 = (q : Int) + 1 := by omega
  have w5 : (q : Int) % 256 = (q : Int) := by omega
  clear h hN hgi h0 hend hb
  go_enter Tryd.func33, Tryd.ntmps33
  go_wp2
  go_loopw [5, 6, 9, 15, 16, 25] (fun _ _ i _ _ _ wr => ∃ k : Nat, k ≤ N ∧ i = .int .i64 k ∧ Hid (wr.rowIs b 5 N (fun i => .int .u8 (vswTo xs q k i)) ∧ But b w wr)) (fun _ _ i _ _ _ _ => N - (intOf i).toNat)
  case atStart => exact ⟨0, Nat.zero_le _, rfl, Lib.hid ⟨H0.out, But.refl _ _⟩⟩
  case round =>
    obtain ⟨k, hk, rfl, H⟩ := hrel
    by_cases hlt : k < N
    · have t1 : (k : Int) < N := by omega
      have t1' : (0 : Int) ≤ k := by omega
      have hck := H.out.1.cell (i := k) hlt
      have hfz := H.out.1.frozen k
      have hnx := HG.out k hlt
      have hbk := Hb.out k hlt
      rw [show vswTo xs q k k = gi xs k by unfold vswTo; rw [if_neg (by omega)]] at hck
      obtain ⟨x, hx⟩ : ∃ x, x = gi xs k := ⟨_, rfl⟩
      rw [← hx] at hck hnx hbk
      have c1 : IntKind.i64.wrap x = x := IntWalk.i64_in _ ⟨by omega, by omega⟩
      have HK := Lib.hid (show ∀ (f : Nat → Value) (w' : World), w'.rowIs b 5 N f → (∀ i, i < N → i ≠ k → f i = .int .u8 (vswTo xs q k i)) → f k = .int .u8 (gi (vsw xs q) k) → w'.rowIs b 5 N (fun i => .int .u8 (vswTo xs q (k + 1) i)) from fun f w' hr h1 h2 => rowIs_to hr fun i hi => by
        by_cases e : i = k
        · rw [e, h2]; unfold vswTo; rw [if_pos (by omega)]
        · rw [h1 i hi e]; unfold vswTo
          by_cases e2 : i < k
          · rw [if_pos e2, if_pos (by omega)]
          · rw [if_neg e2, if_neg (by omega)])
      have hset := fun v => H.out.1.set k v
      have HB := Lib.hid H.out.2
      by_cases e1 : x = q
      · have t2 : (x == (q : Int)) = true := by rw [e1]; exact beq_self_eq_true _
        rw [if_pos e1] at hnx
        have HN := Lib.hid (show (wr.setCell ⟨b, k, none⟩ (.int .u8 ((q : Int) + 1))).rowIs b 5 N (fun i => .int .u8 (vswTo xs q (k + 1) i)) ∧ But b w (wr.setCell ⟨b, k, none⟩ (.int .u8 ((q : Int) + 1))) from
          ⟨HK.out _ _ (hset _) (fun i hi hne => by simp [hne]) (by simp [hnx]), HB.out.set _⟩)
        clear hset hnx hx hbk e1
        go_wp2
        go_roundw
        case rel => exact ⟨k + 1, by omega, by go_num, HN⟩
        case measure => simp [intOf]; omega
      · have t2 : (x == (q : Int)) = false := beq_eq_false_iff_ne.2 e1
        rw [if_neg e1] at hnx
        by_cases e2 : x = q + 1
        · have t3 : (x == (q : Int) + 1) = true := by rw [e2]; exact beq_self_eq_true _
          rw [if_pos e2] at hnx
          have HN := Lib.hid (show (wr.setCell ⟨b, k, none⟩ (.int .u8 (q : Int))).rowIs b 5 N (fun i => .int .u8 (vswTo xs q (k + 1) i)) ∧ But b w (wr.setCell ⟨b, k, none⟩ (.int .u8 (q : Int))) from
            ⟨HK.out _ _ (hset _) (fun i hi hne => by simp [hne]) (by simp [hnx]), HB.out.set _⟩)
          clear hset hnx hx hbk e1 e2
          go_wp2
          go_roundw
          case rel => exact ⟨k + 1, by omega, by go_num, HN⟩
          case measure => simp [intOf]; omega
        · have t3 : (x == (q : Int) + 1) = false := beq_eq_false_iff_ne.2 e2
          rw [if_neg e2] at hnx
          have HN := Lib.hid (show wr.rowIs b 5 N (fun i => .int .u8 (vswTo xs q (k + 1) i)) ∧ But b w wr from
            ⟨HK.out _ _ H.out.1 (fun i hi hne => rfl) (by rw [hnx, hx]; unfold vswTo; rw [if_neg (by omega)]), HB.out⟩)
          clear hset hnx hx hbk e1 e2
          go_wp2
          go_roundw
          case rel => exact ⟨k + 1, by omega, by go_num, HN⟩
          case measure => simp [intOf]; omega
    · obtain rfl : k = N := by omega
      have t1 : ¬ (k : Int) < k := by omega
      go_wp2
      go_ret
      exact ⟨rfl, HE.out _ H.out.1, H.out.2⟩
/-- The set of the letters k, 1 to m, with p k: a bit for each. -/
def setN (p : Nat → Bool) : Nat → Nat
  | 0 => 0
  | m + 1 => setN p m + if p (m + 1) then 2 ^ m else 0
theorem setN_lt (p : Nat → Bool) : ∀ m, setN p m < 2 ^ m
  | 0 => by simp [setN]
  | m + 1 => by
    have := setN_lt p m
    rw [setN, Nat.pow_succ]
    split <;> omega
theorem setN_bit (p : Nat → Bool) : ∀ m i, (setN p m).testBit i = (decide (i < m) && p (i + 1))
  | 0, i => by simp [setN]
  | m + 1, i => by
    have hlt := setN_lt p m
    have ih := setN_bit p m
    rw [setN]
    rcases Nat.lt_trichotomy i m with h | h | h
    · have e : (setN p m + if p (m + 1) then 2 ^ m else 0).testBit i = (setN p m).testBit i := by
        split
        · rw [Nat.add_comm, Nat.testBit_two_pow_add_gt h]
        · rw [Nat.add_zero]
      rw [e, ih i]; simp [h, show i < m + 1 by omega]
    · subst h
      have e0 : (setN p i).testBit i = false := Nat.testBit_lt_two_pow hlt
      by_cases hp : p (i + 1) = true
      · rw [if_pos hp, Nat.add_comm, Nat.testBit_two_pow_add_eq, e0]; simp [hp]
      · rw [if_neg hp, Nat.add_zero, e0]; simp [hp]
    · have h2 : setN p m + (if p (m + 1) then 2 ^ m else 0) < 2 ^ i := by
        have : 2 ^ (m + 1) ≤ 2 ^ i := Nat.pow_le_pow_right (by omega) (by omega)
        rw [Nat.pow_succ] at this
        split <;> omega
      rw [Nat.testBit_lt_two_pow h2]; simp [show ¬ i < m + 1 by omega]
theorem setN_congr {p q : Nat → Bool} : ∀ {m : Nat}, (∀ k, 1 ≤ k → k ≤ m → p k = q k) → setN p m = setN q m
  | 0, _ => rfl
  | m + 1, h => by rw [setN, setN, setN_congr fun k h1 h2 => h k h1 (by omega), h (m + 1) (by omega) (by omega)]
theorem setN_zero {p : Nat → Bool} {m : Nat} : setN p m = 0 ↔ ∀ k, 1 ≤ k → k ≤ m → p k = false := by
  constructor
  · intro h k h1 h2
    have := setN_bit p m (k - 1)
    rw [h, Nat.zero_testBit, show k - 1 + 1 = k by omega] at this
    simpa [show k - 1 < m by omega] using this.symm
  · intro h
    rw [setN_congr (q := fun _ => false) h]
    clear h
    induction m with
    | zero => rfl
    | succ m ih => rw [setN, ih]; rfl
theorem setN_all {p : Nat → Bool} {m : Nat} : setN p m = setN (fun _ => true) m ↔ ∀ k, 1 ≤ k → k ≤ m → p k = true := by
  constructor
  · intro h k h1 h2
    have a := setN_bit p m (k - 1)
    have b := setN_bit (fun _ => true) m (k - 1)
    rw [h, b, show k - 1 + 1 = k by omega] at a
    simpa [show k - 1 < m by omega] using a.symm
  · intro h; exact setN_congr h
theorem setN_true : ∀ m, setN (fun _ => true) m + 1 = 2 ^ m
  | 0 => rfl
  | m + 1 => by rw [setN, if_pos rfl, Nat.pow_succ]; have := setN_true m; omega
theorem or8 : ∀ j : Fin 7, ∀ S : Fin 128, S.val < 2 ^ j.val → bits .or .u8 (S.val : Int) ((2 : Int) ^ j.val % 256) = ((S.val + 2 ^ j.val : Nat) : Int) := by decide +kernel
theorem andNot8 : ∀ A B : Fin 128, bits .andNot .u8 (A.val : Int) (B.val : Int) = ((A.val ^^^ (A.val &&& B.val) : Nat) : Int) := by decide +kernel
theorem tz8 : ∀ S : Fin 128, S.val ≠ 0 → Nat.testBit S.val (Lib.trailingZeros8 S.val) = true ∧ Lib.trailingZeros8 S.val < 7 := by decide +kernel
theorem setN_128 (p : Nat → Bool) {m : Nat} (h : m ≤ 7) : setN p m < 128 := Nat.lt_of_lt_of_le (setN_lt p m) (Nat.le_trans (Nat.pow_le_pow_right (by omega) h) (by decide))
theorem setN_or {p : Nat → Bool} {j : Nat} (hj : j ≤ 6) : bits .or .u8 ((setN p j : Nat) : Int) ((2 : Int) ^ j % 256) = ((setN p j + 2 ^ j : Nat) : Int) :=
  or8 ⟨j, by omega⟩ ⟨setN p j, setN_128 p (by omega)⟩ (setN_lt p j)
theorem setN_andNot {p q : Nat → Bool} {m : Nat} (h : m ≤ 7) : bits .andNot .u8 ((setN p m : Nat) : Int) ((setN q m : Nat) : Int) = ((setN (fun k => p k && !q k) m : Nat) : Int) := by
  have := andNot8 ⟨setN p m, setN_128 p h⟩ ⟨setN q m, setN_128 q h⟩
  rw [this]
  congr 1
  refine Nat.eq_of_testBit_eq fun i => ?_
  rw [Nat.testBit_xor, Nat.testBit_and, setN_bit, setN_bit, setN_bit]
  cases decide (i < m) <;> cases p (i + 1) <;> cases q (i + 1) <;> rfl
theorem setN_tz {p : Nat → Bool} {m : Nat} (h : m ≤ 7) (hne : setN p m ≠ 0) : ∃ k : Nat, 1 ≤ k ∧ k ≤ m ∧ p k = true ∧ Lib.trailingZeros8 (setN p m) + 1 = k := by
  obtain ⟨h1, h2⟩ := tz8 ⟨setN p m, setN_128 p h⟩ hne
  simp only at h1 h2
  rw [setN_bit] at h1
  simp only [Bool.and_eq_true, decide_eq_true_eq] at h1
  exact ⟨_, by omega, by omega, h1.2, rfl⟩
set_option maxHeartbeats 2000000 in
theorem Starts8_calls (v : Value) (c : Nat) (xs : List Int) (w : World) (h : IS .u8 w v c xs) (h1 : 1 ≤ xs.length) (h8 : xs.length ≤ 8) :
    Calls Tryd.prog 54 #[v] w fun e w' => e = .returned (.int .u8 (setN (fallB xs) (xs.length - 1) : Nat)) ∧ Ext w w' := by
  obtain ⟨_, _, ao, rfl, hao⟩ := h.open
  obtain ⟨b, o, rfl, hx⟩ : ∃ b o, ao = some ⟨b, o, none⟩ ∧ ∀ i, i < xs.length → w.cell? ⟨b, o + i, none⟩ = some (.int .u8 (gi xs i)) := by
    rcases hao with ⟨_, h0, _⟩ | h
    · omega
    · exact h
  obtain ⟨N, hN⟩ : ∃ N, N = xs.length := ⟨_, rfl⟩
  rw [← hN] at hx h1 h8 ⊢
  have HX := Lib.hid hx
  clear h hx hN
  go_enter Tryd.func54, Tryd.ntmps54
  go_wp2
  go_loopw [3, 4] (fun s i wr => ∃ k : Nat, 1 ≤ k ∧ k ≤ N ∧ i = .int .i64 k ∧ s = .int .u8 (setN (fallB xs) (k - 1) : Nat) ∧ Hid (Ext w wr)) (fun _ i _ => N - (intOf i).toNat)
  case atStart => exact ⟨1, by omega, h1, rfl, rfl, Lib.hid (Ext.refl w)⟩
  case round =>
    obtain ⟨k, hk1, hk, rfl, rfl, HE⟩ := hrel
    by_cases hlt : k < N
    · obtain ⟨j, rfl⟩ : ∃ j, k = j + 1 := ⟨k - 1, by omega⟩
      have t1 : ((j + 1 : Nat) : Int) < N := by omega
      have t2 : ((j + 1 : Nat) : Int) - 1 = (j : Int) := by omega
      have t3 : (0 : Int) ≤ j := by omega
      have t4 : (j : Int) < N := by omega
      have t5 : (0 : Int) ≤ ((j + 1 : Nat) : Int) := by omega
      have w1 : IntKind.i64.wrap (((j + 1 : Nat) : Int) - 1) = (j : Int) := by rw [t2]; exact IntWalk.i64_in _ ⟨by omega, by omega⟩
      have q0_1 := HE.out.cell (HX.out j (by omega)); have q0_2 := HE.out.cell (HX.out (j + 1) hlt)
      obtain ⟨x, hx⟩ : ∃ x, x = gi xs j := ⟨_, rfl⟩
      obtain ⟨y, hy⟩ : ∃ y, y = gi xs (j + 1) := ⟨_, rfl⟩
      rw [← hx] at q0_1; rw [← hy] at q0_2
      have hf : fallB xs (j + 1) = decide (y < x) := by unfold fallB; rw [Nat.add_sub_cancel, hx, hy]
      have hs : setN (fallB xs) (j + 1 + 1 - 1) = setN (fallB xs) j + if decide (y < x) = true then 2 ^ j else 0 := by
        rw [Nat.add_sub_cancel, setN, hf]
      have HS := Lib.hid hs; have HO := Lib.hid (setN_or (p := fallB xs) (show j ≤ 6 by omega))
      rw [Nat.add_sub_cancel]
      obtain ⟨S, hS⟩ : ∃ S, S = setN (fallB xs) j := ⟨_, rfl⟩
      rw [← hS] at HS HO ⊢
      clear hx hy hf hS hs
      by_cases hyx : y < x
      · go_wp2
        go_quiet (fail)
        go_wp2
        go_roundw
        case rel => exact ⟨j + 1 + 1, by omega, by omega, by go_num, by rw [HO.out, HS.out, if_pos (decide_eq_true hyx)], by first | exact HE | exact Lib.hid (HE.out.drewN _)⟩
        case measure => simp [intOf]; omega
      · go_wp2
        go_quiet (fail)
        go_wp2
        go_roundw
        case rel => exact ⟨j + 1 + 1, by omega, by omega, by go_num, by rw [HS.out, if_neg (by simpa using hyx), Nat.add_zero], by first | exact HE | exact Lib.hid (HE.out.drewN _)⟩
        case measure => simp [intOf]; omega
    · obtain rfl : k = N := by omega
      have t1 : ¬ (k : Int) < k := by omega
      go_wp2
      go_ret
      exact ⟨rfl, HE.out⟩
theorem Letters_calls (n : Nat) (w : World) (h1 : 1 ≤ n) (h8 : n ≤ 8) : Calls Tryd.prog 55 #[.int .i64 n] w fun e w' => e = .returned (.int .u8 (setN (fun _ => true) (n - 1) : Nat)) ∧ w' = w := by
  have hs := setN_true (n - 1)
  obtain ⟨S, hS⟩ : ∃ S, S = setN (fun _ => true) (n - 1) := ⟨_, rfl⟩
  rw [← hS] at hs ⊢
  obtain ⟨j, rfl⟩ : ∃ j, n = j + 1 := ⟨n - 1, by omega⟩
  rw [Nat.add_sub_cancel] at hs
  have t2 : ((j + 1 : Nat) : Int) - 1 = (j : Int) := by omega
  have w1 : IntKind.i64.wrap (((j + 1 : Nat) : Int) - 1) = (j : Int) := by rw [t2]; exact IntWalk.i64_in _ ⟨by omega, by omega⟩
  have t3 : (0 : Int) ≤ j := by omega
  have hv : ((S : Nat) : Int) = (2 ^ j % 256 - 1) % 256 := by
    rcases (show j = 0 ∨ j = 1 ∨ j = 2 ∨ j = 3 ∨ j = 4 ∨ j = 5 ∨ j = 6 ∨ j = 7 by omega) with rfl | rfl | rfl | rfl | rfl | rfl | rfl | rfl <;> simp at hs ⊢ <;> omega
  have HV := Lib.hid hv
  clear hS hs hv
  go_enter Tryd.func55, Tryd.ntmps55
  go_wp2
  go_ret
  exact ⟨by rw [HV.out]; rfl, rfl⟩
end Go.Proofs.YtigffblelngpjaaDoor
