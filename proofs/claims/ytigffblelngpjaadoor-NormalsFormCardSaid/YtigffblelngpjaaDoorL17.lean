/- Texts of this claim in one file: libraries and walks. -/
import Derived.Test.YtigffblelngpjaaDoorL13
/- Words of permutations and of normal forms: all words of a permutation with as few letters as possible are words of the same braid, and so are a word and the word of its normal form. No program in sight. -/
namespace Go.Proofs.YtigffblelngpjaaDoor
set_option linter.unusedVariables false
set_option linter.unusedSimpArgs false

/-- A word of a permutation: each letter is one that the rest begins with. -/
inductive Wd : Pm → List Int → Prop
  | nil : Wd Pm.one []
  | cons (p : Pm) (k : Nat) (w : List Int) : p.St k → Wd (Pm.sl k p) w → Wd p ((k : Int) :: w)
theorem wb_nat {n k : Nat} (h1 : 1 ≤ k) (h2 : k < n) : wbad n (k : Int) = false := wbad_not (by omega) (by omega) (by omega)
theorem Wd.val {n : Nat} {p : Pm} {w : List Int} (h : Wd p w) (hp : Spt n p) : Val n w := by
  induction h with
  | nil => exact Val.nil _
  | cons p k w hk _ ih => exact Val.cons (wb_nat (hp.St hk).1 (hp.St hk).2) (ih (hp.sl hk))
theorem wt_sl {n k : Nat} {p : Pm} (hp : Spt n p) (h : p.St k) : wt p.inv n < wt (Pm.sl k p).inv n := by
  have e : p.inv = (Pm.sl k p).inv.sr k := Pm.ext' fun i => by
    show p.g i = sk k (sk k (p.g i))
    rw [sk_sk]
  have hne : ¬ (Pm.sl k p).inv.En k := Pm.sl_St h
  have := wt_lt hne n (by have := (hp.St h).2; omega)
  rwa [← e] at this
theorem Wd.ex {n : Nat} : ∀ (N : Nat) (p : Pm), Spt n p → n * (n * n) - wt p.inv n ≤ N → ∃ w, Wd p w := by
  intro N
  induction N with
  | zero =>
    intro p hp hN
    by_cases hex : ∃ k, p.St k
    · obtain ⟨k, hk⟩ := hex
      have h1 := wt_sl hp hk
      have h2 := wt_le (hp.sl hk).inv n (Nat.le_refl _)
      omega
    · have := hp.no fun k hk => hex ⟨k, hk⟩
      subst this; exact ⟨[], .nil⟩
  | succ N ih =>
    intro p hp hN
    by_cases hex : ∃ k, p.St k
    · obtain ⟨k, hk⟩ := hex
      have h1 := wt_sl hp hk
      have h2 := wt_le (hp.sl hk).inv n (Nat.le_refl _)
      obtain ⟨w, hw⟩ := ih (Pm.sl k p) (hp.sl hk) (by omega)
      exact ⟨_, .cons p k w hk hw⟩
    · have := hp.no fun k hk => hex ⟨k, hk⟩
      subst this; exact ⟨[], .nil⟩
theorem Wd.ex' {n : Nat} {p : Pm} (hp : Spt n p) : ∃ w, Wd p w := Wd.ex _ p hp (Nat.le_refl _)
theorem Wd.one {w : List Int} (h : Wd Pm.one w) : w = [] := by
  cases h with
  | nil => rfl
  | cons _ k w hk _ => exact (one_St k hk).elim
theorem Br.cons {n k : Int} {x y : List Int} (h : Br n x y) (hk : wbad n k = false) : Br n (k :: x) (k :: y) := h.left (p := [k]) (Val.cons hk (Val.nil n))
theorem St_far {p : Pm} {j k : Nat} (h : j + 2 ≤ k ∨ k + 2 ≤ j) (hk : p.St k) : (Pm.sl j p).St k := by
  unfold Pm.St at *
  rw [Pm.sl_f, Pm.sl_f, sk_of (by omega) (by omega), sk_of (by omega) (by omega)]; exact hk
/-- All words of a permutation are words of the same braid, and equally long. -/
theorem Wd.same {n : Nat} : ∀ (N : Nat) (p : Pm) (u v : List Int), Spt n p → u.length ≤ N → Wd p u → Wd p v → Br n u v ∧ u.length = v.length := by
  intro N
  induction N with
  | zero =>
    intro p u v hp hN hu hv
    obtain rfl : u = [] := List.eq_nil_of_length_eq_zero (by omega)
    cases hu with
    | nil => rw [hv.one]; exact ⟨Br.refl _ _, rfl⟩
  | succ N ih =>
    intro p u v hp hN hu hv
    cases hu with
    | nil => rw [hv.one]; exact ⟨Br.refl _ _, rfl⟩
    | cons _ j u hj hu =>
      cases hv with
      | nil => exact (one_St j hj).elim
      | cons _ k v hk hv =>
        have bj := hp.St hj; have bk := hp.St hk
        have wj := wb_nat bj.1 bj.2; have wk := wb_nat bk.1 bk.2
        have hN' : u.length ≤ N := by simpa using hN
        by_cases e : j = k
        · subst e
          obtain ⟨a, b⟩ := ih _ u v (hp.sl hj) hN' hu hv
          exact ⟨a.cons wj, by simp [b]⟩
        by_cases far : j + 2 ≤ k ∨ k + 2 ≤ j
        · have h1 : (Pm.sl j p).St k := St_far far hk
          have h2 : (Pm.sl k p).St j := St_far (by omega) hj
          have ec : Pm.sl k (Pm.sl j p) = Pm.sl j (Pm.sl k p) := Pm.ext' fun i => by
            show p.f (sk j (sk k i)) = p.f (sk k (sk j i))
            rcases far with f | f
            · rw [sk_far f]
            · rw [sk_far f]
          obtain ⟨x, hx⟩ := Wd.ex' ((hp.sl hj).sl h1)
          obtain ⟨a1, l1⟩ := ih _ u ((k : Int) :: x) (hp.sl hj) hN' hu (.cons _ k x h1 hx)
          have hx2 : Wd (Pm.sl k p) ((j : Int) :: x) := .cons _ j x h2 (by rw [← ec]; exact hx)
          have l1' : u.length = x.length + 1 := by simpa using l1
          obtain ⟨a2, l2⟩ := ih _ ((j : Int) :: x) v (hp.sl hk) (by simp; omega) hx2 hv
          have l2' : x.length + 1 = v.length := by simpa using l2
          have hf : Br n [(j : Int), (k : Int)] [(k : Int), (j : Int)] := Br.far wj wk (by omega)
          exact ⟨(a1.cons wj).trans ((hf.right x).trans (a2.cons wk)), by simp; omega⟩
        · have near : ∀ {j k : Nat} {u v : List Int}, k = j + 1 → p.St j → p.St k → Wd (Pm.sl j p) u → Wd (Pm.sl k p) v → u.length ≤ N ∨ v.length ≤ N → Br n ((j : Int) :: u) ((k : Int) :: v) ∧ u.length = v.length := fun {j k u v} hjk hj hk hu hv hl => by
            subst hjk
            have bj := hp.St hj; have bk := hp.St hk
            have wj := wb_nat bj.1 bj.2; have wk := wb_nat bk.1 bk.2
            have s1 : (Pm.sl j p).St (j + 1) := by
              unfold Pm.St at *; rw [Pm.sl_f, Pm.sl_f, sk_k1, sk_of (show j + 1 + 1 ≠ j by omega) (by omega)]; omega
            have s2 : (Pm.sl (j + 1) (Pm.sl j p)).St j := by
              unfold Pm.St at *; rw [Pm.sl_f, Pm.sl_f, Pm.sl_f, Pm.sl_f, sk_k, sk_of (show j ≠ j + 1 by omega) (by omega), sk_k, sk_of (show j + 1 + 1 ≠ j by omega) (by omega)]; omega
            have t1 : (Pm.sl (j + 1) p).St j := by
              unfold Pm.St at *; rw [Pm.sl_f, Pm.sl_f, sk_k, sk_of (show j ≠ j + 1 by omega) (by omega)]; omega
            have t2 : (Pm.sl j (Pm.sl (j + 1) p)).St (j + 1) := by
              unfold Pm.St at *; rw [Pm.sl_f, Pm.sl_f, Pm.sl_f, Pm.sl_f, sk_k1, sk_of (show j ≠ j + 1 by omega) (by omega), sk_of (show j + 1 + 1 ≠ j by omega) (by omega), sk_k1]; omega
            have ec : Pm.sl j (Pm.sl (j + 1) (Pm.sl j p)) = Pm.sl (j + 1) (Pm.sl j (Pm.sl (j + 1) p)) := Pm.ext' fun i => congrArg p.f (sk_braid j i)
            obtain ⟨x, hx⟩ := Wd.ex' (((hp.sl hj).sl s1).sl s2)
            have hx1 : Wd (Pm.sl j p) (((j + 1 : Nat) : Int) :: (j : Int) :: x) := .cons _ _ _ s1 (.cons _ _ _ s2 hx)
            have hx2 : Wd (Pm.sl (j + 1) p) ((j : Int) :: ((j + 1 : Nat) : Int) :: x) := .cons _ _ _ t1 (.cons _ _ _ t2 (by rw [← ec]; exact hx))
            have hb : Br n [(j : Int), ((j + 1 : Nat) : Int), (j : Int)] [((j + 1 : Nat) : Int), (j : Int), ((j + 1 : Nat) : Int)] := Br.braid wj wk (by simp; omega) (by omega)
            have fin : Br n u (((j + 1 : Nat) : Int) :: (j : Int) :: x) → Br n v ((j : Int) :: ((j + 1 : Nat) : Int) :: x) → Br n ((j : Int) :: u) (((j + 1 : Nat) : Int) :: v) := fun a b =>
              (a.cons wj).trans ((hb.right x).trans (b.symm.cons wk))
            rcases hl with hl | hl
            · obtain ⟨a1, l1⟩ := ih _ u _ (hp.sl hj) hl hu hx1
              have l1' : u.length = x.length + 1 + 1 := by simpa using l1
              obtain ⟨a2, l2⟩ := ih _ _ v (hp.sl hk) (by simp; omega) hx2 hv
              have l2' : x.length + 1 + 1 = v.length := by simpa using l2
              exact ⟨fin a1 a2.symm, by omega⟩
            · obtain ⟨a2, l2⟩ := ih _ v _ (hp.sl hk) hl hv hx2
              have l2' : v.length = x.length + 1 + 1 := by simpa using l2
              obtain ⟨a1, l1⟩ := ih _ _ u (hp.sl hj) (by simp; omega) hx1 hu
              have l1' : x.length + 1 + 1 = u.length := by simpa using l1
              exact ⟨fin a1.symm a2, by omega⟩
          rcases (show k = j + 1 ∨ j = k + 1 by omega) with e1 | e1
          · obtain ⟨a, b⟩ := near e1 hj hk hu hv (.inl hN'); exact ⟨a, by simp [b]⟩
          · obtain ⟨a, b⟩ := near e1 hk hj hv hu (.inr hN'); exact ⟨a.symm, by simp [b]⟩
theorem Wd.br {n : Nat} {p : Pm} {u v : List Int} (hp : Spt n p) (hu : Wd p u) (hv : Wd p v) : Br n u v := (Wd.same _ p u v hp (Nat.le_refl _) hu hv).1
theorem Wd.len {n : Nat} {p : Pm} {u v : List Int} (hp : Spt n p) (hu : Wd p u) (hv : Wd p v) : u.length = v.length := (Wd.same _ p u v hp (Nat.le_refl _) hu hv).2
/-- A letter behind. -/
theorem Wd.snoc {p : Pm} {w : List Int} (h : Wd p w) {k : Nat} : ¬ p.En k → Wd (p.sr k) (w ++ [(k : Int)]) := by
  induction h with
  | nil =>
    intro _
    have e : Pm.sl k (Pm.one.sr k) = Pm.one := Pm.ext' fun i => sk_sk k i
    refine .cons _ k [] ?_ (by rw [e]; exact .nil)
    unfold Pm.St
    rw [Pm.sr_f, Pm.sr_f]
    show sk k (k + 1) < sk k k
    rw [sk_k, sk_k1]; omega
  | cons p j w hj _ ih =>
    intro hk
    refine .cons _ j _ (Pm.St_sr hj hk) ?_
    rw [← Pm.sl_sr]
    exact ih (Pm.En_sl hj hk)

/-! ### Words of lists and of normal forms -/
noncomputable def wd (n : Nat) (p : Pm) : List Int := open Classical in if h : Spt n p then (Wd.ex' h).choose else []
theorem wd_spec {n : Nat} {p : Pm} (h : Spt n p) : Wd p (wd n p) := by unfold wd; rw [dif_pos h]; exact (Wd.ex' h).choose_spec
theorem wd_val {n : Nat} {p : Pm} (h : Spt n p) : Val n (wd n p) := (wd_spec h).val h
theorem wd_one (n : Nat) : wd n Pm.one = [] := (wd_spec (Spt.one n)).one
noncomputable def wdl (n : Nat) (l : List Pm) : List Int := (l.map (wd n)).flatten
theorem wdl_cons (n : Nat) (p : Pm) (l : List Pm) : wdl n (p :: l) = wd n p ++ wdl n l := rfl
theorem wdl_app (n : Nat) (l m : List Pm) : wdl n (l ++ m) = wdl n l ++ wdl n m := by unfold wdl; simp
theorem wdl_val {n : Nat} {l : List Pm} (h : SptL n l) : Val n (wdl n l) := by
  induction l with
  | nil => exact Val.nil _
  | cons p l ih => exact (wd_val (h p (by simp))).app (ih fun x hx => h x (by simp [hx]))
theorem wdl_ones (n a : Nat) : wdl n (ones a) = [] := by
  induction a with
  | zero => rfl
  | succ a ih => show wd n Pm.one ++ wdl n (ones a) = []; rw [wd_one, ih]; rfl
theorem Mv.br {n : Nat} {l l' : List Pm} (hs : SptL n l) (h : Mv l l') : Br n (wdl n l) (wdl n l') := by
  induction h with
  | here p q k rest hk hp =>
    have sp := hs p (by simp); have sq := hs q (by simp)
    have bk := sq.St hk
    have e1 : Br n (wd n q) ((k : Int) :: wd n (Pm.sl k q)) := Wd.br sq (wd_spec sq) (.cons q k _ hk (wd_spec (sq.sl hk)))
    have e2 : Br n (wd n (p.sr k)) (wd n p ++ [(k : Int)]) := Wd.br (sp.sr bk.1 bk.2) (wd_spec (sp.sr bk.1 bk.2)) ((wd_spec sp).snoc hp)
    simp only [wdl_cons]
    have a := (e1.left (wd_val sp)).right (wdl n rest)
    have b := (e2.right (wd n (Pm.sl k q))).right (wdl n rest)
    simp only [List.append_assoc, List.cons_append, List.nil_append] at a b ⊢
    exact a.trans b.symm
  | tail p _ ih => exact (ih fun x hx => hs x (by simp [hx])).left (wd_val (hs p (by simp)))
theorem Star.br {n : Nat} {l l' : List Pm} (hs : SptL n l) (h : Star Mv l l') : Br n (wdl n l) (wdl n l') := by
  induction h with
  | refl => exact Br.refl _ _
  | step h1 _ ih => exact (h1.br hs).trans (ih (hs.mv h1))
theorem Eq'.br {n : Nat} {l m : List Pm} (h : Eq' n l m) : Br n (wdl n l) (wdl n m) := by
  obtain ⟨h1, h2, a, b, z, h3, h4⟩ := h
  have e1 := h3.br (h1.app (SptL.of_ones n a))
  have e2 := h4.br (h2.app (SptL.of_ones n b))
  rw [wdl_app, wdl_ones, List.append_nil] at e1 e2
  exact e1.trans e2.symm
/-- The half twist to a power. -/
noncomputable def hw (n : Nat) (q : Int) : List Int := if 0 ≤ q then (List.replicate q.natAbs (wd n (Pm.dl n))).flatten else (List.replicate q.natAbs (winvL (wd n (Pm.dl n)))).flatten
theorem rep_val {n : Int} {x : List Int} (h : Val n x) (a : Nat) : Val n (List.replicate a x).flatten := by
  induction a with
  | zero => exact Val.nil _
  | succ a ih => rw [List.replicate_succ, List.flatten_cons]; exact h.app ih
theorem hw_val (n : Nat) (q : Int) : Val n (hw n q) := by
  unfold hw; split
  · exact rep_val (wd_val (Spt.dl n)) _
  · exact rep_val (wd_val (Spt.dl n)).inv _
theorem Br.inv' {n : Int} {x : List Int} (h : Val n x) : Br n (winvL x ++ x) [] := by
  have := Br.inv (n := n) h.inv
  rwa [invL_invL] at this
theorem hw_succ (n : Nat) (q : Int) : Br n (hw n (q + 1)) (hw n q ++ wd n (Pm.dl n)) := by
  unfold hw
  rcases Int.lt_or_le q 0 with h | h
  · rw [if_neg (show ¬ 0 ≤ q by omega)]
    obtain ⟨a, ha⟩ : ∃ a : Nat, q = -((a : Int) + 1) := ⟨(-q - 1).toNat, by omega⟩
    have e1 : q.natAbs = a + 1 := by omega
    rw [e1, List.replicate_succ', List.flatten_append]
    have hb := (Br.inv' (wd_val (Spt.dl n))).left (rep_val (wd_val (Spt.dl n)).inv a)
    simp only [List.flatten_cons, List.flatten_nil, List.append_nil, List.append_assoc] at hb ⊢
    refine Br.trans ?_ hb.symm
    by_cases e0 : a = 0
    · rw [if_pos (by omega), show (q + 1).natAbs = 0 by omega, e0]; exact Br.refl _ _
    · rw [if_neg (by omega), show (q + 1).natAbs = a by omega]; exact Br.refl _ _
  · rw [if_pos (by omega), if_pos h, show (q + 1).natAbs = q.natAbs + 1 by omega, List.replicate_succ', List.flatten_append]
    simp only [List.flatten_cons, List.flatten_nil, List.append_nil]
    exact Br.refl _ _
theorem hw_add (n : Nat) (q : Int) : ∀ a : Nat, Br n (hw n (q + a)) (hw n q ++ wdl n (reps n a))
  | 0 => by rw [show q + ((0 : Nat) : Int) = q by omega]; show Br n _ (hw n q ++ []); rw [List.append_nil]; exact Br.refl _ _
  | a + 1 => by
    have h1 := hw_succ n (q + a)
    have h2 := (hw_add n q a).right (wd n (Pm.dl n))
    rw [show q + ((a + 1 : Nat) : Int) = q + a + 1 by omega]
    have e : wdl n (reps n (a + 1)) = wdl n (reps n a) ++ wd n (Pm.dl n) := by
      rw [reps_add, wdl_app]; congr 1; show wd n (Pm.dl n) ++ [] = _; rw [List.append_nil]
    rw [e, ← List.append_assoc]
    exact h1.trans h2
/-- The word of a power of the half twist and a list behind it. -/
noncomputable def nw (n : Nat) (s : Int × List Pm) : List Int := hw n s.1 ++ wdl n s.2
theorem nw_val {n : Nat} {s : Int × List Pm} (h : SptL n s.2) : Val n (nw n s) := (hw_val n _).app (wdl_val h)
theorem Qv.br {n : Nat} {s t : Int × List Pm} (h : Qv n s t) : Br n (nw n s) (nw n t) := by
  obtain ⟨a, b, e, h⟩ := h
  have key : ∀ (u : Int × List Pm) (c : Nat), Br n (nw n u) (hw n (u.1 - c) ++ wdl n (reps n c ++ u.2)) := fun u c => by
    have := (hw_add n (u.1 - c) c).right (wdl n u.2)
    rw [show u.1 - (c : Int) + c = u.1 by omega, List.append_assoc, ← wdl_app] at this
    exact this
  have h1 := h.br.left (hw_val n (s.1 - a))
  have h2 := key t b
  rw [← e] at h2
  exact (key s a).trans (h1.trans h2.symm)
theorem nw_act {n : Nat} {s : Int × List Pm} (hs : SptL n s.2) {k : Int} (h1 : 1 ≤ k.natAbs) (h2 : k.natAbs < n) : Br n (nw n (act n s k)) (nw n s ++ [k]) := by
  unfold act
  by_cases h0 : 0 < k
  · rw [if_pos h0]
    have hw1 : Wd (Pm.s k.natAbs) [k] := by
      have := Wd.snoc (k := k.natAbs) Wd.nil (by unfold Pm.En; show ¬ k.natAbs + 1 < k.natAbs; omega)
      rw [show ((k.natAbs : Nat) : Int) = k by omega] at this
      have e : Pm.one.sr k.natAbs = Pm.s k.natAbs := Pm.ext' fun i => rfl
      rwa [e] at this
    have e := Wd.br (Spt.s h1 h2) (wd_spec (Spt.s h1 h2)) hw1
    unfold nw
    rw [wdl_app, ← List.append_assoc]
    have : wdl n [Pm.s k.natAbs] = wd n (Pm.s k.natAbs) := by show wd n _ ++ [] = _; rw [List.append_nil]
    rw [this]
    exact e.left ((hw_val n _).app (wdl_val hs))
  · rw [if_neg h0]
    have hk : wbad n k = false := wbad_not (by omega) (by omega) (by omega)
    have hk' := wbad_neg hk
    have hd : Spt n ((Pm.dl n).sr k.natAbs) := (Spt.dl n).sr h1 h2
    have e1 : Br n (wd n (Pm.dl n)) (wd n ((Pm.dl n).sr k.natAbs) ++ [-k]) := by
      have := Wd.snoc (wd_spec hd) (d_noEn h1 h2)
      rw [Pm.sr_sr, show ((k.natAbs : Nat) : Int) = -k by omega] at this
      exact Wd.br (Spt.dl n) (wd_spec (Spt.dl n)) this
    have e2 : Br n (wd n ((Pm.dl n).sr k.natAbs)) (wd n (Pm.dl n) ++ [k]) := by
      have a := e1.right [k]
      have b := (Br.canc hk').left (wd_val hd)
      rw [Int.neg_neg] at b
      simp only [List.append_assoc, List.cons_append, List.nil_append, List.append_nil] at a b
      exact (a.trans b).symm
    have e4 : wdl n [Pm.dl n] = wd n (Pm.dl n) := by show wd n _ ++ [] = _; rw [List.append_nil]
    have e5 : wdl n [(Pm.dl n).sr k.natAbs] = wd n ((Pm.dl n).sr k.natAbs) := by show wd n _ ++ [] = _; rw [List.append_nil]
    have e3 : Br n (wdl n (s.2.map (Pm.fl n)) ++ wd n (Pm.dl n)) (wd n (Pm.dl n) ++ wdl n s.2) := by
      have := Star.br (hs.fl.app (SptL.one (Spt.dl n))) (half_list hs.fl)
      rw [map_fl_fl, wdl_app, e4] at this
      exact this
    have e6 := hw_succ n (s.1 - 1)
    rw [show s.1 - 1 + 1 = s.1 by omega] at e6
    show Br n (hw n (s.1 - 1) ++ wdl n (s.2.map (Pm.fl n) ++ [(Pm.dl n).sr k.natAbs])) (hw n s.1 ++ wdl n s.2 ++ [k])
    rw [wdl_app, e5]
    have f1 := e2.left ((hw_val n (s.1 - 1)).app (wdl_val hs.fl))
    have f2 := (e3.left (hw_val n (s.1 - 1))).right [k]
    have f3 := (e6.right (wdl n s.2)).right [k]
    simp only [List.append_assoc] at f1 f2 f3 ⊢
    exact f1.trans (f2.trans f3.symm)
theorem nw_fold {n : Nat} : ∀ (w : List Int) (s : Int × List Pm), SptL n s.2 → Val n w → Br n (nw n (w.foldl (act n) s)) (nw n s ++ w)
  | [], s, _, _ => by rw [List.append_nil]; exact Br.refl _ _
  | k :: w, s, hs, hv => by
    have hb := wb_bd hv.head
    have h1 := nw_fold w (act n s k) (act_sup hs hb.1 hb.2) hv.tail
    have h2 := (nw_act hs hb.1 hb.2).right w
    rw [List.append_assoc] at h2
    exact h1.trans h2
theorem nw_raw {n : Nat} {w : List Int} (hv : Val n w) : Br n (nw n (raw n w)) w := by
  have := nw_fold w (0, []) (SptL.nil n) hv
  have e : nw n (0, []) = [] := by unfold nw hw; simp [wdl]
  rwa [e] at this
/-- The word of the normal form is a word of the same braid. -/
theorem nw_nfw {n : Nat} {w : List Int} (hv : Val n w) : Br n (nw n (nfw n w)) w := (raw_nfw hv).br.symm.trans (nw_raw hv)
/-- Words have the same normal form exactly if they are words of the same braid. -/
theorem nfw_iff {n : Nat} (hn : 2 ≤ n) {w v : List Int} (hw : Val n w) (hv : Val n v) : nfw n w = nfw n v ↔ Br n w v :=
  ⟨fun e => by have := nw_nfw hw; rw [e] at this; exact this.symm.trans (nw_nfw hv), nfw_br hn⟩
end Go.Proofs.YtigffblelngpjaaDoor
/- Combing of braids: each word is that of the same braid as a way of the last strand, rounds of the last strand, and a word of the other strands. No program in sight. -/
namespace Go.Proofs.YtigffblelngpjaaDoor
set_option linter.unusedVariables false
set_option linter.unusedSimpArgs false

/-- A bijection. -/
structure Bj (α : Type) where
  f : α → α
  g : α → α
  fg : ∀ x, f (g x) = x
  gf : ∀ x, g (f x) = x
theorem Bj.ext' {α : Type} {p q : Bj α} (h : ∀ i, p.f i = q.f i) : p = q := by
  obtain ⟨f, g, fg, gf⟩ := p
  obtain ⟨f', g', fg', gf'⟩ := q
  obtain rfl : f = f' := funext h
  obtain rfl : g = g' := funext fun i => by
    have := gf (g' i)
    rw [fg'] at this
    exact this
  rfl
def Bj.one (α : Type) : Bj α := ⟨id, id, fun _ => rfl, fun _ => rfl⟩
/-- First p, then q. -/
def Bj.mul {α : Type} (p q : Bj α) : Bj α := ⟨fun i => q.f (p.f i), fun i => p.g (q.g i), fun i => by simp [p.fg, q.fg], fun i => by simp [p.gf, q.gf]⟩
def Bj.inv {α : Type} (p : Bj α) : Bj α := ⟨p.g, p.f, p.gf, p.fg⟩
theorem Bj.mul_f {α : Type} (p q : Bj α) (x : α) : (p.mul q).f x = q.f (p.f x) := rfl
theorem Bj.inv_f {α : Type} (p : Bj α) (x : α) : p.inv.f x = p.g x := rfl
theorem Bj.one_f {α : Type} (x : α) : (Bj.one α).f x = x := rfl
theorem Bj.mul_assoc {α : Type} (p q r : Bj α) : (p.mul q).mul r = p.mul (q.mul r) := rfl
theorem Bj.one_mul {α : Type} (p : Bj α) : (Bj.one α).mul p = p := rfl
theorem Bj.mul_one {α : Type} (p : Bj α) : p.mul (Bj.one α) = p := rfl
theorem Bj.mul_inv {α : Type} (p : Bj α) : p.mul p.inv = Bj.one α := Bj.ext' fun i => p.gf i
theorem Bj.inv_mul {α : Type} (p : Bj α) : p.inv.mul p = Bj.one α := Bj.ext' fun i => p.fg i
theorem Bj.inv_l {α : Type} (p q : Bj α) : p.inv.mul (p.mul q) = q := by rw [← Bj.mul_assoc, Bj.inv_mul, Bj.one_mul]
theorem Bj.inv_r {α : Type} (p q : Bj α) : p.mul (p.inv.mul q) = q := by rw [← Bj.mul_assoc, Bj.mul_inv, Bj.one_mul]
theorem Bj.inv_rev {α : Type} (p q : Bj α) : (p.mul q).inv = q.inv.mul p.inv := rfl
theorem Bj.inv_inv {α : Type} (p : Bj α) : p.inv.inv = p := rfl
/-- a goes over r and comes out as b. -/
def Tw {α : Type} (a b r : Bj α) : Prop := a.mul r = r.mul b
theorem Tw.mul {α : Type} {a b c r t : Bj α} (h : Tw a b r) (k : Tw b c t) : Tw a c (r.mul t) := by
  unfold Tw at *; rw [← Bj.mul_assoc, h, Bj.mul_assoc, k, ← Bj.mul_assoc]
theorem Tw.inv {α : Type} {a b r : Bj α} (h : Tw a b r) : Tw b a r.inv := by
  unfold Tw at *
  have : r.inv.mul ((a.mul r).mul r.inv) = r.inv.mul ((r.mul b).mul r.inv) := by rw [h]
  rw [Bj.mul_assoc, Bj.mul_inv, Bj.mul_one, Bj.mul_assoc, Bj.inv_l] at this
  exact this.symm
theorem Tw.invs {α : Type} {a b r : Bj α} (h : Tw a b r) : Tw a.inv b.inv r := by
  unfold Tw at *
  have : a.inv.mul ((a.mul r).mul b.inv) = a.inv.mul ((r.mul b).mul b.inv) := by rw [h]
  rw [Bj.mul_assoc, Bj.inv_l, Bj.mul_assoc, Bj.mul_inv, Bj.mul_one] at this
  exact this.symm
theorem Tw.two {α : Type} {a b c d r : Bj α} (h : Tw a b r) (k : Tw c d r) : Tw (a.mul c) (b.mul d) r := by
  unfold Tw at *; rw [Bj.mul_assoc, k, ← Bj.mul_assoc, h, Bj.mul_assoc]
theorem Tw.one {α : Type} (a : Bj α) : Tw a a (Bj.one α) := rfl
theorem Tw.self {α : Type} (a : Bj α) : Tw a a a := rfl
theorem Tw.of_two {α : Type} {a b x c r : Bj α} (h : Tw (a.mul x) (b.mul c) r) (k : Tw a b r) : Tw x c r := by
  unfold Tw at *
  have h1 : a.mul (x.mul r) = a.mul (r.mul c) := by rw [← Bj.mul_assoc, h, ← Bj.mul_assoc, ← Bj.mul_assoc, k]
  rw [← Bj.inv_l a (x.mul r), h1, Bj.inv_l]

/-- Letters that keep the laws of braids of n strands. -/
structure Ls {α : Type} (n : Nat) (s : Nat → Bj α) : Prop where
  far : ∀ j k, 1 ≤ j → j + 2 ≤ k → k < n → Tw (s k) (s k) (s j)
  brd : ∀ k, 1 ≤ k → k + 1 < n → (s k).mul ((s (k + 1)).mul (s k)) = (s (k + 1)).mul ((s k).mul (s (k + 1)))
theorem Ls.far' {α : Type} {n : Nat} {s : Nat → Bj α} (L : Ls n s) {j k : Nat} (h1 : 1 ≤ j) (h2 : j + 2 ≤ k) (h3 : k < n) : Tw (s j) (s j) (s k) := by
  have := L.far j k h1 h2 h3; unfold Tw at *; exact this.symm
/-- m letters from j on. -/
def rq {α : Type} (s : Nat → Bj α) : Nat → Nat → Bj α
  | _, 0 => Bj.one α
  | j, m + 1 => (s j).mul (rq s (j + 1) m)
theorem rq_low {α : Type} {n : Nat} {s : Nat → Bj α} (L : Ls n s) {k : Nat} (h1 : 1 ≤ k) : ∀ m j, k + 2 ≤ j → j + m ≤ n → Tw (s k) (s k) (rq s j m)
  | 0, j, _, _ => Tw.one _
  | m + 1, j, h, hm => (L.far' h1 h (by omega)).mul (rq_low L h1 m (j + 1) (by omega) (by omega))
theorem rq_in {α : Type} {n : Nat} {s : Nat → Bj α} (L : Ls n s) : ∀ m j k, 1 ≤ j → j < k → k < j + m → j + m ≤ n → Tw (s k) (s (k - 1)) (rq s j m)
  | 0, j, k, _, h1, h2, _ => by omega
  | m + 1, j, k, h0, h1, h2, h3 => by
    rcases Nat.lt_or_ge (j + 1) k with e | e
    · exact (L.far j k h0 (by omega) (by omega)).mul (rq_in L m (j + 1) k (by omega) e (by omega) (by omega))
    · obtain rfl : k = j + 1 := by omega
      cases m with
      | zero => omega
      | succ m =>
        have hl := rq_low L h0 m (j + 1 + 1) (Nat.le_refl _) (by omega)
        have hb := L.brd j h0 (by omega)
        unfold Tw at *
        show (s (j + 1)).mul ((s j).mul ((s (j + 1)).mul (rq s (j + 1 + 1) m))) = ((s j).mul ((s (j + 1)).mul (rq s (j + 1 + 1) m))).mul (s (j + 1 - 1))
        rw [Nat.add_sub_cancel]
        have : (s (j + 1)).mul ((s j).mul ((s (j + 1)).mul (rq s (j + 1 + 1) m))) = ((s (j + 1)).mul ((s j).mul (s (j + 1)))).mul (rq s (j + 1 + 1) m) := rfl
        rw [this, ← hb]
        show (s j).mul ((s (j + 1)).mul ((s j).mul (rq s (j + 1 + 1) m))) = _
        rw [hl]; rfl
/-- The last strand goes round strand j. -/
def rd {α : Type} (s : Nat → Bj α) (n j : Nat) : Bj α := (rq s (j + 1) (n - 1 - j)).inv.mul (((s j).mul (s j)).mul (rq s (j + 1) (n - 1 - j)))
theorem rd_low {α : Type} {n : Nat} {s : Nat → Bj α} (L : Ls n s) {k i : Nat} (h1 : 1 ≤ k) (h2 : k + 2 ≤ i) (h3 : i < n) : Tw (s k) (s k) (rd s n i) := by
  have a := rq_low L h1 (n - 1 - i) (i + 1) (by omega) (by omega)
  have b := L.far' h1 h2 h3
  exact a.inv.mul ((b.mul b).mul a)
theorem rd_high {α : Type} {n : Nat} {s : Nat → Bj α} (L : Ls n s) {k i : Nat} (h1 : 1 ≤ i) (h2 : i < k) (h3 : k + 1 < n) : Tw (s k) (s k) (rd s n i) := by
  have a := rq_in L (n - 1 - i) (i + 1) (k + 1) (by omega) (by omega) (by omega) (by omega)
  rw [Nat.add_sub_cancel] at a
  have b := L.far i (k + 1) h1 (by omega) h3
  exact a.inv.mul ((b.mul b).mul a)
theorem rq_succ {α : Type} (s : Nat → Bj α) {n k : Nat} (h : k + 1 < n) : rq s (k + 1) (n - 1 - k) = (s (k + 1)).mul (rq s (k + 1 + 1) (n - 1 - (k + 1))) := by
  rw [show n - 1 - k = n - 1 - (k + 1) + 1 by omega]; rfl
theorem rd_c {α : Type} {n : Nat} {s : Nat → Bj α} (L : Ls n s) {k : Nat} (h1 : 1 ≤ k) (h2 : k + 1 < n) : Tw (rd s n k) (rd s n (k + 1)) (s k) := by
  have hl := rq_low L h1 (n - 1 - (k + 1)) (k + 1 + 1) (Nat.le_refl _) (by omega)
  have hb := L.brd k h1 h2
  unfold rd
  rw [rq_succ s h2]
  generalize rq s (k + 1 + 1) (n - 1 - (k + 1)) = t at *
  generalize s k = a at *
  generalize s (k + 1) = b at *
  have ht : ∀ x, t.f (a.f x) = a.f (t.f x) := fun x => congrArg (fun p => Bj.f p x) hl
  have hti : ∀ x, a.f (t.g x) = t.g (a.f x) := fun x => by
    have := ht (t.g x); rw [t.fg] at this; rw [← this, t.gf]
  have hB : ∀ x, a.f (b.f (a.f x)) = b.f (a.f (b.f x)) := fun x => congrArg (fun p => Bj.f p x) hb
  unfold Tw
  refine Bj.ext' fun x => ?_
  simp only [Bj.mul_f, Bj.inv_f, Bj.inv_rev]
  show a.f (t.f (b.f (a.f (a.f (b.g (t.g x)))))) = t.f (b.f (b.f (t.g (a.f x))))
  rw [← ht, hB, ← hti]
  congr 1; congr 1
  rw [show b.f (a.f (b.g (t.g x))) = b.f (a.f (b.g (t.g x))) from rfl]
  have := hB (b.g (t.g x))
  rw [b.fg] at this
  rw [← this]
theorem rd_d {α : Type} {n : Nat} {s : Nat → Bj α} (L : Ls n s) {k : Nat} (h1 : 1 ≤ k) (h2 : k + 1 < n) : Tw ((rd s n (k + 1)).mul (rd s n k)) ((rd s n (k + 1)).mul (rd s n k)) (s k) := by
  have hl := rq_low L h1 (n - 1 - (k + 1)) (k + 1 + 1) (Nat.le_refl _) (by omega)
  have hb := L.brd k h1 h2
  unfold rd
  rw [rq_succ s h2]
  generalize rq s (k + 1 + 1) (n - 1 - (k + 1)) = t at *
  generalize s k = a at *
  generalize s (k + 1) = b at *
  have ht : ∀ x, t.f (a.f x) = a.f (t.f x) := fun x => congrArg (fun p => Bj.f p x) hl
  have hti : ∀ x, a.f (t.g x) = t.g (a.f x) := fun x => by
    have := ht (t.g x); rw [t.fg] at this; rw [← this, t.gf]
  have hB : ∀ x, a.f (b.f (a.f x)) = b.f (a.f (b.f x)) := fun x => congrArg (fun p => Bj.f p x) hb
  unfold Tw
  refine Bj.ext' fun x => ?_
  show a.f (t.f (b.f (a.f (a.f (b.g (t.g (t.f (b.f (b.f (t.g x)))))))))) = t.f (b.f (a.f (a.f (b.g (t.g (t.f (b.f (b.f (t.g (a.f x))))))))))
  rw [t.gf, t.gf, b.gf, b.gf, ← ht, hB, ← hti, ← hB (t.g x)]
end Go.Proofs.YtigffblelngpjaaDoor
/- Combing of words. No program in sight. -/
namespace Go.Proofs.YtigffblelngpjaaDoor
set_option linter.unusedVariables false
set_option linter.unusedSimpArgs false

/-- The normal forms of n strands. -/
def CT (n : Nat) : Type := {s : Int × List Pm // Can n s}
def CT.zero (n : Nat) : CT n := ⟨(0, []), Can.zero n⟩
theorem natAbs_ng {k : Int} {n : Nat} (h : 1 ≤ k.natAbs ∧ k.natAbs < n) : 1 ≤ (-k).natAbs ∧ (-k).natAbs < n := by rw [Int.natAbs_neg]; exact h
noncomputable def genB (n : Nat) (k : Int) (hn : 2 ≤ n) (h : 1 ≤ k.natAbs ∧ k.natAbs < n) : Bj (CT n) :=
  ⟨fun s => ⟨nfa n s.1 k, nfa_can s.2 h.1 h.2⟩, fun s => ⟨nfa n s.1 (-k), nfa_can s.2 (natAbs_ng h).1 (natAbs_ng h).2⟩,
   fun s => Subtype.ext (by have := nfa_canc hn s.2 (natAbs_ng h).1 (natAbs_ng h).2; rw [Int.neg_neg] at this; exact this),
   fun s => Subtype.ext (nfa_canc hn s.2 h.1 h.2)⟩
noncomputable def gen (n : Nat) (k : Int) : Bj (CT n) := open Classical in if h : 2 ≤ n ∧ 1 ≤ k.natAbs ∧ k.natAbs < n then genB n k h.1 h.2 else Bj.one _
theorem gen_at {n : Nat} {k : Int} (hn : 2 ≤ n) (h : 1 ≤ k.natAbs ∧ k.natAbs < n) (s : CT n) : ((gen n k).f s).1 = nfa n s.1 k := by
  unfold gen; rw [dif_pos ⟨hn, h⟩]; rfl
theorem gen_neg {n : Nat} {k : Int} : gen n (-k) = (gen n k).inv := by
  unfold gen
  by_cases h : 2 ≤ n ∧ 1 ≤ k.natAbs ∧ k.natAbs < n
  · rw [dif_pos h, dif_pos ⟨h.1, natAbs_ng h.2⟩]; exact Bj.ext' fun _ => rfl
  · rw [dif_neg h, dif_neg (by rw [Int.natAbs_neg]; exact h)]; rfl
noncomputable def ev (n : Nat) : List Int → Bj (CT n)
  | [] => Bj.one _
  | k :: w => (gen n k).mul (ev n w)
theorem ev_app (n : Nat) : ∀ x y, ev n (x ++ y) = (ev n x).mul (ev n y)
  | [], _ => rfl
  | k :: x, y => by show (gen n k).mul (ev n (x ++ y)) = _; rw [ev_app n x y]; rfl
theorem winvL_cons (k : Int) (x : List Int) : winvL (k :: x) = winvL x ++ [-k] := by unfold winvL; simp
theorem ev_inv (n : Nat) : ∀ x, ev n (winvL x) = (ev n x).inv
  | [] => rfl
  | k :: x => by
    rw [winvL_cons, ev_app, ev_inv n x]
    show (ev n x).inv.mul ((gen n (-k)).mul (Bj.one _)) = _
    rw [gen_neg]; rfl
theorem ev_f {n : Nat} (hn : 2 ≤ n) : ∀ {w : List Int}, Val n w → ∀ s : CT n, ((ev n w).f s).1 = w.foldl (nfa n) s.1
  | [], _, _ => rfl
  | k :: w, hv, s => by
    show ((ev n w).f ((gen n k).f s)).1 = w.foldl (nfa n) (nfa n s.1 k)
    rw [ev_f hn hv.tail, gen_at hn (wb_bd hv.head)]
theorem ev_br {n : Nat} (hn : 2 ≤ n) {w v : List Int} (hw : Val n w) (hv : Val n v) : Br n w v ↔ ev n w = ev n v := by
  constructor
  · intro h
    refine Bj.ext' fun s => Subtype.ext ?_
    rw [ev_f hn hw, ev_f hn hv]
    exact h _ _ _ (laws_nf hn) _ s.2
  · intro h
    refine (nfw_iff hn hw hv).1 ?_
    have h' : ((ev n w).f (CT.zero n)).1 = ((ev n v).f (CT.zero n)).1 := by rw [h]
    rw [ev_f hn hw, ev_f hn hv] at h'
    exact h'
noncomputable def gs (n k : Nat) : Bj (CT n) := gen n (k : Int)
theorem nat_bd {n k : Nat} (h1 : 1 ≤ k) (h2 : k < n) : 1 ≤ (k : Int).natAbs ∧ (k : Int).natAbs < n := by rw [Int.natAbs_natCast]; exact ⟨h1, h2⟩
theorem ls_gen {n : Nat} (hn : 2 ≤ n) : Ls n (gs n) where
  far := fun j k h1 h2 h3 => Bj.ext' fun s => Subtype.ext (by
    show ((gs n j).f ((gs n k).f s)).1 = ((gs n k).f ((gs n j).f s)).1
    unfold gs
    rw [gen_at hn (nat_bd h1 (by omega)), gen_at hn (nat_bd (by omega) h3), gen_at hn (nat_bd (by omega) h3), gen_at hn (nat_bd h1 (by omega))]
    exact (nfa_farp hn s.2 h1 h2 h3).symm)
  brd := fun k h1 h2 => Bj.ext' fun s => Subtype.ext (by
    show ((gs n k).f ((gs n (k + 1)).f ((gs n k).f s))).1 = ((gs n (k + 1)).f ((gs n k).f ((gs n (k + 1)).f s))).1
    unfold gs
    rw [gen_at hn (nat_bd h1 (by omega)), gen_at hn (nat_bd (by omega) h2), gen_at hn (nat_bd h1 (by omega)), gen_at hn (nat_bd (by omega) h2), gen_at hn (nat_bd h1 (by omega)), gen_at hn (nat_bd (by omega) h2)]
    exact nfa_pos hn s.2 h1 h2)

/-! ### Words of the rounds -/
def rpw : Nat → Nat → List Int
  | _, 0 => []
  | j, m + 1 => (j : Int) :: rpw (j + 1) m
theorem ev_rpw (n : Nat) : ∀ m j, ev n (rpw j m) = rq (gs n) j m
  | 0, _ => rfl
  | m + 1, j => by show (gen n j).mul (ev n (rpw (j + 1) m)) = _; rw [ev_rpw n m]; rfl
theorem rpw_val {n : Nat} : ∀ {m j : Nat}, 1 ≤ j → j + m ≤ n → Val n (rpw j m)
  | 0, _, _, _ => Val.nil _
  | m + 1, j, h1, h2 => Val.cons (wb_nat h1 (by omega)) (rpw_val (by omega) (by omega))
def Dp (n i : Nat) : List Int := winvL (rpw (i + 1) (n - 1 - i)) ++ ([(i : Int), (i : Int)] ++ rpw (i + 1) (n - 1 - i))
def Dw (n : Nat) (i : Int) : List Int := if 0 < i then Dp n i.natAbs else winvL (Dp n i.natAbs)
theorem ev_Dp (n i : Nat) : ev n (Dp n i) = rd (gs n) n i := by
  unfold Dp rd
  rw [ev_app, ev_app, ev_inv, ev_rpw]; rfl
theorem Dp_val {n i : Nat} (h1 : 1 ≤ i) (h2 : i < n) : Val n (Dp n i) := by
  have h := rpw_val (n := n) (m := n - 1 - i) (j := i + 1) (by omega) (by omega)
  exact h.inv.app ((Val.cons (wb_nat h1 h2) (Val.cons (wb_nat h1 h2) (Val.nil _))).app h)
theorem Dw_val {n : Nat} {i : Int} (h : wbad n i = false) : Val n (Dw n i) := by
  have hb := wb_bd h
  unfold Dw; split
  · exact Dp_val hb.1 hb.2
  · exact (Dp_val hb.1 hb.2).inv
theorem Dw_neg {n : Nat} {i : Int} (h : i ≠ 0) : Dw n (-i) = winvL (Dw n i) := by
  unfold Dw
  rw [Int.natAbs_neg]
  by_cases h0 : 0 < i
  · rw [if_pos h0, if_neg (by omega)]
  · rw [if_neg h0, if_pos (by omega), invL_invL]
def uw (n : Nat) (v : List Int) : List Int := (v.map (Dw n)).flatten
theorem uw_cons (n : Nat) (i : Int) (v : List Int) : uw n (i :: v) = Dw n i ++ uw n v := rfl
theorem uw_app (n : Nat) (u v : List Int) : uw n (u ++ v) = uw n u ++ uw n v := by unfold uw; simp
theorem uw_val {n : Nat} : ∀ {v : List Int}, Val n v → Val n (uw n v)
  | [], _ => Val.nil _
  | i :: v, h => (Dw_val h.head).app (uw_val h.tail)
theorem uw_inv {n : Nat} : ∀ {v : List Int}, Val n v → uw n (winvL v) = winvL (uw n v)
  | [], _ => rfl
  | i :: v, h => by
    have hb := wb_bd h.head
    rw [winvL_cons, uw_app, uw_inv h.tail]
    show winvL (uw n v) ++ (Dw n (-i) ++ []) = winvL (Dw n i ++ uw n v)
    rw [List.append_nil, Dw_neg (by omega)]
    unfold winvL; simp
def InU (n : Nat) (x : Bj (CT n)) : Prop := ∃ v, Val n v ∧ x = ev n (uw n v)
theorem InU.one (n : Nat) : InU n (Bj.one _) := ⟨[], Val.nil _, rfl⟩
theorem InU.mul {n : Nat} {x y : Bj (CT n)} (h : InU n x) (k : InU n y) : InU n (x.mul y) := by
  obtain ⟨u, hu, rfl⟩ := h
  obtain ⟨v, hv, rfl⟩ := k
  exact ⟨u ++ v, hu.app hv, by rw [uw_app, ev_app]⟩
theorem InU.inv {n : Nat} {x : Bj (CT n)} (h : InU n x) : InU n x.inv := by
  obtain ⟨u, hu, rfl⟩ := h
  exact ⟨winvL u, hu.inv, by rw [uw_inv hu, ev_inv]⟩
theorem InU.rd {n i : Nat} (h1 : 1 ≤ i) (h2 : i < n) : InU n (rd (gs n) n i) := by
  refine ⟨[(i : Int)], Val.cons (wb_nat h1 h2) (Val.nil _), ?_⟩
  show _ = ev n (Dw n (i : Int) ++ [])
  unfold Dw
  rw [if_pos (by omega), List.append_nil, Int.natAbs_natCast, ev_Dp]
theorem ev_Dw {n : Nat} {i : Int} : ev n (Dw n i) = Go.Proofs.YtigffblelngpjaaDoor.rd (gs n) n i.natAbs ∨ ev n (Dw n i) = (Go.Proofs.YtigffblelngpjaaDoor.rd (gs n) n i.natAbs).inv := by
  unfold Dw; split
  · left; rw [ev_Dp]
  · right; rw [ev_inv, ev_Dp]
/-- Rounds go over letters of the other strands. -/
theorem rd_over {n : Nat} (hn : 2 ≤ n) {k i : Nat} (h1 : 1 ≤ k) (h2 : k + 1 < n) (i1 : 1 ≤ i) (i2 : i < n) :
    (∃ y, InU n y ∧ Tw y (Go.Proofs.YtigffblelngpjaaDoor.rd (gs n) n i) (gs n k)) ∧ ∃ y, InU n y ∧ Tw y (Go.Proofs.YtigffblelngpjaaDoor.rd (gs n) n i) (gs n k).inv := by
  have L := ls_gen hn
  have c := rd_c L h1 h2
  have d := rd_d L h1 h2
  have uk := InU.rd (n := n) h1 (by omega : k < n)
  have uk1 := InU.rd (n := n) (show 1 ≤ k + 1 by omega) h2
  by_cases e1 : i = k
  · subst e1
    refine ⟨⟨_, (uk.inv.mul (uk1.mul uk)), ?_⟩, ⟨_, uk1, c.inv⟩⟩
    refine Tw.of_two (a := Go.Proofs.YtigffblelngpjaaDoor.rd (gs n) n i) (b := Go.Proofs.YtigffblelngpjaaDoor.rd (gs n) n (i + 1)) ?_ c
    rw [Bj.inv_r]; exact d
  by_cases e2 : i = k + 1
  · subst e2
    refine ⟨⟨_, uk, c⟩, ⟨_, ((uk1.mul uk).mul uk1.inv), ?_⟩⟩
    have := d.two c.invs
    rw [Bj.mul_assoc, Bj.mul_inv, Bj.mul_one] at this
    exact this.inv
  have hc : Tw (gs n k) (gs n k) (Go.Proofs.YtigffblelngpjaaDoor.rd (gs n) n i) := by
    rcases Nat.lt_or_ge i k with e | e
    · exact rd_high L i1 e h2
    · exact rd_low L h1 (by omega) i2
  have hc' : Tw (Go.Proofs.YtigffblelngpjaaDoor.rd (gs n) n i) (Go.Proofs.YtigffblelngpjaaDoor.rd (gs n) n i) (gs n k) := by unfold Tw at *; exact hc.symm
  exact ⟨⟨_, InU.rd i1 i2, hc'⟩, ⟨_, InU.rd i1 i2, hc'.inv⟩⟩
theorem gen_cases {n : Nat} (k : Int) : gen n k = gs n k.natAbs ∨ gen n k = (gs n k.natAbs).inv := by
  unfold gs
  rcases Int.natAbs_eq k with e | e
  · left; rw [← e]
  · right
    rw [← gen_neg, ← e]
theorem U_over {n : Nat} (hn : 2 ≤ n) {k : Int} (h1 : 1 ≤ k.natAbs) (h2 : k.natAbs + 1 < n) : ∀ {v : List Int}, Val n v → ∃ y, InU n y ∧ Tw y (ev n (uw n v)) (gen n k)
  | [], _ => ⟨_, InU.one n, by unfold Tw; rfl⟩
  | i :: v, h => by
    have hb := wb_bd h.head
    obtain ⟨y, hy, ty⟩ := U_over hn h1 h2 h.tail
    obtain ⟨a, b⟩ := rd_over hn (i := i.natAbs) h1 h2 hb.1 hb.2
    obtain ⟨z, hz, tz⟩ : ∃ z, InU n z ∧ Tw z (Go.Proofs.YtigffblelngpjaaDoor.rd (gs n) n i.natAbs) (gen n k) := by
      rcases gen_cases (n := n) k with e | e <;> rw [e]
      · exact a
      · exact b
    rw [uw_cons, ev_app]
    rcases ev_Dw (n := n) (i := i) with e | e <;> rw [e]
    · exact ⟨_, hz.mul hy, tz.two ty⟩
    · exact ⟨_, hz.inv.mul hy, tz.invs.two ty⟩

/-- A word is combed: a way of the last strand, rounds of it, and a word of the other strands. -/
def Comb (n : Nat) (x : Bj (CT n)) : Prop := ∃ (j : Nat) (v b : List Int), 1 ≤ j ∧ j ≤ n ∧ Val n v ∧ Val ((n - 1 : Nat) : Int) b ∧ x = (rq (gs n) j (n - j)).mul ((ev n (uw n v)).mul (ev n b))
theorem Comb.turn {n j j' : Nat} {c u : Bj (CT n)} {v b : List Int} (h1 : 1 ≤ j') (h2 : j' ≤ n) (hu : InU n u) (hv : Val n v) (hb : Val ((n - 1 : Nat) : Int) b) (h : c.mul (rq (gs n) j (n - j)) = (rq (gs n) j' (n - j')).mul u) :
    Comb n (c.mul ((rq (gs n) j (n - j)).mul ((ev n (uw n v)).mul (ev n b)))) := by
  obtain ⟨v', hv', e⟩ := hu.mul ⟨v, hv, rfl⟩
  refine ⟨j', v', b, h1, h2, hv', hb, ?_⟩
  rw [← Bj.mul_assoc, h, ← e]; rfl
theorem Comb.over {n j : Nat} (hn : 2 ≤ n) {c : Bj (CT n)} {k : Int} {v b : List Int} (h1 : 1 ≤ j) (h2 : j ≤ n) (k1 : 1 ≤ k.natAbs) (k2 : k.natAbs + 1 < n) (hv : Val n v) (hb : Val ((n - 1 : Nat) : Int) b) (h : Tw c (gen n k) (rq (gs n) j (n - j))) :
    Comb n (c.mul ((rq (gs n) j (n - j)).mul ((ev n (uw n v)).mul (ev n b)))) := by
  obtain ⟨y, ⟨v', hv', e⟩, ty⟩ := U_over hn k1 k2 hv
  refine ⟨j, v', k :: b, h1, h2, hv', Val.cons (wbad_not (by omega) (by omega) (by omega)) hb, ?_⟩
  unfold Tw at h ty
  rw [← Bj.mul_assoc, h, ← e]
  show ((rq (gs n) j (n - j)).mul (((gen n k).mul (ev n (uw n v))).mul (ev n b))) = (rq (gs n) j (n - j)).mul ((y.mul (gen n k)).mul (ev n b))
  rw [ty]
theorem rq_one {n j : Nat} (h : j < n) : rq (gs n) j (n - j) = (gs n j).mul (rq (gs n) (j + 1) (n - (j + 1))) := by
  rw [show n - j = n - (j + 1) + 1 by omega]; rfl
theorem rq_rd {n j : Nat} (h : j < n) : (gs n j).mul (rq (gs n) j (n - j)) = (rq (gs n) (j + 1) (n - (j + 1))).mul (Go.Proofs.YtigffblelngpjaaDoor.rd (gs n) n j) := by
  rw [rq_one h]
  unfold Go.Proofs.YtigffblelngpjaaDoor.rd
  rw [show n - 1 - j = n - (j + 1) by omega, Bj.inv_r]; rfl
theorem comb {n : Nat} (hn : 2 ≤ n) : ∀ {w : List Int}, Val n w → Comb n (ev n w)
  | [], _ => ⟨n, [], [], by omega, Nat.le_refl _, Val.nil _, Val.nil _, by rw [Nat.sub_self]; rfl⟩
  | k :: w, hv => by
    obtain ⟨j, v, b, j1, j2, hv', hb, e⟩ := comb hn hv.tail
    have hk := wb_bd hv.head
    have L := ls_gen hn
    show Comb n ((gen n k).mul (ev n w))
    rw [e]
    have sign : ∀ {q : Nat}, ∃ k' : Int, k'.natAbs = q ∧ ((gen n k = gs n k.natAbs ∧ gen n k' = gs n q) ∨ (gen n k = (gs n k.natAbs).inv ∧ gen n k' = (gs n q).inv)) := fun {q} => by
      rcases gen_cases (n := n) k with e | e
      · exact ⟨(q : Int), Int.natAbs_natCast q, .inl ⟨e, rfl⟩⟩
      · exact ⟨-(q : Int), by rw [Int.natAbs_neg, Int.natAbs_natCast], .inr ⟨e, gen_neg⟩⟩
    rcases (show k.natAbs + 1 < j ∨ k.natAbs + 1 = j ∨ k.natAbs = j ∨ j < k.natAbs by omega) with h | h | h | h
    · -- far from the way
      have t := rq_low L hk.1 (n - j) j (by omega) (by omega)
      obtain ⟨k', e1, e2⟩ := sign (q := k.natAbs)
      refine Comb.over hn (k := k') j1 j2 (by omega) (by omega) hv' hb ?_
      rcases e2 with ⟨a, b⟩ | ⟨a, b⟩ <;> rw [a, b]
      · exact t
      · exact t.invs
    · -- the way gets longer
      subst h
      rcases gen_cases (n := n) k with e | e <;> rw [e]
      · refine Comb.turn (j' := k.natAbs) hk.1 (by omega) (InU.one n) hv' hb ?_
        rw [Bj.mul_one, rq_one hk.2]
      · refine Comb.turn (j' := k.natAbs) hk.1 (by omega) (InU.rd hk.1 hk.2).inv hv' hb ?_
        have := rq_rd hk.2
        have e3 : rq (gs n) (k.natAbs + 1) (n - (k.natAbs + 1)) = ((gs n k.natAbs).mul (rq (gs n) k.natAbs (n - k.natAbs))).mul (Go.Proofs.YtigffblelngpjaaDoor.rd (gs n) n k.natAbs).inv := by
          rw [this, Bj.mul_assoc, Bj.mul_inv, Bj.mul_one]
        rw [e3, Bj.mul_assoc, Bj.inv_l]
    · -- .. or shorter
      subst h
      rcases gen_cases (n := n) k with e | e <;> rw [e]
      · exact Comb.turn (j' := k.natAbs + 1) (by omega) (by omega) (InU.rd hk.1 hk.2) hv' hb (rq_rd hk.2)
      · refine Comb.turn (j' := k.natAbs + 1) (by omega) (by omega) (InU.one n) hv' hb ?_
        rw [rq_one hk.2, Bj.inv_l, Bj.mul_one]
    · -- a letter beside the way
      have t := rq_in L (n - j) j k.natAbs j1 h (by omega) (by omega)
      obtain ⟨k', e1, e2⟩ := sign (q := k.natAbs - 1)
      refine Comb.over hn (k := k') j1 j2 (by omega) (by omega) hv' hb ?_
      rcases e2 with ⟨a, b⟩ | ⟨a, b⟩ <;> rw [a, b]
      · exact t
      · exact t.invs
theorem Val.more {m n : Nat} (h : m ≤ n) {b : List Int} (hb : Val (m : Int) b) : Val n b := fun x hx => by
  have := wb_bd (hb x hx); exact wbad_not (by omega) (by omega) (by omega)
/-- .. in words. -/
theorem comb_br {n : Nat} (hn : 2 ≤ n) {w : List Int} (hw : Val n w) : ∃ (j : Nat) (v b : List Int), 1 ≤ j ∧ j ≤ n ∧ Val n v ∧ Val ((n - 1 : Nat) : Int) b ∧ Br n w (rpw j (n - j) ++ (uw n v ++ b)) := by
  obtain ⟨j, v, b, h1, h2, h3, h4, e⟩ := comb hn hw
  refine ⟨j, v, b, h1, h2, h3, h4, (ev_br hn hw ((rpw_val h1 (by omega)).app ((uw_val h3).app (h4.more (by omega))))).2 ?_⟩
  rw [e, ev_app, ev_app, ev_rpw]
/-- Rounds that cancel, in the opposite order. -/
theorem uw_red {n : Nat} : ∀ (z st : List Int), Val n z → Val n st → ev n (uw n (st ++ z).reverse) = ev n (uw n (z.foldl redStep st).reverse)
  | [], st, _, _ => by rw [List.append_nil]; rfl
  | k :: z, st, hz, hs => by
    have ih := uw_red z (redStep st k) hz.tail (hs.step hz.head)
    rw [List.foldl_cons, ← ih]
    by_cases hp : 0 < st.length ∧ gi st (st.length - 1) = -k
    · rw [redStep_pop hp.1 hp.2]
      have hs' : st = st.dropLast ++ [-k] := by
        have h1 : st.take (st.length - 1 + 1) = st.take (st.length - 1) ++ [gi st (st.length - 1)] := take_succ_gi (by omega)
        rw [show st.length - 1 + 1 = st.length from by omega, List.take_length, hp.2, ← List.dropLast_eq_take] at h1
        exact h1
      obtain ⟨u, hu⟩ : ∃ u, u = st.dropLast := ⟨_, rfl⟩
      rw [← hu] at hs' ⊢
      subst hs'
      have hb := wb_bd hz.head
      simp only [List.reverse_append, List.reverse_cons, List.reverse_nil, List.nil_append, List.append_assoc, uw_app, ev_app]
      have e1 : ev n (uw n [k]) = ev n (Dw n k) := by show ev n (Dw n k ++ []) = _; rw [List.append_nil]
      have e2 : ev n (uw n [-k]) = (ev n (Dw n k)).inv := by show ev n (Dw n (-k) ++ []) = _; rw [List.append_nil, Dw_neg (by omega), ev_inv]
      rw [e1, e2, Bj.inv_r]
    · rw [redStep_push (fun a b => hp ⟨a, b⟩), List.append_assoc]; rfl
theorem uw_trivial {n : Nat} {z : List Int} (hz : Val n z) (h : red z = []) : ev n (uw n z.reverse) = Bj.one _ := by
  have := uw_red z [] hz (Val.nil _)
  rw [List.nil_append, show z.foldl redStep [] = red z from rfl, h] at this
  exact this
end Go.Proofs.YtigffblelngpjaaDoor
