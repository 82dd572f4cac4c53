/- Texts of this claim in one file: libraries and walks. -/
import Derived.Test.YtigffblelngpjaaDoorL20
import Derived.Test.YtigffblelngpjaaDoorMForm0
import Derived.Test.YtigffblelngpjaaDoorMForm1
import Derived.Test.YtigffblelngpjaaDoorMForm5
/- Where strands go: the permutation of a word and that of its normal form; the word of a normal form. No program in sight but for the lists. -/
namespace Go.Proofs.YtigffblelngpjaaDoor
set_option linter.unusedVariables false
set_option linter.unusedSimpArgs false
open Go Go.RowKit

def pw (w : List Int) : Pm := w.foldl (fun p k => p.sr k.natAbs) Pm.one
theorem pw_snoc (w : List Int) (k : Int) : pw (w ++ [k]) = (pw w).sr k.natAbs := by unfold pw; simp
theorem pw_fold : ∀ (w : List Int) (p : Pm), w.foldl (fun p k => p.sr k.natAbs) p = p.mul (pw w)
  | [], p => rfl
  | k :: w, p => by
    unfold pw
    rw [List.foldl_cons, List.foldl_cons, pw_fold w (p.sr k.natAbs), pw_fold w (Pm.one.sr k.natAbs)]; rfl
theorem pw_spt {n : Nat} {w : List Int} (h : Val n w) : Spt n (pw w) := by
  have key : ∀ (w : List Int) (p : Pm), Spt n p → Val n w → Spt n (w.foldl (fun p k => p.sr k.natAbs) p) := by
    intro w
    induction w with
    | nil => intro p hp _; exact hp
    | cons k w ih => intro p hp hv; have hb := wb_bd hv.head; exact ih _ (hp.sr hb.1 hb.2) hv.tail
  exact key w Pm.one (Spt.one n) h
theorem list_snoc {α : Type} {P : List α → Prop} (h0 : P []) (hs : ∀ l x, P l → P (l ++ [x])) : ∀ l, P l := fun l => by
  have : ∀ m (l : List α), l.length = m → P l := fun m => by
    induction m with
    | zero => intro l hl; obtain rfl := List.eq_nil_of_length_eq_zero hl; exact h0
    | succ m ih =>
      intro l hl
      have hne : l ≠ [] := fun e => by rw [e] at hl; simp at hl
      rw [← List.dropLast_concat_getLast hne]
      exact hs _ _ (ih _ (by simp [hl]))
  exact this _ l rfl
theorem fol_pw {n : Nat} (w : List Int) : Val n w → ∀ i, i < n → gi (fol n w) i = ((pw w).g (i + 1) : Int) - 1 := by
  refine list_snoc (P := fun w => Val n w → ∀ i, i < n → gi (fol n w) i = ((pw w).g (i + 1) : Int) - 1) (fun _ i hi => ?_) (fun w k ih hv i hi => ?_) w
  · unfold fol
    rw [List.foldl_nil, gi_of_lt (by simpa using hi)]
    show _ = ((i + 1 : Nat) : Int) - 1
    simp
  · have hb := wb_bd (hv.right.head)
    obtain ⟨q, hq⟩ : ∃ q, k.natAbs = q + 1 := ⟨k.natAbs - 1, by omega⟩
    have ih' := ih hv.left
    rw [fol_snoc, lft_of hq, gi_swp _ _ _ (by rw [fol_len]; omega), pw_snoc, hq, Pm.sr_g]
    by_cases e1 : i = q + 1
    · subst e1; rw [if_pos rfl, sk_k1, ih' q (by omega)]
    · rw [if_neg e1]
      by_cases e2 : i = q
      · subst e2; rw [if_pos rfl, sk_k, ih' (i + 1) (by omega)]
      · rw [if_neg e2, sk_of (by omega) (by omega), ih' i hi]
theorem perm_pw {n : Nat} {w : List Int} (n1 : 1 ≤ n) (n8 : n ≤ 8) (hv : Val n w) : PM n (permOf n w) ∧ pm n (permOf n w) = pw w := by
  have hs := pw_spt hv
  refine pm_mk hs (inv_len _ _) fun v v1 v2 => ?_
  have hb := hs.in v1 v2
  have hg : gi (fol n w) ((pw w).f v - 1) = (v : Int) - 1 := by
    rw [fol_pw w hv _ (by omega), show (pw w).f v - 1 + 1 = (pw w).f v by omega, (pw w).gf]
  have hf := fol_bd hv.at n1 n8 w.length (Nat.le_refl _)
  have hi := inj_fol hv.at n1 n8 w.length (Nat.le_refl _)
  rw [List.take_length] at hf hi
  have := invTo_gi (fol_len n w) hi hf n (Nat.le_refl _) ((pw w).f v - 1) (by omega)
  rw [hg] at this
  have e : gi (permOf n w) (v - 1) = (((pw w).f v - 1 : Nat) : Int) + 1 := by
    rw [← this]; unfold permOf inv
    rw [show (((v : Int) - 1).toNat) = v - 1 by omega]; rfl
  rw [e]; omega
/-! ### The same for lists and powers -/
def prd : List Pm → Pm
  | [] => Pm.one
  | p :: l => p.mul (prd l)
theorem prd_app : ∀ l m, prd (l ++ m) = (prd l).mul (prd m)
  | [], m => (Pm.one_mul _).symm
  | p :: l, m => by show p.mul (prd (l ++ m)) = _; rw [prd_app l m]; rfl
theorem prd_ones : ∀ a, prd (ones a) = Pm.one
  | 0 => rfl
  | a + 1 => by show Pm.one.mul (prd (ones a)) = _; rw [prd_ones a, Pm.one_mul]
theorem Mv.prd {l l' : List Pm} (h : Mv l l') : Go.Proofs.YtigffblelngpjaaDoor.prd l = Go.Proofs.YtigffblelngpjaaDoor.prd l' := by
  induction h with
  | here p q k rest _ _ =>
    show p.mul (q.mul (Go.Proofs.YtigffblelngpjaaDoor.prd rest)) = (p.sr k).mul ((Pm.sl k q).mul (Go.Proofs.YtigffblelngpjaaDoor.prd rest))
    rw [← Pm.mul_assoc, ← Pm.mul_assoc, Pm.sr_sl]
  | tail p _ ih => show p.mul _ = p.mul _; rw [ih]
theorem Star.prd {l l' : List Pm} (h : Star Mv l l') : Go.Proofs.YtigffblelngpjaaDoor.prd l = Go.Proofs.YtigffblelngpjaaDoor.prd l' := by
  induction h with
  | refl => rfl
  | step h1 _ ih => rw [h1.prd, ih]
theorem Eq'.prd {n : Nat} {l m : List Pm} (h : Eq' n l m) : Go.Proofs.YtigffblelngpjaaDoor.prd l = Go.Proofs.YtigffblelngpjaaDoor.prd m := by
  obtain ⟨_, _, a, b, z, h3, h4⟩ := h
  have e1 := h3.prd; have e2 := h4.prd
  rw [prd_app, prd_ones, Pm.mul_one] at e1 e2
  rw [e1, e2]
def dlp (n : Nat) (q : Int) : Pm := if q % 2 = 0 then Pm.one else Pm.dl n
theorem dlp_succ (n : Nat) (q : Int) : dlp n (q + 1) = (dlp n q).mul (Pm.dl n) := by
  unfold dlp
  by_cases h : q % 2 = 0
  · have h2 : ¬ (q + 1) % 2 = 0 := by omega
    rw [if_neg h2, if_pos h, Pm.one_mul]
  · have h2 : (q + 1) % 2 = 0 := by omega
    rw [if_pos h2, if_neg h, Pm.dl_dl]
theorem dlp_reps (n : Nat) (q : Int) : ∀ a : Nat, dlp n (q + a) = (dlp n q).mul (prd (reps n a))
  | 0 => by rw [show q + ((0 : Nat) : Int) = q by omega]; exact (Pm.mul_one _).symm
  | a + 1 => by
    rw [show q + ((a + 1 : Nat) : Int) = (q + 1) + a by omega, dlp_reps n (q + 1) a, dlp_succ]; rfl
def pss (n : Nat) (s : Int × List Pm) : Pm := (dlp n s.1).mul (prd s.2)
theorem Qv.pss {n : Nat} {s t : Int × List Pm} (h : Qv n s t) : Go.Proofs.YtigffblelngpjaaDoor.pss n s = Go.Proofs.YtigffblelngpjaaDoor.pss n t := by
  obtain ⟨a, b, e, h⟩ := h
  have hp := h.prd
  rw [prd_app, prd_app] at hp
  have key : ∀ (u : Int × List Pm) (c : Nat), Go.Proofs.YtigffblelngpjaaDoor.pss n u = (dlp n (u.1 - c)).mul ((prd (reps n c)).mul (prd u.2)) := fun u c => by
    have := dlp_reps n (u.1 - c) c
    rw [show u.1 - (c : Int) + c = u.1 by omega] at this
    unfold Go.Proofs.YtigffblelngpjaaDoor.pss
    rw [this, Pm.mul_assoc]
  rw [key s a, key t b, hp, e]
theorem prd_fl (n : Nat) : ∀ l, prd (l.map (Pm.fl n)) = (prd l).fl n
  | [] => (Pm.fl_one n).symm
  | p :: l => by show (p.fl n).mul (prd (l.map (Pm.fl n))) = _; rw [prd_fl n l, ← Pm.fl_mul]; rfl
theorem pss_act (n : Nat) (s : Int × List Pm) (k : Int) : pss n (act n s k) = (pss n s).sr k.natAbs := by
  unfold act pss
  split
  · rw [prd_app]; rfl
  · rw [prd_app, prd_fl]
    have := dlp_succ n (s.1 - 1)
    rw [show s.1 - 1 + 1 = s.1 by omega] at this
    rw [this]
    refine Pm.ext' fun i => ?_
    show sk _ (dlf n (dlf n ((prd s.2).f (dlf n ((dlp n (s.1 - 1)).f i))))) = sk _ ((prd s.2).f (dlf n ((dlp n (s.1 - 1)).f i)))
    rw [dlf_dlf]
theorem pss_raw {n : Nat} (w : List Int) : pss n (raw n w) = pw w := by
  refine list_snoc (P := fun w => pss n (raw n w) = pw w) ?_ (fun w k ih => ?_) w
  · rfl
  · unfold raw at ih ⊢
    rw [List.foldl_append]
    show pss n (act n _ k) = _
    rw [pss_act, ih, pw_snoc]
theorem PM.timesL {n : Nat} {xs ys : List Int} (h : PM n xs) (k : PM n ys) : PM n (timesL xs ys) ∧ pm n (timesL xs ys) = (pm n xs).mul (pm n ys) := by
  refine pm_mk (h.spt.mul k.spt) (by rw [timesL_len, h.len]) fun i i1 i2 => ?_
  rw [timesL_gi (by rw [h.len]; omega), h.gif i1 i2]
  have hb := h.spt.in i1 i2
  show _ = (((pm n ys).f ((pm n xs).f i) : Nat) : Int)
  rw [← k.gif hb.1 hb.2]
  congr 1; omega
/-- The first k factors done behind P. -/
def pf (P : List Int) (ls : List (List Int)) : Nat → List Int
  | 0 => P
  | k + 1 => timesL (pf P ls k) (ri ls k)
theorem pf_pm {n : Nat} {P : List Int} {ls : List (List Int)} (hP : PM n P) (hl : PML n ls) : ∀ k, k ≤ ls.length → PM n (pf P ls k) ∧ pm n (pf P ls k) = (pm n P).mul (prd ((pms n ls).take k))
  | 0, _ => ⟨hP, (Pm.mul_one _).symm⟩
  | k + 1, hk => by
    obtain ⟨a, b⟩ := pf_pm hP hl k (by omega)
    have hx : PM n (ri ls k) := by rw [ri_of_lt (by omega)]; exact hl _ (List.getElem_mem _)
    have := a.timesL hx
    refine ⟨this.1, ?_⟩
    show pm n (timesL (pf P ls k) (ri ls k)) = _
    rw [this.2, b]
    have e : (pms n ls).take (k + 1) = (pms n ls).take k ++ [pm n (ri ls k)] := by
      unfold pms
      rw [← List.map_take, ← List.map_take, take_ri (by omega), List.map_append]; rfl
    rw [e, prd_app, Pm.mul_assoc]; rfl
def pst (n : Nat) (q : Int) : List Int := if q % 2 = 0 then idL n else halfL n
theorem pst_pm (n : Nat) (q : Int) : PM n (pst n q) ∧ pm n (pst n q) = dlp n q := by
  unfold pst dlp; split
  · exact PM.idL n
  · exact PM.halfL n
/-- The permutation of the normal form is that of the word. -/
theorem perm_law {n : Nat} {w : List Int} {q : Int} {ls : List (List Int)} (n1 : 1 ≤ n) (n8 : n ≤ 8) (hv : Val n w) (ho : NFo n q ls) (hq : Qv n (raw n w) (q, pms n ls)) : pf (pst n q) ls ls.length = permOf n w := by
  have h1 := pf_pm (pst_pm n q).1 ho.pl ls.length (Nat.le_refl _)
  have h2 := perm_pw n1 n8 hv
  refine h1.1.eq h2.1 ?_
  rw [h1.2, h2.2, ← pss_raw (n := n) w, hq.pss, (pst_pm n q).2]
  unfold pss
  rw [List.take_of_length_le (by unfold pms; simp)]
/-! ### Words -/
theorem Wd.of_list {n : Nat} : ∀ (N : Nat) {xs : List Int}, PM n xs → invs xs = (N : Int) → Wd (pm n xs) (wlet xs N)
  | 0, xs, h, e => by
    have := sorted_id h.ok e
    rw [h.len] at this
    have h2 : pm n xs = Pm.one := by rw [this]; exact (PM.idL n).2
    rw [h2]; exact Wd.nil
  | N + 1, xs, h, e => by
    have hne := falls_of_invs (l := xs) (by omega)
    obtain ⟨_, f1, f2, f3, _⟩ := ffN_spec hne
    have hl := h.len
    have hlt : gi xs (ffN xs) < gi xs (ffN xs - 1) := by unfold fallB at f3; exact of_decide_eq_true f3
    have hst := (h.St f1 (by omega)).2 hlt
    have hsw := h.swL f1 (by omega)
    have hin := swL_invs f1 f2 hlt
    have ih := Wd.of_list N hsw.1 (by omega)
    rw [hsw.2] at ih
    have hle : ∀ j, wleft xs (j + 1) = wleft (swL xs (ffN xs)) j := fun j => by
      induction j with
      | zero => rfl
      | succ j ih => rw [wleft, ih]; rfl
    have : wlet xs (N + 1) = (ffN xs : Int) :: wlet (swL xs (ffN xs)) N := by
      unfold wlet
      rw [List.range_succ_eq_map, List.map_cons, List.map_map]
      congr 1
      exact List.map_congr_left fun j _ => by show (ffN (wleft xs (j + 1)) : Int) = _; rw [hle]
    rw [this]
    exact Wd.cons _ _ _ hst ih
/-- The word of a factor. -/
def wordL (xs : List Int) : List Int := wlet xs (invs xs).toNat
theorem wordL_wd {n : Nat} {xs : List Int} (h : PM n xs) : Wd (pm n xs) (wordL xs) := Wd.of_list _ h (by have := invs_nonneg xs; omega)
theorem wordL_len (xs : List Int) : ((wordL xs).length : Int) = invs xs := by unfold wordL; rw [wlet_len]; have := invs_nonneg xs; omega
theorem wordL_val {n : Nat} {xs : List Int} (h : PM n xs) : Val n (wordL xs) := (wordL_wd h).val h.spt
theorem wordL_br {n : Nat} {xs : List Int} (h : PM n xs) : Br n (wordL xs) (wd n (pm n xs)) := Wd.br h.spt (wordL_wd h) (wd_spec h.spt)
/-- The half twist, or the way back of it. -/
def dlt (n : Nat) (q : Int) : List Int := if q < 0 then winvL (wordL (halfL n)) else wordL (halfL n)
def wordN (n : Nat) (q : Int) (ls : List (List Int)) : List Int := (List.replicate q.natAbs (dlt n q)).flatten ++ (ls.map wordL).flatten
theorem rep_br {n : Int} {x y : List Int} (hx : Val n x) (hy : Val n y) (h : Br n x y) : ∀ a, Br n (List.replicate a x).flatten (List.replicate a y).flatten
  | 0 => Br.refl _ _
  | a + 1 => by
    rw [List.replicate_succ, List.flatten_cons, List.replicate_succ, List.flatten_cons]
    exact (h.right _).trans ((rep_br hx hy h a).left hy)
theorem Br.invs {n : Int} {x y : List Int} (hx : Val n x) (hy : Val n y) (h : Br n x y) : Br n (winvL x) (winvL y) := by
  -- x' ~ x' y y' ~ x' x y' ~ y'
  have a := (Br.inv hy).left hx.inv
  rw [List.append_nil] at a
  have b := ((h.symm.left hx.inv).right (winvL y))
  have c := (Br.inv' hx).right (winvL y)
  simp only [List.append_assoc, List.nil_append] at a b c
  exact a.symm.trans (b.trans c)
theorem dlt_val (n : Nat) (q : Int) : Val n (dlt n q) := by
  unfold dlt; split
  · exact (wordL_val (PM.halfL n).1).inv
  · exact wordL_val (PM.halfL n).1
theorem wordN_val {n : Nat} {q : Int} {ls : List (List Int)} (h : PML n ls) : Val n (wordN n q ls) := by
  refine (rep_val (dlt_val n q) _).app fun x hx => ?_
  obtain ⟨y, hy, hx⟩ := List.mem_flatten.1 hx
  obtain ⟨z, hz, rfl⟩ := List.mem_map.1 hy
  exact wordL_val (h z hz) x hx
theorem wordN_br {n : Nat} {q : Int} {ls : List (List Int)} (h : PML n ls) : Br n (wordN n q ls) (nw n (q, pms n ls)) := by
  have hh := wordL_br (PM.halfL n).1
  rw [(PM.halfL n).2] at hh
  have hv := wordL_val (PM.halfL n).1
  have hv2 : Val n (wd n (Pm.dl n)) := wd_val (Spt.dl n)
  have e1 : Br n (List.replicate q.natAbs (dlt n q)).flatten (hw n q) := by
    unfold dlt hw
    by_cases h0 : q < 0
    · rw [if_pos h0, if_neg (by omega)]; exact rep_br hv.inv hv2.inv (hh.invs hv hv2) _
    · rw [if_neg h0, if_pos (by omega)]; exact rep_br hv hv2 hh _
  have e2 : Br n (ls.map wordL).flatten (wdl n (pms n ls)) := by
    have hl := h
    clear h
    induction ls with
    | nil => exact Br.refl _ _
    | cons x ls ih =>
      have hx := hl x (by simp)
      show Br n (wordL x ++ (ls.map wordL).flatten) (wd n (pm n x) ++ wdl n (pms n ls))
      exact ((wordL_br hx).right _).trans ((ih fun z hz => hl z (by simp [hz])).left (wd_val hx.spt))
  unfold wordN nw
  exact (e1.right _).trans (e2.left (hw_val n q))
/-- .. is a word of the same braid. -/
theorem wordN_law {n : Nat} {w : List Int} {q : Int} {ls : List (List Int)} (hv : Val n w) (ho : NFo n q ls) (hq : Qv n (raw n w) (q, pms n ls)) : Br n (wordN n q ls) w :=
  (wordN_br ho.pl).trans (hq.br.symm.trans (nw_raw hv))
/-! ### How long, and the sum of the signs -/
def suml (ls : List (List Int)) : Int := (ls.map invs).sum
theorem dlt_len (n : Nat) (q : Int) : ((dlt n q).length : Int) = invs (halfL n) := by
  unfold dlt; split
  · rw [show (winvL (wordL (halfL n))).length = (wordL (halfL n)).length by unfold winvL; simp, wordL_len]
  · rw [wordL_len]
theorem half_prs {n : Nat} : invs (halfL n) = prs n := by
  unfold invs prs
  rw [halfL_len]
  refine sm_congr fun a a1 a2 => sm_congr fun b b1 b2 => ?_
  by_cases h : a < b
  · have : crB (halfL n) a b = true := by unfold crB; rw [halfL_gi (by omega), halfL_gi (by omega)]; exact decide_eq_true (by omega)
    rw [this, Bool.and_true]
  · rw [decide_eq_false h]; rfl
theorem rep_len (x : List Int) : ∀ a : Nat, (((List.replicate a x).flatten).length : Int) = a * x.length
  | 0 => by simp
  | a + 1 => by
    rw [List.replicate_succ, List.flatten_cons, List.length_append, Int.natCast_add, rep_len x a]
    have := Int.add_mul (a : Int) 1 (x.length : Int)
    rw [Int.one_mul] at this
    rw [show ((a + 1 : Nat) : Int) = (a : Int) + 1 by omega, this]; omega
theorem wordN_len (n : Nat) (q : Int) (ls : List (List Int)) : ((wordN n q ls).length : Int) = (q.natAbs : Int) * prs n + suml ls := by
  unfold wordN
  rw [List.length_append, Int.natCast_add, rep_len, dlt_len, half_prs]
  congr 1
  induction ls with
  | nil => rfl
  | cons x ls ih =>
    show (((wordL x) ++ (ls.map wordL).flatten).length : Int) = invs x + suml ls
    rw [List.length_append, Int.natCast_add, wordL_len, ih]
theorem ssum_app (x y : List Int) : ssum (x ++ y) = ssum x + ssum y := by
  refine list_snoc (P := fun y => ssum (x ++ y) = ssum x + ssum y) ?_ (fun y k ih => ?_) y
  · simp [ssum]
  · rw [← List.append_assoc, ssum_snoc, ih, ssum_snoc]; omega
theorem ssum_wd {p : Pm} {w : List Int} (h : Wd p w) : ssum w = (w.length : Int) := by
  induction h with
  | nil => rfl
  | cons p k w hk _ ih =>
    have : ssum ((k : Int) :: w) = ssum [(k : Int)] + ssum w := ssum_app [(k : Int)] w
    rw [this, ih]
    have e : ssum [(k : Int)] = 1 := by
      have := ssum_snoc [] (k : Int)
      rw [List.nil_append, sgn_pos (by omega)] at this
      rw [this]; rfl
    rw [e]; simp; omega
theorem ssum_inv {n : Nat} {x : List Int} (h : Val n x) : ssum (winvL x) = - ssum x := by
  have := (br_st (Br.inv h)).2.2
  rw [ssum_app] at this
  have h0 : ssum [] = 0 := rfl
  omega
theorem ssum_rep (x : List Int) : ∀ a : Nat, ssum (List.replicate a x).flatten = a * ssum x
  | 0 => by simp [ssum]
  | a + 1 => by
    rw [List.replicate_succ, List.flatten_cons, ssum_app, ssum_rep x a]
    have := Int.add_mul (a : Int) 1 (ssum x)
    rw [Int.one_mul] at this
    rw [show ((a + 1 : Nat) : Int) = (a : Int) + 1 by omega, this]; omega
theorem ssum_wordN {n : Nat} {q : Int} {ls : List (List Int)} (h : PML n ls) : ssum (wordN n q ls) = q * prs n + suml ls := by
  unfold wordN
  rw [ssum_app, ssum_rep]
  have hw := wordL_wd (PM.halfL n).1
  have hs : ssum (wordL (halfL n)) = prs n := by rw [ssum_wd hw, wordL_len, half_prs]
  have e1 : (q.natAbs : Int) * ssum (dlt n q) = q * prs n := by
    unfold dlt
    by_cases h0 : q < 0
    · rw [if_pos h0, ssum_inv (wordL_val (PM.halfL n).1), hs, show (q.natAbs : Int) = -q by omega, Int.neg_mul_neg]
    · rw [if_neg h0, hs, show (q.natAbs : Int) = q by omega]
  rw [e1]
  congr 1
  induction ls with
  | nil => rfl
  | cons x ls ih =>
    show ssum (wordL x ++ (ls.map wordL).flatten) = invs x + suml ls
    rw [ssum_app, ih fun z hz => h z (by simp [hz]), ssum_wd (wordL_wd (h x (by simp))), wordL_len]
/-- The sum of a word, off its normal form. -/
theorem sum_law {n : Nat} {w : List Int} {q : Int} {ls : List (List Int)} (hv : Val n w) (ho : NFo n q ls) (hq : Qv n (raw n w) (q, pms n ls)) : ssum w = q * prs n + suml ls := by
  rw [← (br_st (wordN_law hv ho hq)).2.2, ssum_wordN ho.pl]
end Go.Proofs.YtigffblelngpjaaDoor
/- Contract of normals.Permutation. -/
namespace Go.Proofs.YtigffblelngpjaaDoor
set_option linter.unusedVariables false
set_option linter.unusedSimpArgs false
set_option maxRecDepth 8000
open Go Go.RowKit

theorem ob_row {w : World} {g n : Nat} {xs : List Int} (h : OB w g xs) (hl : xs.length = n) : w.rowIs g 5 n fun i => .int .u8 (gi xs i) := by subst hl; exact h
theorem row_ob {w : World} {g n : Nat} {xs : List Int} (h : w.rowIs g 5 n fun i => .int .u8 (gi xs i)) (hl : xs.length = n) : OB w g xs := by subst hl; exact h
theorem row_to {w : World} {b n : Nat} {t : TypeId} {f g : Nat → Value} (h : w.rowIs b t n f) (hg : ∀ i, i < n → f i = g i) : w.rowIs b t n g := by
  obtain ⟨c, h1, h2, h3⟩ := h
  exact ⟨c, h1, h2, fun i hi => by rw [h3 i hi, hg i hi]⟩
/-- The first j places are done. -/
def mid (xs ys : List Int) (j i : Nat) : Int := if i < j then gi ys (gi xs i - 1).toNat else gi xs i
set_option maxHeartbeats 16000000 in
theorem NPerm_calls (v : Value) (n : Nat) (q : Int) (ls : List (List Int)) (w : World) (h : NX w v n q ls) (ho : NFo n q ls) :
    Calls Tryd.prog 26 #[v] w fun e w' => ∃ b, e = .returned (.tuple #[.slice (some ⟨b, 0, none⟩) n n, .int .i64 0]) ∧ OB w' b (pf (pst n q) ls ls.length) ∧ Ext w w' := by
  have n1 := ho.n1; have n8 := ho.n8; have hlb := ho.lb; have hqb := ho.qb
  have hck := fun w' (x : Ext w w') => NCheck_calls v n q ls w' (h.ext x) ho
  have hpf := fun k (hk : k ≤ ls.length) => (pf_pm (pst_pm n q).1 ho.pl k hk).1
  have hpm := fun k (hk : k < ls.length) => show PM n (ri ls k) from by rw [ri_of_lt hk]; exact ho.pl _ (List.getElem_mem _)
  obtain ⟨a, rfl, hX⟩ := h
  obtain ⟨W, hW⟩ : ∃ W, W = w.alloc (.cells #[.int .i64 (n : Int), .int .i64 q, .slice a ls.length ls.length] 30) := ⟨_, rfl⟩
  have xW : Ext w W := by rw [hW]; exact (Ext.refl w).alloc _
  have b1 : B3 W w.heap.size (.int .i64 (n : Int)) (.int .i64 q) (.slice a ls.length ls.length) 30 := by rw [hW]; exact B3.new w _ _ _ _
  obtain ⟨vs, bx⟩ := BX.mk' hX ho.pl xW b1
  have hel := fun i (hi : i < ls.length) => (bx.el ho.pl hi).2
  have hpar := bits_par q
  obtain ⟨P, hP⟩ : ∃ P : Nat → List Int, P = pf (pst n q) ls := ⟨_, rfl⟩
  have hP0 : P 0 = pst n q := by rw [hP]; rfl
  have hPs : ∀ k, P (k + 1) = timesL (P k) (ri ls k) := fun k => by rw [hP]; rfl
  rw [← hP] at hpf ⊢
  obtain ⟨m, hm⟩ : ∃ m, m = ls.length := ⟨_, rfl⟩
  rw [← hm] at hck hpf hpm hel hW b1 hlb ⊢
  have HCk := Lib.hid (hck W xW); have HPf := Lib.hid hpf; have HPm := Lib.hid hpm; have HEl := Lib.hid hel; have HW := Lib.hid hW; have XW := Lib.hid xW; have HB := Lib.hid b1; have HP0 := Lib.hid hP0; have HPs := Lib.hid hPs
  have c0 := b1.c0; have c1 := b1.c1; have c2 := b1.c2
  rw [hW] at c0 c1 c2
  clear hck hpf hpm hel hW xW b1 hP0 hPs hP hm bx hX ho
  go_enter Tryd.func26, Tryd.ntmps26
  go_wp2_with fail
  rw [← HW.out]
  refine HCk.out.mono ?_
  rintro e w1 ⟨rfl, x1⟩
  have X1 := Lib.hid x1
  clear c0 c1 c2 x1
  have c0 := X1.out.cell HB.out.c0; have c1 := X1.out.cell HB.out.c1; have c2 := X1.out.cell HB.out.c2
  go_wp2_with fail
  refine (Identity_calls n _ n8).mono ?_
  intro e w2 hr
  obtain ⟨g0, rfl, ob0, lo0, x2⟩ := hr.len' (idL_len n)
  have X2 := Lib.hid (X1.out.trans x2)
  have Hlo := Lib.hid (Nat.le_trans X1.out.size lo0)
  have HO := Lib.hid ob0
  unfold slc
  clear c0 c1 c2 hr ob0 lo0 x2
  have c0 := X2.out.cell HB.out.c0; have c1 := X2.out.cell HB.out.c1; have c2 := X2.out.cell HB.out.c2
  by_cases hq : q % 2 = 0
  · have e0 : (q % 2 != 0) = false := by simp [hq]
    have hp0 : P 0 = idL n := by rw [HP0.out]; exact if_pos hq
    obtain ⟨g, hg⟩ : ∃ g, g = g0 := ⟨_, rfl⟩
    subst hg
    obtain ⟨w3, hw3⟩ : ∃ w3, w3 = w2 := ⟨_, rfl⟩
    subst hw3
    have X3 := X2
    have HO3 : Hid (OB w3 g (P 0)) := Lib.hid (by rw [hp0]; exact HO.out)
    clear hp0 hq
    have hcells := fun i (hi : i < m) => HEl.out i hi
    have Hc2 := Lib.hid (X3.out.cell HB.out.c2)
    have d2 := X3.out.cell HB.out.c2
    go_wp2
    go_loopw [7, 8, 9, 28] (fun _ _ _ i wr => ∃ k : Nat, k ≤ m ∧ i = .int .i64 k ∧ Hid (Ext W wr ∧ OB wr g (P k))) (fun _ _ _ i _ => m - (intOf i).toNat)
    case atStart => exact ⟨0, Nat.zero_le _, rfl, Lib.hid ⟨X3.out, HO3.out⟩⟩
    case round =>
      obtain ⟨k, hk, rfl, H⟩ := hrel
      by_cases hlt : k < m
      · obtain ⟨b, o, av, rfl, hc, hI⟩ := HEl.out k hlt
        have hck := H.out.1.cell hc
        have e1 : (k : Int) < m := by omega
        have e2 : (0 : Int) ≤ k := by omega
        obtain ⟨_, _, av2, hv, hav⟩ := hI.open
        have hPk := HPf.out k hk
        have hPy := HPm.out k hlt
        simp only [Value.slice.injEq] at hv
        obtain ⟨rfl, hln, _⟩ := hv
        have hay : ∃ b o, av = some ⟨b, o, none⟩ ∧ ∀ i, i < n → W.cell? ⟨b, o + i, none⟩ = some (.int .u8 (gi (ri ls k) i)) := by
          rcases hav with ⟨_, h0, _⟩ | ⟨b', o', e, hh⟩
          · omega
          · exact ⟨b', o', e, fun i hi => hh i (by omega)⟩
        obtain ⟨b', o', rfl, hfc⟩ := hay
        have Hfc := Lib.hid hfc; have HPk := Lib.hid hPk; have HPy := Lib.hid hPy
        have hrow := ob_row H.out.2 hPk.len
        have Hmid := Lib.hid (row_to (g := fun i => .int .u8 (mid (P k) (ri ls k) 0 i)) hrow fun i hi => by unfold mid; rw [if_neg (by omega)])
        clear hc hI hav hfc hPk hPy hrow hln
        go_wp2
        go_loopw [8, 9, 34] (fun _ _ i wr => ∃ j : Nat, j ≤ n ∧ i = .int .i64 j ∧ Hid (Ext W wr ∧ wr.rowIs g 5 n fun i => .int .u8 (mid (P k) (ri ls k) j i))) (fun _ _ i _ => n - (intOf i).toNat)
        case atStart => exact ⟨0, Nat.zero_le _, rfl, Lib.hid ⟨H.out.1, Hmid.out⟩⟩
        case round =>
          obtain ⟨j, hj, rfl, G⟩ := hrel
          by_cases hjt : j < n
          · have f1 : (j : Int) < n := by omega
            have f2 : (0 : Int) ≤ j := by omega
            have hrj := G.out.2.cell (i := j) hjt
            have hfz := G.out.2.frozen j
            have hbd := HPk.out.bd (i := j + 1) (by omega) (by omega)
            rw [Nat.add_sub_cancel] at hbd
            obtain ⟨y, hy⟩ : ∃ y : Nat, gi (P k) j = (y : Int) + 1 := ⟨(gi (P k) j - 1).toNat, by omega⟩
            have hyn : y < n := by omega
            have hm1 : mid (P k) (ri ls k) j j = (y : Int) + 1 := by unfold mid; rw [if_neg (by omega), hy]
            rw [hm1] at hrj
            have hfy := G.out.1.cell (Hfc.out y hyn)
            have f3 : (y : Int) < n := by omega
            have f4 : (0 : Int) ≤ y := by omega
            have f5 : IntKind.u8.wrap ((y : Int) + 1 - 1) = (y : Int) := by rw [Int.add_sub_cancel]; exact IntWalk.u8_in _ ⟨by omega, by omega⟩
            have hn := (G.out.2.set j (.int .u8 (gi (ri ls k) y)))
            have HN := Lib.hid (show Ext W (wr.setCell ⟨g, j, none⟩ (.int .u8 (gi (ri ls k) y))) ∧ (wr.setCell ⟨g, j, none⟩ (.int .u8 (gi (ri ls k) y))).rowIs g 5 n fun i => .int .u8 (mid (P k) (ri ls k) (j + 1) i) from
              ⟨G.out.1.setCell Hlo.out _, row_to hn fun i hi => by
                by_cases e : i = j
                · subst e
                  simp only [if_true]
                  unfold mid; rw [if_pos (by omega), hy, Int.add_sub_cancel]; rfl
                · simp only [if_neg e]
                  unfold mid
                  by_cases e3 : i < j
                  · rw [if_pos e3, if_pos (by omega)]
                  · rw [if_neg e3, if_neg (by omega)]⟩)
            clear hbd hy hm1 hn
            go_wp2
            go_roundw
            case rel => exact ⟨j + 1, by omega, by go_num, HN⟩
            case measure => simp [intOf]; omega
          · obtain rfl : j = n := by omega
            have hfin : OB wr g (P (k + 1)) := by
              rw [HPs.out]
              refine row_ob (row_to G.out.2 fun i hi => ?_) (by rw [timesL_len, HPk.out.len])
              unfold mid; rw [if_pos hi, timesL_gi (by rw [HPk.out.len]; exact hi)]
            have HN := Lib.hid (show Ext W wr ∧ OB wr g (P (k + 1)) from ⟨G.out.1, hfin⟩)
            clear hfin
            go_wp2
            go_roundw
            case rel => exact ⟨k + 1, by omega, by go_num, HN⟩
            case measure => simp [intOf]; omega
      · obtain rfl : k = m := by omega
        go_wp2
        go_ret2
        exact ⟨_, rfl, H.out.2, XW.out.trans H.out.1⟩
  · have e0 : (q % 2 != 0) = true := by simp [hq]
    have hp0 : P 0 = halfL n := by rw [HP0.out]; exact if_neg hq
    go_wp2_with fail
    refine (Half2_calls n _ n8).mono ?_
    rintro e w3 ⟨g, rfl, ob, lo, x3⟩
    have X3 := Lib.hid (X2.out.trans x3)
    replace Hlo : Hid (W.heap.size ≤ g) := Lib.hid (Nat.le_trans X2.out.size lo)
    have HO3 : Hid (OB w3 g (P 0)) := Lib.hid (by rw [hp0]; exact ob)
    clear hp0 hq ob lo x3 c0 c1 c2
    have hcells := fun i (hi : i < m) => HEl.out i hi
    have Hc2 := Lib.hid (X3.out.cell HB.out.c2)
    have d2 := X3.out.cell HB.out.c2
    go_wp2
    go_loopw [7, 8, 9, 28] (fun _ _ _ i wr => ∃ k : Nat, k ≤ m ∧ i = .int .i64 k ∧ Hid (Ext W wr ∧ OB wr g (P k))) (fun _ _ _ i _ => m - (intOf i).toNat)
    case atStart => exact ⟨0, Nat.zero_le _, rfl, Lib.hid ⟨X3.out, HO3.out⟩⟩
    case round =>
      obtain ⟨k, hk, rfl, H⟩ := hrel
      by_cases hlt : k < m
      · obtain ⟨b, o, av, rfl, hc, hI⟩ := HEl.out k hlt
        have hck := H.out.1.cell hc
        have e1 : (k : Int) < m := by omega
        have e2 : (0 : Int) ≤ k := by omega
        obtain ⟨_, _, av2, hv, hav⟩ := hI.open
        have hPk := HPf.out k hk
        have hPy := HPm.out k hlt
        simp only [Value.slice.injEq] at hv
        obtain ⟨rfl, hln, _⟩ := hv
        have hay : ∃ b o, av = some ⟨b, o, none⟩ ∧ ∀ i, i < n → W.cell? ⟨b, o + i, none⟩ = some (.int .u8 (gi (ri ls k) i)) := by
          rcases hav with ⟨_, h0, _⟩ | ⟨b', o', e, hh⟩
          · omega
          · exact ⟨b', o', e, fun i hi => hh i (by omega)⟩
        obtain ⟨b', o', rfl, hfc⟩ := hay
        have Hfc := Lib.hid hfc; have HPk := Lib.hid hPk; have HPy := Lib.hid hPy
        have hrow := ob_row H.out.2 hPk.len
        have Hmid := Lib.hid (row_to (g := fun i => .int .u8 (mid (P k) (ri ls k) 0 i)) hrow fun i hi => by unfold mid; rw [if_neg (by omega)])
        clear hc hI hav hfc hPk hPy hrow hln
        go_wp2
        go_loopw [8, 9, 34] (fun _ _ i wr => ∃ j : Nat, j ≤ n ∧ i = .int .i64 j ∧ Hid (Ext W wr ∧ wr.rowIs g 5 n fun i => .int .u8 (mid (P k) (ri ls k) j i))) (fun _ _ i _ => n - (intOf i).toNat)
        case atStart => exact ⟨0, Nat.zero_le _, rfl, Lib.hid ⟨H.out.1, Hmid.out⟩⟩
        case round =>
          obtain ⟨j, hj, rfl, G⟩ := hrel
          by_cases hjt : j < n
          · have f1 : (j : Int) < n := by omega
            have f2 : (0 : Int) ≤ j := by omega
            have hrj := G.out.2.cell (i := j) hjt
            have hfz := G.out.2.frozen j
            have hbd := HPk.out.bd (i := j + 1) (by omega) (by omega)
            rw [Nat.add_sub_cancel] at hbd
            obtain ⟨y, hy⟩ : ∃ y : Nat, gi (P k) j = (y : Int) + 1 := ⟨(gi (P k) j - 1).toNat, by omega⟩
            have hyn : y < n := by omega
            have hm1 : mid (P k) (ri ls k) j j = (y : Int) + 1 := by unfold mid; rw [if_neg (by omega), hy]
            rw [hm1] at hrj
            have hfy := G.out.1.cell (Hfc.out y hyn)
            have f3 : (y : Int) < n := by omega
            have f4 : (0 : Int) ≤ y := by omega
            have f5 : IntKind.u8.wrap ((y : Int) + 1 - 1) = (y : Int) := by rw [Int.add_sub_cancel]; exact IntWalk.u8_in _ ⟨by omega, by omega⟩
            have hn := (G.out.2.set j (.int .u8 (gi (ri ls k) y)))
            have HN := Lib.hid (show Ext W (wr.setCell ⟨g, j, none⟩ (.int .u8 (gi (ri ls k) y))) ∧ (wr.setCell ⟨g, j, none⟩ (.int .u8 (gi (ri ls k) y))).rowIs g 5 n fun i => .int .u8 (mid (P k) (ri ls k) (j + 1) i) from
              ⟨G.out.1.setCell Hlo.out _, row_to hn fun i hi => by
                by_cases e : i = j
                · subst e
                  simp only [if_true]
                  unfold mid; rw [if_pos (by omega), hy, Int.add_sub_cancel]; rfl
                · simp only [if_neg e]
                  unfold mid
                  by_cases e3 : i < j
                  · rw [if_pos e3, if_pos (by omega)]
                  · rw [if_neg e3, if_neg (by omega)]⟩)
            clear hbd hy hm1 hn
            go_wp2
            go_roundw
            case rel => exact ⟨j + 1, by omega, by go_num, HN⟩
            case measure => simp [intOf]; omega
          · obtain rfl : j = n := by omega
            have hfin : OB wr g (P (k + 1)) := by
              rw [HPs.out]
              refine row_ob (row_to G.out.2 fun i hi => ?_) (by rw [timesL_len, HPk.out.len])
              unfold mid; rw [if_pos hi, timesL_gi (by rw [HPk.out.len]; exact hi)]
            have HN := Lib.hid (show Ext W wr ∧ OB wr g (P (k + 1)) from ⟨G.out.1, hfin⟩)
            clear hfin
            go_wp2
            go_roundw
            case rel => exact ⟨k + 1, by omega, by go_num, HN⟩
            case measure => simp [intOf]; omega
      · obtain rfl : k = m := by omega
        go_wp2
        go_ret2
        exact ⟨_, rfl, H.out.2, XW.out.trans H.out.1⟩
end Go.Proofs.YtigffblelngpjaaDoor
/- Contract of normals.Word. -/
namespace Go.Proofs.YtigffblelngpjaaDoor
set_option linter.unusedVariables false
set_option linter.unusedSimpArgs false
set_option maxRecDepth 8000
open Go Go.RowKit

theorem PWord_calls (n : Nat) (v : Value) (c : Nat) (xs : List Int) (w : World) (h : IS .u8 w v c xs) (hp : PM n xs) (n1 : 1 ≤ n) (h8 : n ≤ 8) :
    Calls Tryd.prog 61 #[v] w fun e w' => ∃ a m, e = .returned (.tuple #[.slice a m m, .int .i64 0]) ∧ m = (wordL xs).length ∧ IS .i64 w' (.slice a m m) m (wordL xs) ∧ Ext w w' := by
  refine (Word_ok v c xs w h (hp.u8l h8) (hp.chk n1 h8)).mono ?_
  intro e w' hr
  have hl := crossers_len xs
  have e1 : (crossers xs).length = (invs xs).toNat := by omega
  rw [e1] at hr
  obtain ⟨v', rfl, hi, x⟩ := hr
  obtain ⟨a, m, c', rfl, hm, hc, hi⟩ := hi.out
  have hwl : (wlet xs (invs xs).toNat).length = (invs xs).toNat := wlet_len _ _
  have : c' = m := by omega
  subst this
  exact ⟨a, c', rfl, hm, hi, x⟩
set_option maxHeartbeats 2000000 in
theorem Word1_calls (n Bx i : Nat) (q : Int) (ls : List (List Int)) (a : Option Addr) (vs : Nat → Value) (W : World) (h : BX n W Bx q ls a vs) (hp : PML n ls) (n1 : 1 ≤ n) (h8 : n ≤ 8) (hi : i < ls.length) :
    Calls Tryd.prog 63 #[.int .i64 (i : Int), .pointer (some ⟨Bx, 0, none⟩)] W fun e w' => ∃ a m, e = .returned (.slice a m m) ∧ m = (wordL (ri ls i)).length ∧ IS .i64 w' (.slice a m m) m (wordL (ri ls i)) ∧ Ext W w' := by
  have c2 := h.b3.c2
  obtain ⟨hP, b, o, av, rfl, hc, hI⟩ := h.el hp hi
  have HW := Lib.hid (PWord_calls n _ _ _ W hI hP n1 h8)
  obtain ⟨m, hm⟩ : ∃ m, m = ls.length := ⟨_, rfl⟩
  rw [← hm] at c2 hi
  have f1 : (i : Int) < m := by omega
  have f2 : (0 : Int) ≤ i := by omega
  clear h hp hI hP hm
  go_enter Tryd.func63, Tryd.ntmps63
  go_wp2_with fail
  refine HW.out.mono ?_
  rintro e w1 ⟨a, m2, rfl, hm, hi2, x⟩
  have HI := Lib.hid hi2; have X := Lib.hid x; have Hm := Lib.hid hm
  clear hi2 x hm
  go_wp2
  go_ret
  exact ⟨a, m2, rfl, Hm.out, HI.out, X.out⟩
set_option maxHeartbeats 2000000 in
theorem list_word (n Bx m : Nat) (q : Int) (ls : List (List Int)) (a : Option Addr) (vs : Nat → Value) (w : World) (h : BX n w Bx q ls a vs) (hp : PML n ls) (n1 : 1 ≤ n) (h8 : n ≤ 8) (hm : m = ls.length) (hm1 : m ≤ 1000) :
    Calls Tryd.prog 62 #[.int .i64 m, .func (Fn.func 63) #[] #[.pointer (some ⟨Bx, 0, none⟩)]] w fun e w' => ∃ g, e = .returned (.slice (some ⟨g, 0, none⟩) m m) ∧ ISX .i64 w' (.slice (some ⟨g, 0, none⟩) m m) m (ls.map wordL) ∧ Ext w w' := by
  have hc := fun i (hi : i < m) W (x : Ext w W) => Word1_calls n Bx i q ls a vs W (h.ext x) hp n1 h8 (by omega)
  have hfin : ∀ wr f, Ext w wr → wr.rowIs w.heap.size 34 m f → (∀ i, i < m → IS .i64 wr (f i) (wordL (ri ls i)).length (wordL (ri ls i))) → ∃ g, Ending.returned (.slice (some ⟨w.heap.size, 0, none⟩) m m) = .returned (.slice (some ⟨g, 0, none⟩) m m) ∧ ISX .i64 wr (.slice (some ⟨g, 0, none⟩) m m) m (ls.map wordL) ∧ Ext w wr := fun wr f x hr hf => by
    refine ⟨_, rfl, ISX.of_row hr (by simp [hm]) (by unfold maxLen; omega) fun i hi => ?_, x⟩
    rw [ri_map _ (by omega)]
    exact hf i hi
  have HF := Lib.hid hfin; have HC := Lib.hid hc
  have hmk := run_make_row' (P := Tryd.prog) 40 34 (.slice none 0 0) 24 Tryd.underlying40 (by kernel_rfl) rfl .i64 .i64 m (by omega) (by omega)
  clear hfin hc h hp hm
  go_enter Tryd.func62, Tryd.ntmps62
  go_wp2
  go_loopw [6, 11] (fun _ i wr => ∃ k : Nat, k ≤ m ∧ i = .int .i64 k ∧ Hid (Ext w wr ∧ ∃ f, wr.rowIs w.heap.size 34 m f ∧ (∀ i, i < k → IS .i64 wr (f i) (wordL (ri ls i)).length (wordL (ri ls i))) ∧ ∀ i, i < m → ∃ a b c, f i = .slice a b c)) (fun _ i _ => m - (intOf i).toNat)
  case atStart => exact ⟨0, Nat.zero_le _, rfl, Lib.hid ⟨(Ext.refl w).alloc _, fun _ => .slice none 0 0, World.rowIs_made _ _ _ _, fun i h1 => by omega, fun i _ => ⟨_, _, _, rfl⟩⟩⟩
  case round =>
    obtain ⟨k, hk, rfl, H⟩ := hrel
    by_cases hlt : k < m
    · have t1 : (k : Int) < m := by omega
      have t1' : (0 : Int) ≤ k := by omega
      go_wp2_with fail
      refine (HC.out k hlt wr H.out.1).mono ?_
      rintro e w1 ⟨a, mw, rfl, hmw, hi, x⟩
      obtain ⟨f, hrow0, hf, hsl⟩ := H.out.2
      have hrow := x.row hrow0
      obtain ⟨za, zb, zc, hz⟩ := hsl k hlt
      have hst := hrow.cell (i := k) hlt
      have hfz := hrow.frozen k
      rw [hz] at hst
      have HN := Lib.hid (show Ext w (w1.setCell ⟨w.heap.size, k, none⟩ (.slice a mw mw)) ∧ ∃ f, (w1.setCell ⟨w.heap.size, k, none⟩ (.slice a mw mw)).rowIs w.heap.size 34 m f ∧ (∀ i, i < k + 1 → IS .i64 (w1.setCell ⟨w.heap.size, k, none⟩ (.slice a mw mw)) (f i) (wordL (ri ls i)).length (wordL (ri ls i))) ∧ ∀ i, i < m → ∃ a b c, f i = .slice a b c from
        ⟨(H.out.1.trans x).setCell (Nat.le_refl _) _, _, hrow.set _ _, fun i h1 => by
          by_cases e : i = k
          · subst e; simp only [if_true]; rw [← hmw]; exact hi.setAt hst _
          · simp only [if_neg e]; exact ((hf i (by omega)).ext x).setAt hst _, fun i h1 => by
          by_cases e : i = k
          · simp only [if_pos e]; exact ⟨_, _, _, rfl⟩
          · simp only [if_neg e]; exact hsl i h1⟩)
      clear hrow0 hrow hf hsl hz hmw hi x
      go_wp2
      go_roundw
      case rel => exact ⟨k + 1, by omega, by go_num, HN⟩
      case measure => simp [intOf]; omega
    · obtain rfl : k = m := by omega
      have t1 : ¬ (k : Int) < k := by omega
      obtain ⟨f, hrow, hf, _⟩ := H.out.2
      have HR := Lib.hid (HF.out wr f H.out.1 hrow hf)
      clear hrow hf
      go_wp2
      go_ret
      exact HR.out
/-- The lengths of the first k words, and T half twists ahead of them. -/
def szs (T d : Nat) (ls : List (List Int)) : Nat → Nat
  | 0 => T * d
  | k + 1 => szs T d ls k + (wordL (ri ls k)).length
theorem take_flat {rows : List (List Int)} {k : Nat} (h : k < rows.length) : (rows.take (k + 1)).flatten = (rows.take k).flatten ++ ri rows k := by
  rw [take_ri h, List.flatten_append]; simp
theorem szs_len {n : Nat} {q : Int} {ls : List (List Int)} : ∀ k, k ≤ ls.length → szs q.natAbs (dlt n q).length ls k = ((List.replicate q.natAbs (dlt n q)).flatten ++ ((ls.map wordL).take k).flatten).length
  | 0, _ => by
    have := rep_len (dlt n q) q.natAbs
    rw [List.take_zero, List.flatten_nil, List.append_nil]
    have h2 : ((q.natAbs * (dlt n q).length : Nat) : Int) = (q.natAbs : Int) * ((dlt n q).length : Int) := Int.natCast_mul _ _
    show q.natAbs * (dlt n q).length = _
    omega
  | k + 1, hk => by
    rw [szs, szs_len k (by omega), take_flat (by simp; omega), ← List.append_assoc, List.length_append, List.length_append, List.length_append, ri_map _ (by omega)]
theorem wordL_le {n : Nat} (h8 : n ≤ 8) {xs : List Int} (h : PM n xs) : (wordL xs).length ≤ 28 := by
  have h1 := wordL_len xs
  have h2 := invs_le n h.len
  have h3 : prs n ≤ 28 := by
    rcases (show n = 0 ∨ n = 1 ∨ n = 2 ∨ n = 3 ∨ n = 4 ∨ n = 5 ∨ n = 6 ∨ n = 7 ∨ n = 8 by omega) with rfl | rfl | rfl | rfl | rfl | rfl | rfl | rfl | rfl <;> decide
  omega
theorem szs_le {n T d : Nat} (h8 : n ≤ 8) {ls : List (List Int)} (hp : PML n ls) : ∀ k, k ≤ ls.length → szs T d ls k ≤ T * d + 28 * k
  | 0, _ => by show T * d ≤ _; omega
  | k + 1, hk => by
    have := szs_le (T := T) (d := d) h8 hp k (by omega)
    have h2 := wordL_le h8 (show PM n (ri ls k) from by rw [ri_of_lt (by omega)]; exact hp _ (List.getElem_mem _))
    rw [szs]; omega
def RetWd (w : World) (xs : List Int) (e : Ending) (w' : World) : Prop :=
  (64 < xs.length ∧ e = .returned (.tuple #[.slice none 0 0, .int .i64 3]) ∧ Ext w w') ∨ (xs.length ≤ 64 ∧ ∃ g L, L = xs.length ∧ e = .returned (.tuple #[.slice (some ⟨g, 0, none⟩) L L, .int .i64 0]) ∧ IS .i64 w' (.slice (some ⟨g, 0, none⟩) L L) L xs ∧ Ext w w')
end Go.Proofs.YtigffblelngpjaaDoor
