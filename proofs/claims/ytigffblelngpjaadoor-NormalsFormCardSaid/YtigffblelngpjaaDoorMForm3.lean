/- Texts of this claim in one file: libraries and walks. -/
import Derived.Test.YtigffblelngpjaaDoorL20
import Derived.Test.YtigffblelngpjaaDoorMForm2
/- The plain laws of products, ways back and conjugates of normal forms. -/
namespace Go.Proofs.YtigffblelngpjaaDoor
set_option linter.unusedVariables false
set_option linter.unusedSimpArgs false
set_option maxRecDepth 8000
open Go Go.RowKit

theorem nfo_eq {n : Nat} {q p : Int} {ls ms : List (List Int)} (h : NFo n q ls) (k : NFo n p ms) (e : Qv n (q, pms n ls) (p, pms n ms)) : q = p ∧ ls = ms := by
  rcases Nat.lt_or_ge n 2 with hlt | hge
  · have hn : n = 1 := by have := h.n1; omega
    exact ⟨by rw [h.one hn, k.one hn], by rw [no_one h hn, no_one k hn]⟩
  · have e := Can.unique hge h.can k.can e
    simp only [Prod.mk.injEq] at e
    exact ⟨e.1, h.pl.eq k.pl e.2⟩
theorem nfo_nil {n : Nat} (n1 : 1 ≤ n) (n8 : n ≤ 8) {p : Int} (hp : n = 1 → p = 0) (hb : -1024 ≤ p ∧ p ≤ 1024) : NFo n p [] := ⟨n1, n8, fun z hz => by (cases hz), can_zero n p, hp, hb, by simp⟩
theorem raw_br {n : Nat} {u v : List Int} (n1 : 1 ≤ n) (hu : Val n u) (hv : Val n v) (h : Br n u v) : Qv n (raw n u) (raw n v) := by
  rcases Nat.lt_or_ge n 2 with hlt | hge
  · have hn : n = 1 := by omega
    subst hn
    rw [val_one hu, val_one hv]
    exact Qv.refl (SptL.nil 1)
  · have := raw_nfw hu
    rw [nfw_br hge h] at this
    exact this.trans (raw_nfw hv).symm
theorem law_c {n : Nat} {w v : List Int} {qa qb qc qd : Int} {la lb lc ld : List (List Int)} (ha : Qv n (raw n w) (qa, pms n la)) (hb : Qv n (raw n v) (qb, pms n lb)) (hc : Qv n (pr n (qa, pms n la) (qb, pms n lb)) (qc, pms n lc)) (hd : Qv n (raw n (w ++ v)) (qd, pms n ld)) (oc : NFo n qc lc) (od : NFo n qd ld) : qc = qd ∧ lc = ld := by
  refine nfo_eq oc od ?_
  rw [raw_app] at hd
  exact hc.symm.trans (((pr_left ha hb.sup.1).trans (pr_right hb ha.sup.2)).symm.trans hd)
theorem law_i {n : Nat} {w : List Int} {qa qi qz : Int} {la li lz : List (List Int)} (n1 : 1 ≤ n) (hw : Val n w) (ha : Qv n (raw n w) (qa, pms n la)) (hi : Qv n (nvi n (qa, pms n la)) (qi, pms n li)) (hz : Qv n (raw n (winvL w)) (qz, pms n lz)) (oi : NFo n qi li) (oz : NFo n qz lz) : qi = qz ∧ li = lz := by
  refine nfo_eq oi oz ?_
  have h0 : Qv n (pr n (raw n w) (raw n (winvL w))) (0, []) := by
    rw [← raw_app]
    exact raw_br n1 (hw.app hw.inv) (Val.nil _) (Br.inv hw)
  have h1 := (pr_left ha hz.sup.1).symm.trans h0
  have h2 := nvi_Qv (s := (qa, pms n la)) (t := raw n (winvL w)) ha.sup.2 hz.sup.1 h1
  exact hi.symm.trans (h2.trans hz)
theorem law_k {n : Nat} {qa qi qk : Int} {la li lk : List (List Int)} (oa : NFo n qa la) (hi : Qv n (nvi n (qa, pms n la)) (qi, pms n li)) (hk : Qv n (pr n (qa, pms n la) (qi, pms n li)) (qk, pms n lk)) (ok : NFo n qk lk) : qk = 0 ∧ lk = [] := by
  refine nfo_eq ok (nfo_nil oa.n1 oa.n8 (fun _ => rfl) ⟨by omega, by omega⟩) ?_
  exact hk.symm.trans ((pr_right hi oa.can.1).symm.trans (pr_nvi oa.can.1))
theorem law_o {n : Nat} {qa qi qk : Int} {la li lk : List (List Int)} (oa : NFo n qa la) (hi : Qv n (nvi n (qa, pms n la)) (qi, pms n li)) (hk : Qv n (pr n (qi, pms n li) (qa, pms n la)) (qk, pms n lk)) (ok : NFo n qk lk) : qk = 0 ∧ lk = [] := by
  refine nfo_eq ok (nfo_nil oa.n1 oa.n8 (fun _ => rfl) ⟨by omega, by omega⟩) ?_
  exact hk.symm.trans ((pr_left hi oa.can.1).symm.trans (nvi_pr oa.can.1))
theorem law_two {n : Nat} {P qa qs qt : Int} {la ls lt : List (List Int)} (hP : P % 2 = 0) (hs : Qv n (pr n (qa, pms n la) (P, pms n [])) (qs, pms n ls)) (ht : Qv n (pr n (P, pms n []) (qa, pms n la)) (qt, pms n lt)) (os : NFo n qs ls) (ot : NFo n qt lt) : qs = qt ∧ ls = lt := by
  refine nfo_eq os ot ?_
  have e1 : pr n (qa, pms n la) (P, pms n []) = (qa + P, pms n la) := by
    unfold pr
    have : flN n P (pms n la) = pms n la := by unfold flN; rw [if_pos hP]
    rw [this]; show (qa + P, pms n la ++ []) = _; rw [List.append_nil]
  have e2 : pr n (P, pms n []) (qa, pms n la) = (qa + P, pms n la) := by
    unfold pr
    have : flN n qa (pms n []) = [] := flN_nil n qa
    rw [this, Int.add_comm]; rfl
  rw [e1] at hs
  rw [e2] at ht
  exact hs.symm.trans ht
theorem nfo_single {n : Nat} {q : Int} {f : List Int} {l : List (List Int)} (h : NFo n q (f :: l)) (p : Int) : NFo n 0 [flT p f] := by
  obtain ⟨hP, h1, h2, h3⟩ := h.at (i := 0) (by simp)
  have hP' : PM n f := hP
  have e1 : pm n f ≠ Pm.one := fun e => h1 (by
    show setN (fallB f) (n - 1) = 0
    refine setN_zero.2 fun k k1 k2 => ?_
    have : ¬ (pm n f).St k := by rw [e]; exact one_St k
    have := fun hh => this ((hP'.St k1 (by omega)).2 hh)
    unfold fallB; exact decide_eq_false this)
  have e2 : pm n f ≠ Pm.dl n := fun e => h2 ((dl_all hP' h.n1).2 e)
  have hF := hP'.flT p
  have hne : pm n (flT p f) ≠ Pm.one ∧ pm n (flT p f) ≠ Pm.dl n := by
    unfold flT
    split
    · exact ⟨e1, e2⟩
    · rw [hP'.flipL.2]
      refine ⟨fun e => e1 ?_, fun e => e2 ?_⟩
      · have := congrArg (Pm.fl n) e; rwa [Pm.fl_fl, Pm.fl_one] at this
      · have := congrArg (Pm.fl n) e; rwa [Pm.fl_fl, Pm.fl_dl] at this
  refine ⟨h.n1, h.n8, fun z hz => by rw [List.mem_singleton.1 hz]; exact hF.1, can_one hF.1 (fun e => hne.1 (by rw [e]; exact (PM.idL n).2)) (fun e => hne.2 (by rw [e]; exact (PM.halfL n).2)), fun _ => rfl, ⟨by omega, by omega⟩, by simp⟩
theorem law_cyc {n : Nat} {qa qb qi qd qu : Int} {f : List Int} {l lb li ld lu : List (List Int)} (oa : NFo n qa (f :: l)) (hb : Qv n (qa, pms n (cycZ qa (f :: l))) (qb, pms n lb)) (hi : Qv n (nvi n (0, pms n [flT qa f])) (qi, pms n li)) (hd : Qv n (pr n (qi, pms n li) (qa, pms n (f :: l))) (qd, pms n ld)) (hu : Qv n (pr n (qd, pms n ld) (0, pms n [flT qa f])) (qu, pms n lu)) (ou : NFo n qu lu) (ob : NFo n qb lb) : qu = qb ∧ lu = lb := by
  refine nfo_eq ou ob ?_
  have hf := oa.pl f (by simp)
  have oc := (nfo_single oa qa).can.1
  have hcz := cycZ_pml (q := qa) oa.pl
  obtain ⟨C, hC⟩ : ∃ C : Int × List Pm, C = (0, pms n [flT qa f]) := ⟨_, rfl⟩
  obtain ⟨A, hA⟩ : ∃ A : Int × List Pm, A = (qa, pms n (f :: l)) := ⟨_, rfl⟩
  obtain ⟨B, hB⟩ : ∃ B : Int × List Pm, B = (qa, pms n (cycZ qa (f :: l))) := ⟨_, rfl⟩
  have hSA : SptL n A.2 := by rw [hA]; exact oa.can.1
  have hSC : SptL n C.2 := by rw [hC]; exact oc
  have hSB : SptL n B.2 := by rw [hB]; exact hcz.1.spt
  rw [← hC] at hi hu
  rw [← hA] at hd
  rw [← hB] at hb
  have key : pr n C B = pr n A C := by
    rw [hA, hB, hC, hcz.2]
    have e1 : pms n [flT qa f] = flN n qa [pm n f] := (hf.flT qa).2
    unfold pr
    rw [e1, flN_zero, flN_flN]
    have e2 : flN n (qa + qa) [pm n f] = [pm n f] := by unfold flN; rw [if_pos (by omega)]
    rw [e2]
    refine Prod.ext (by simp) ?_
    show [pm n f] ++ (pms n l ++ flN n qa [pm n f]) = pms n (f :: l) ++ flN n qa [pm n f]
    rw [← List.append_assoc]; rfl
  have hSn := nvi_sup hSC
  have g1 : Qv n (pr n (pr n (nvi n C) A) C) B := by
    rw [pr_assoc, ← key, ← pr_assoc]
    have := pr_left (t := B) (nvi_pr hSC) hSB
    rwa [one_pr] at this
  have g2 : Qv n (pr n (pr n (nvi n C) A) C) (pr n (qd, pms n ld) C) := pr_left ((pr_left hi hSA).trans hd) hSC
  exact hu.symm.trans (g2.symm.trans (g1.trans hb))
theorem ISX.lit1 {w : World} {e : TypeId} {g n : Nat} {u0 : Value} {r0 : List Int} (hg : g = w.heap.size) (p0 : IS .u8 w u0 n r0) (hn : r0.length = n) :
    ISX .u8 (w.alloc (.cells #[u0] e)) (.slice (some ⟨g, 0, none⟩) 1 1) 1 [r0] := by
  subst hg
  refine ⟨fun _ => u0, ISV.mk' rfl (Nat.le_refl _) (by unfold maxLen; omega) (fun i hi => ?_) fun i hi => ?_⟩
  · have : i = 0 := by omega
    subst this
    exact B1.c (Deep.blk_alloc_new _ _)
  · have : i = 0 := by omega
    subst this
    have := p0.ext ((Ext.refl w).alloc (.cells #[u0] e))
    show IS .u8 _ u0 (ri [r0] 0).length (ri [r0] 0)
    rw [show ri [r0] 0 = r0 from rfl, hn]; exact this
end Go.Proofs.YtigffblelngpjaaDoor
