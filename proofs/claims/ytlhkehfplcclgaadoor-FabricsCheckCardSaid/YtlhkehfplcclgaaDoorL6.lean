/- Texts of this claim in one file: libraries and walks. -/
import Derived.Test.YtlhkehfplcclgaaDoorL5
/- The table of plain data: what Of makes of it. No program in sight. -/
namespace Go.Proofs.YtlhkehfplcclgaaDoor
set_option linter.unusedVariables false
set_option linter.unusedSimpArgs false
open Go Go.RowKit

/-- A loop as plain data. -/
structure LD where
  y : Int
  back : Bool
  new : Bool
  thr : List Int
  past : List Int
/-- Which of the free ones a loop goes through, and what is left. -/
def thrL : List Int → List Nm → List Nm × List Nm
  | [], f => ([], f)
  | k :: ks, f => if f = [] then ([], f) else (ni f (k.toNat % f.length) :: (thrL ks (f.take (k.toNat % f.length) ++ f.drop (k.toNat % f.length + 1))).1, (thrL ks (f.take (k.toNat % f.length) ++ f.drop (k.toNat % f.length + 1))).2)
def pasO (made : List Nm) (d : Int) (k : Int) : Ps := ⟨ni made (k.toNat / 2 % made.length), decide (k.toNat % 2 = 1), d⟩
def pastL (ks : List Int) (made : List Nm) (d : Int) : List Ps := if made = [] then [] else ks.map (pasO made d)
structure TS where
  t : Tab
  free : List Nm
  made : List Nm
def yOf (x : LD) : Nat := x.y.toNat % 6
def dOf (x : LD) : Int := (x.y.toNat / 6 % 2 : Nat)
def lpOf (s : TS) (x : LD) : Lp := ⟨if x.back then 1 else 0, x.new || decide ((yi s.t (yOf x)).length = 0), (thrL (x.thr.take 4) s.free).1, pastL (x.past.take 5) s.made (dOf x)⟩
def idOf (s : TS) (x : LD) : Nm := ⟨(yOf x : Int) + 1, ((yi s.t (yOf x)).length : Nat)⟩
def stepT (s : TS) (x : LD) : TS := ⟨s.t.set (yOf x) (yi s.t (yOf x) ++ [lpOf s x]), (thrL (x.thr.take 4) s.free).2 ++ [idOf s x], s.made ++ [idOf s x]⟩
def initT : TS := ⟨[[], [], [], [], [], []], [], []⟩
def ofT (xs : List LD) : TS := (xs.take 60).foldl stepT initT

theorem thrL_perm : ∀ (ks : List Int) (f : List Nm), ((thrL ks f).1 ++ (thrL ks f).2).Perm f
  | [], f => by simp [thrL]
  | k :: ks, f => by
    unfold thrL
    by_cases h : f = []
    · rw [if_pos h]; simp
    · rw [if_neg h]
      have hl : k.toNat % f.length < f.length := Nat.mod_lt _ (List.length_pos_iff.2 h)
      generalize k.toNat % f.length = n at hl ⊢
      have ih := thrL_perm ks (f.take n ++ f.drop (n + 1))
      dsimp only
      rw [List.cons_append]
      refine (List.Perm.cons _ ih).trans ?_
      rw [ni_of hl]
      have e : f = f.take n ++ f[n] :: f.drop (n + 1) := by simp
      conv => rhs; rw [e]
      exact List.perm_middle.symm
theorem thrL_len : ∀ (ks : List Int) (f : List Nm), (thrL ks f).1.length ≤ ks.length
  | [], f => by simp [thrL]
  | k :: ks, f => by
    unfold thrL
    by_cases h : f = []
    · rw [if_pos h]; simp
    · rw [if_neg h]
      have ih := thrL_len ks (f.take (k.toNat % f.length) ++ f.drop (k.toNat % f.length + 1))
      dsimp only
      rw [List.length_cons, List.length_cons]; omega
theorem yi_set {t : Tab} {y z : Nat} (r : List Lp) (hy : y < t.length) : yi (t.set y r) z = if z = y then r else yi t z := by
  unfold yi
  by_cases h : z = y
  · subst h; rw [if_pos rfl]; simp [List.getD, hy]
  · rw [if_neg h]; simp [List.getD, List.getElem?_set, Ne.symm h]
theorem li_app {r : List Lp} {l : Lp} {n : Nat} : li (r ++ [l]) n = if n < r.length then li r n else if n = r.length then l else Lp.zero := by
  unfold li
  by_cases h : n < r.length
  · rw [if_pos h]; simp [List.getD, List.getElem?_append_left h]
  · rw [if_neg h]
    by_cases h2 : n = r.length
    · rw [if_pos h2]; subst h2; simp [List.getD]
    · rw [if_neg h2]; simp [List.getD, List.getElem?_eq_none (l := r ++ [l]) (i := n) (by simp; omega)]
theorem thrT_set {t : Tab} {y : Nat} (l : Lp) (hy : y < t.length) : (thrT (t.set y (yi t y ++ [l]))).Perm (thrT t ++ l.thr) := by
  have h1 : t = t.take y ++ yi t y :: t.drop (y + 1) := by rw [yi_of hy]; simp
  have h2 : t.set y (yi t y ++ [l]) = t.take y ++ (yi t y ++ [l]) :: t.drop (y + 1) := by
    rw [List.set_eq_take_append_cons_drop]; rw [if_pos hy]
  have e1 : thrT (t.set y (yi t y ++ [l])) = thrT (t.take y) ++ (thrR (yi t y) ++ l.thr ++ thrT (t.drop (y + 1))) := by
    rw [h2]; unfold thrT thrR; simp
  have e2 : thrT t = thrT (t.take y) ++ (thrR (yi t y) ++ thrT (t.drop (y + 1))) := by
    conv => lhs; rw [h1]
    unfold thrT; simp
  rw [e1, e2, List.append_assoc, List.append_assoc]
  refine List.Perm.append_left _ ?_
  rw [List.append_assoc]
  exact List.Perm.append_left _ List.perm_append_comm
theorem cntT_set {t : Tab} {y : Nat} (l : Lp) (hy : y < t.length) : cntT (t.set y (yi t y ++ [l])) = cntT t + 1 := by
  have h1 : t = t.take y ++ yi t y :: t.drop (y + 1) := by rw [yi_of hy]; simp
  have h2 : t.set y (yi t y ++ [l]) = t.take y ++ (yi t y ++ [l]) :: t.drop (y + 1) := by
    rw [List.set_eq_take_append_cons_drop]; rw [if_pos hy]
  rw [h2]
  conv => rhs; rw [h1]
  unfold cntT
  simp only [List.map_append, List.map_cons, List.sum_append, List.sum_cons, List.length_append, List.length_cons, List.length_nil]
  omega
theorem hasB_nm {t : Tab} {y n : Nat} : hasB t ⟨(y : Int) + 1, (n : Nat)⟩ = true ↔ y < t.length ∧ n < (yi t y).length := by
  unfold hasB
  dsimp only
  rw [show ((y : Int) + 1 - 1).toNat = y by omega]
  simp only [Bool.and_eq_true, decide_eq_true_eq]
  omega
theorem hasB_set {t : Tab} {y : Nat} (l : Lp) (hy : y < t.length) (a : Nm) : hasB (t.set y (yi t y ++ [l])) a = true ↔ hasB t a = true ∨ a = ⟨(y : Int) + 1, ((yi t y).length : Nat)⟩ := by
  constructor
  · intro h
    obtain ⟨z, m, rfl, hz, hm⟩ := hasB_iff h
    rw [List.length_set] at hz
    rw [yi_set _ hy] at hm
    by_cases e : z = y
    · subst e
      rw [if_pos rfl, List.length_append, List.length_singleton] at hm
      by_cases e2 : m = (yi t z).length
      · subst e2; exact .inr rfl
      · exact .inl (hasB_nm.2 ⟨hz, by omega⟩)
    · rw [if_neg e] at hm; exact .inl (hasB_nm.2 ⟨hz, hm⟩)
  · rintro (h | rfl)
    · obtain ⟨z, m, rfl, hz, hm⟩ := hasB_iff h
      refine hasB_nm.2 ⟨by rw [List.length_set]; exact hz, ?_⟩
      rw [yi_set _ hy]
      by_cases e : z = y
      · subst e; rw [if_pos rfl, List.length_append]; omega
      · rw [if_neg e]; exact hm
    · refine hasB_nm.2 ⟨by rw [List.length_set]; exact hy, ?_⟩
      rw [yi_set _ hy, if_pos rfl]; simp
/-- What holds of the table while it is made. -/
structure TInv (s : TS) : Prop where
  l6 : s.t.length = 6
  cov : ∀ a, hasB s.t a = true ↔ a ∈ s.made
  nd : s.made.Nodup
  fr : ∀ a ∈ s.free, a ∈ s.made
  fnd : s.free.Nodup
  tnd : (thrT s.t).Nodup
  dis : ∀ a ∈ s.free, a ∉ thrT s.t
  cnt : cntT s.t = (s.made.length : Nat)
  ri : ∀ r ∈ s.t, ∀ l ∈ r, RightL s.t l ∧ l.past.length ≤ 5
  new : ∀ y, y < 6 → 0 < (yi s.t y).length → (li (yi s.t y) 0).new = true
  ac : ∀ y, y < 6 → ∀ n, n < (yi s.t y).length → ∀ a ∈ needL (li (yi s.t y) n), s.made.idxOf a < s.made.idxOf ⟨(y : Int) + 1, (n : Nat)⟩
  pr : ∀ y, y < 6 → ∀ n, n + 1 < (yi s.t y).length → s.made.idxOf ⟨(y : Int) + 1, (n : Nat)⟩ < s.made.idxOf ⟨(y : Int) + 1, (n + 1 : Nat)⟩
theorem TInv.init : TInv initT := by
  have hy : ∀ y, yi initT.t y = [] := fun y => by
    rcases Nat.lt_or_ge y 6 with h | h
    · rcases (show y = 0 ∨ y = 1 ∨ y = 2 ∨ y = 3 ∨ y = 4 ∨ y = 5 by omega) with rfl | rfl | rfl | rfl | rfl | rfl <;> rfl
    · exact yi_end h
  refine ⟨rfl, fun a => ⟨fun h => ?_, fun h => by cases h⟩, List.nodup_nil, fun a h => (by cases h), List.nodup_nil, by decide, fun a h => (by cases h), rfl, fun r hr l hl => ?_, fun y _ h => ?_, fun y _ n h => ?_, fun y _ n h => ?_⟩
  · obtain ⟨z, m, rfl, _, hm⟩ := hasB_iff h
    rw [hy] at hm; simp at hm
  · obtain ⟨y, _, rfl⟩ := List.mem_iff_getElem.1 hr
    have := hy y
    rw [yi_of (by assumption)] at this
    rw [this] at hl; cases hl
  · rw [hy] at h; simp at h
  · rw [hy] at h; simp at h
  · rw [hy] at h; simp at h
theorem RightL.mono {t t' : Tab} {l : Lp} (h : RightL t l) (hm : ∀ a, hasB t a = true → hasB t' a = true) : RightL t' l := ⟨h.bed, h.n1, h.n2, fun a ha => ⟨(h.i1 a ha).1, hm _ (h.i1 a ha).2⟩, fun p hp => ⟨(h.i2 p hp).1, hm _ (h.i2 p hp).2⟩, h.one⟩
theorem nm_in {t : Tab} (h6 : t.length = 6) (hc : cntT t ≤ 60) {a : Nm} (h : hasB t a = true) : a.In := by
  obtain ⟨z, m, rfl, hz, hm⟩ := hasB_iff h
  have h1 : (yi t z).length ≤ 60 := by
    have h2 := cntT_take hz
    have h3 : cntT (t.take (z + 1)) ≤ cntT t := by
      unfold cntT
      have : t = t.take (z + 1) ++ t.drop (z + 1) := by simp
      conv => rhs; rw [this]
      rw [List.map_append, List.sum_append]; omega
    have h4 : 0 ≤ cntT (t.take z) := by unfold cntT; omega
    omega
  exact ⟨⟨by dsimp only; omega, by dsimp only; omega⟩, by dsimp only; omega, by dsimp only; omega⟩
theorem idx_app {l : List Nm} {a b : Nm} (h : a ∈ l) : (l ++ [b]).idxOf a = l.idxOf a := by rw [List.idxOf_append, if_pos h]
theorem idx_new {l : List Nm} {b : Nm} (h : b ∉ l) : (l ++ [b]).idxOf b = l.length := by
  rw [List.idxOf_append, if_neg h]; simp
theorem TInv.step {s : TS} (h : TInv s) (x : LD) (hx : s.made.length < 60) : TInv (stepT s x) := by
  have hy6 : yOf x < 6 := Nat.mod_lt _ (by decide)
  have hy : yOf x < s.t.length := by rw [h.l6]; exact hy6
  obtain ⟨y, hyd⟩ : ∃ y, y = yOf x := ⟨_, rfl⟩
  obtain ⟨l, hl⟩ : ∃ l, l = lpOf s x := ⟨_, rfl⟩
  obtain ⟨id, hid⟩ : ∃ id, id = idOf s x := ⟨_, rfl⟩
  have hide : id = ⟨(y : Int) + 1, ((yi s.t y).length : Nat)⟩ := by rw [hid, hyd]; rfl
  have hst : stepT s x = ⟨s.t.set y (yi s.t y ++ [l]), (thrL (x.thr.take 4) s.free).2 ++ [id], s.made ++ [id]⟩ := by rw [hyd, hl, hid]; rfl
  rw [← hyd] at hy6 hy
  have hperm := thrL_perm (x.thr.take 4) s.free
  have hlt : l.thr = (thrL (x.thr.take 4) s.free).1 := by rw [hl]; rfl
  have hlen4 : l.thr.length ≤ 4 := by rw [hlt]; have := thrL_len (x.thr.take 4) s.free; simp at this; omega
  have hidn : id ∉ s.made := fun hm => by
    have := (h.cov id).2 hm
    rw [hide] at this
    have := (hasB_nm.1 this).2; omega
  have hnd2 : (l.thr ++ (thrL (x.thr.take 4) s.free).2).Nodup := by rw [hlt]; exact hperm.nodup_iff.2 h.fnd
  have hthrfree : ∀ a ∈ l.thr, a ∈ s.free := fun a ha => hperm.mem_iff.1 (List.mem_append_left _ (by rw [← hlt]; exact ha))
  have hrestfree : ∀ a ∈ (thrL (x.thr.take 4) s.free).2, a ∈ s.free := fun a ha => hperm.mem_iff.1 (List.mem_append_right _ ha)
  have hset := hasB_set (t := s.t) (y := y) l hy
  have hcov : ∀ a, hasB (s.t.set y (yi s.t y ++ [l])) a = true ↔ a ∈ s.made ++ [id] := fun a => by
    rw [hset, h.cov, List.mem_append, List.mem_singleton, hide]
  have hmono : ∀ a, hasB s.t a = true → hasB (s.t.set y (yi s.t y ++ [l])) a = true := fun a ha => (hset a).2 (.inl ha)
  have hin : ∀ a, a ∈ s.made → a.In := fun a ha => nm_in h.l6 (by rw [h.cnt]; omega) ((h.cov a).2 ha)
  have hpast : ∀ p ∈ l.past, (∃ a ∈ s.made, p.id = a) ∧ p.d = dOf x := fun p hp => by
    rw [hl] at hp
    have hp' : p ∈ pastL (x.past.take 5) s.made (dOf x) := hp
    unfold pastL at hp'
    split at hp'
    · cases hp'
    · rename_i hne
      obtain ⟨k, _, rfl⟩ := List.mem_map.1 hp'
      exact ⟨⟨_, ni_mem (Nat.mod_lt _ (List.length_pos_iff.2 hne)), rfl⟩, rfl⟩
  have hd01 : dOf x = 0 ∨ dOf x = 1 := by unfold dOf; have := Nat.mod_lt (x.y.toNat / 6) (show 0 < 2 by decide); omega
  have hpl : l.past.length ≤ 5 := by
    rw [hl]
    show (pastL (x.past.take 5) s.made (dOf x)).length ≤ 5
    unfold pastL
    split
    · simp
    · rw [List.length_map, List.length_take]; omega
  have hrl : RightL (s.t.set y (yi s.t y ++ [l])) l := by
    refine ⟨?_, hlen4, by omega, fun a ha => ?_, fun p hp => ?_, dOf x, hd01, fun p hp => (hpast p hp).2⟩
    · rw [hl]; show (if x.back then (1 : Int) else 0) = 0 ∨ (if x.back then (1 : Int) else 0) = 1; split <;> simp
    · have hm := h.fr a (hthrfree a ha)
      exact ⟨hin a hm, hmono a ((h.cov a).2 hm)⟩
    · obtain ⟨⟨a, ha, e⟩, hd⟩ := hpast p hp
      refine ⟨⟨by rw [e]; exact hin a ha, by rcases hd01 with h0 | h0 <;> rw [hd, h0] <;> decide, by rcases hd01 with h0 | h0 <;> rw [hd, h0] <;> decide⟩, by rw [e]; exact hmono a ((h.cov a).2 ha)⟩
  have hneed : ∀ a ∈ needL l, a ∈ s.made := fun a ha => by
    rcases List.mem_append.1 ha with ha | ha
    · exact h.fr a (hthrfree a ha)
    · obtain ⟨p, hp, rfl⟩ := List.mem_map.1 ha
      obtain ⟨⟨a, ha, e⟩, _⟩ := hpast p hp
      rw [e]; exact ha
  have hyi := fun z => yi_set (t := s.t) (y := y) (z := z) (yi s.t y ++ [l]) hy
  have htperm := thrT_set (t := s.t) (y := y) l hy
  have hold : ∀ z n, z < 6 → n < (yi s.t z).length → (⟨(z : Int) + 1, (n : Nat)⟩ : Nm) ∈ s.made := fun z n hz hn => (h.cov _).1 (hasB_nm.2 ⟨by rw [h.l6]; exact hz, hn⟩)
  have holdneed : ∀ z n, z < 6 → n < (yi s.t z).length → ∀ a ∈ needL (li (yi s.t z) n), a ∈ s.made := fun z n hz hn a ha => by
    have hr := (h.ri (yi s.t z) (yi_mem (by rw [h.l6]; exact hz)) _ (li_mem hn)).1
    rcases List.mem_append.1 ha with ha | ha
    · exact (h.cov a).1 (hr.i1 a ha).2
    · obtain ⟨p, hp, rfl⟩ := List.mem_map.1 ha
      exact (h.cov _).1 (hr.i2 p hp).2
  rw [hst]
  refine ⟨by dsimp only; rw [List.length_set]; exact h.l6, hcov, ?_, fun a ha => ?_, ?_, ?_, fun a ha => ?_, ?_, fun r hr k hk => ?_, fun z hz h0 => ?_, fun z hz n hn a ha => ?_, fun z hz n hn => ?_⟩
  · exact List.nodup_append.2 ⟨h.nd, by simp, fun a ha b hb e => by rw [List.mem_singleton.1 hb] at e; exact hidn (e ▸ ha)⟩
  · rcases List.mem_append.1 ha with ha | ha
    · exact List.mem_append_left _ (h.fr a (hrestfree a ha))
    · exact List.mem_append_right _ ha
  · exact List.nodup_append.2 ⟨(List.nodup_append.1 hnd2).2.1, by simp, fun a ha b hb e => by rw [List.mem_singleton.1 hb] at e; exact hidn (e ▸ h.fr a (hrestfree a ha))⟩
  · refine htperm.nodup_iff.2 (List.nodup_append.2 ⟨h.tnd, (List.nodup_append.1 hnd2).1, fun a ha b hb e => ?_⟩)
    exact h.dis b (hthrfree b hb) (e ▸ ha)
  · intro hm
    rcases List.mem_append.1 (htperm.mem_iff.1 hm) with hm | hm
    · rcases List.mem_append.1 ha with ha | ha
      · exact h.dis a (hrestfree a ha) hm
      · rw [List.mem_singleton.1 ha] at hm
        have : id ∈ s.made := by
          obtain ⟨r, hr, hm⟩ : ∃ r ∈ s.t, id ∈ thrR r := by
            unfold thrT at hm
            obtain ⟨q, hq, hm⟩ := List.mem_flatten.1 hm
            obtain ⟨r, hr, rfl⟩ := List.mem_map.1 hq
            exact ⟨r, hr, hm⟩
          obtain ⟨q, hq, hm⟩ := List.mem_flatten.1 hm
          obtain ⟨k, hk, rfl⟩ := List.mem_map.1 hq
          exact (h.cov id).1 ((h.ri r hr k hk).1.i1 id hm).2
        exact hidn this
    · rcases List.mem_append.1 ha with ha | ha
      · exact (List.nodup_append.1 hnd2).2.2 a hm a ha rfl
      · rw [List.mem_singleton.1 ha] at hm
        exact hidn (h.fr id (hthrfree id hm))
  · dsimp only
    rw [cntT_set l hy, h.cnt, List.length_append, List.length_singleton]; omega
  · dsimp only at hr ⊢
    obtain ⟨z, hz, rfl⟩ := List.mem_iff_getElem.1 hr
    rw [← yi_of hz, hyi z] at hk
    by_cases e : z = y
    · rw [if_pos e] at hk
      rcases List.mem_append.1 hk with hk | hk
      · have := h.ri (yi s.t y) (yi_mem hy) k hk
        exact ⟨this.1.mono hmono, this.2⟩
      · rw [List.mem_singleton.1 hk]; exact ⟨hrl, hpl⟩
    · rw [if_neg e] at hk
      have := h.ri (yi s.t z) (yi_mem (by simpa using hz)) k hk
      exact ⟨this.1.mono hmono, this.2⟩
  · dsimp only at h0 ⊢
    rw [hyi z] at h0 ⊢
    by_cases e : z = y
    · rw [if_pos e, li_app]
      by_cases e2 : 0 < (yi s.t y).length
      · rw [if_pos e2]; exact h.new y hy6 e2
      · rw [if_neg e2, if_pos (by omega), hl]
        show (x.new || decide ((yi s.t (yOf x)).length = 0)) = true
        rw [← hyd, decide_eq_true (by omega)]; simp
    · rw [if_neg e] at h0 ⊢; exact h.new z hz h0
  · dsimp only at hn ha ⊢
    rw [hyi z] at hn ha
    by_cases e : z = y
    · subst e
      rw [if_pos rfl] at hn ha
      rw [li_app] at ha
      by_cases e2 : n < (yi s.t z).length
      · rw [if_pos e2] at ha
        rw [idx_app (holdneed z n hz e2 a ha), idx_app (hold z n hz e2)]
        exact h.ac z hz n e2 a ha
      · rw [List.length_append, List.length_singleton] at hn
        have en : n = (yi s.t z).length := by omega
        rw [if_neg e2, if_pos en] at ha
        rw [idx_app (hneed a ha), en, ← hide, idx_new hidn]
        exact List.idxOf_lt_length_of_mem (hneed a ha)
    · rw [if_neg e] at hn ha
      rw [idx_app (holdneed z n hz hn a ha), idx_app (hold z n hz hn)]
      exact h.ac z hz n hn a ha
  · dsimp only at hn ⊢
    rw [hyi z] at hn
    by_cases e : z = y
    · subst e
      rw [if_pos rfl, List.length_append, List.length_singleton] at hn
      by_cases e2 : n + 1 < (yi s.t z).length
      · rw [idx_app (hold z n hz (by omega)), idx_app (hold z (n + 1) hz e2)]
        exact h.pr z hz n e2
      · have en : n + 1 = (yi s.t z).length := by omega
        rw [idx_app (hold z n hz (by omega)), en, ← hide, idx_new hidn]
        exact List.idxOf_lt_length_of_mem (hold z n hz (by omega))
    · rw [if_neg e] at hn
      rw [idx_app (hold z n hz (by omega)), idx_app (hold z (n + 1) hz hn)]
      exact h.pr z hz n hn
theorem TInv.fold {s : TS} (h : TInv s) : ∀ (xs : List LD), s.made.length + xs.length ≤ 60 → TInv (xs.foldl stepT s) ∧ (xs.foldl stepT s).made.length = s.made.length + xs.length
  | [], _ => ⟨h, rfl⟩
  | x :: xs, hx => by
    rw [List.length_cons] at hx
    have h1 := TInv.fold (h.step x (by omega)) xs (by have : (stepT s x).made.length = s.made.length + 1 := by unfold stepT; simp
                                                      omega)
    have h2 : (stepT s x).made.length = s.made.length + 1 := by unfold stepT; simp
    rw [List.foldl_cons]
    exact ⟨h1.1, by rw [h1.2, h2, List.length_cons]; omega⟩
theorem ofT_inv (xs : List LD) : TInv (ofT xs) ∧ (ofT xs).made.length = (xs.take 60).length := by
  have := TInv.fold TInv.init (xs.take 60) (by show 0 + (xs.take 60).length ≤ 60; simp; omega)
  exact ⟨this.1, by rw [show ofT xs = (xs.take 60).foldl stepT initT from rfl, this.2]; show 0 + _ = _; omega⟩
theorem TInv.ok {s : TS} (h : TInv s) (h6 : s.made.length ≤ 60) : OKT s.t := by
  have hr5 : ∀ r ∈ s.t, r.length ≤ 1000 := fun r hr => by
    obtain ⟨z, hz, rfl⟩ := List.mem_iff_getElem.1 hr
    have h2 := cntT_take hz
    have h3 : cntT (s.t.take (z + 1)) ≤ cntT s.t := by
      unfold cntT
      have : s.t = s.t.take (z + 1) ++ s.t.drop (z + 1) := by simp
      conv => rhs; rw [this]
      rw [List.map_append, List.sum_append]; omega
    have h4 : 0 ≤ cntT (s.t.take z) := by unfold cntT; omega
    have h5 := h.cnt
    rw [yi_of hz] at h2
    omega
  refine ⟨⟨by rw [h.l6]; decide, hr5, fun r hr l hl => ?_⟩, h.tnd, ⟨fun a => s.made.idxOf a, fun y hy n hn a ha => ?_, fun y hy n hn => ?_⟩, by rw [h.cnt]; omega⟩
  · have := (h.ri r hr l hl).1
    exact ⟨this, by rcases this.bed with e | e <;> rw [e] <;> decide⟩
  · have hr := (h.ri (yi s.t y) (yi_mem hy) _ (li_mem hn)).1
    refine ⟨?_, h.ac y (by rw [h.l6] at hy; exact hy) n hn a ha⟩
    rcases List.mem_append.1 ha with ha | ha
    · exact (hr.i1 a ha).2
    · obtain ⟨p, hp, rfl⟩ := List.mem_map.1 ha
      exact (hr.i2 p hp).2
  · exact h.pr y (by rw [h.l6] at hy; exact hy) n hn
theorem TInv.newT {s : TS} (h : TInv s) : newB s.t = true := newB_ok fun y hy h0 => h.new y (by rw [h.l6] at hy; exact hy) h0
end Go.Proofs.YtlhkehfplcclgaaDoor
/- The order of names and of crossings; slices.BinarySearchFunc over crossings. -/
namespace Go.Proofs.YtlhkehfplcclgaaDoor
set_option linter.unusedVariables false
set_option linter.unusedSimpArgs false
set_option maxRecDepth 8000
open Go Go.RowKit

def ltN (a b : Nm) : Prop := a.y < b.y ∨ (a.y = b.y ∧ a.n < b.n)
theorem cmpI_lt {a b : Int} : cmpI a b < 0 ↔ a < b := by unfold cmpI; (repeat' split) <;> omega
theorem cmpI_gt {a b : Int} : 0 < cmpI a b ↔ b < a := by unfold cmpI; (repeat' split) <;> omega
theorem cmpI_eq {a b : Int} : cmpI a b = 0 ↔ a = b := by unfold cmpI; (repeat' split) <;> omega
theorem cmpN_lt {a b : Nm} : cmpN a b < 0 ↔ ltN a b := by
  unfold cmpN orI ltN
  by_cases h : cmpI a.y b.y = 0
  · rw [if_pos h, cmpI_lt]
    have := cmpI_eq.1 h
    omega
  · rw [if_neg h, cmpI_lt]
    have : a.y ≠ b.y := fun e => h (cmpI_eq.2 e)
    omega
theorem cmpN_gt {a b : Nm} : 0 < cmpN a b ↔ ltN b a := by
  unfold cmpN orI ltN
  by_cases h : cmpI a.y b.y = 0
  · rw [if_pos h, cmpI_gt]
    have := cmpI_eq.1 h
    omega
  · rw [if_neg h, cmpI_gt]
    have : a.y ≠ b.y := fun e => h (cmpI_eq.2 e)
    omega
theorem Nm.ext' {a b : Nm} (h : a.y = b.y) (k : a.n = b.n) : a = b := by
  obtain ⟨y, n⟩ := a; obtain ⟨z, m⟩ := b
  dsimp only at h k; subst h; subst k; rfl
theorem cmpN_eq {a b : Nm} : cmpN a b = 0 ↔ a = b := by
  unfold cmpN orI
  by_cases h : cmpI a.y b.y = 0
  · rw [if_pos h, cmpI_eq]
    exact ⟨fun k => Nm.ext' (cmpI_eq.1 h) k, fun k => by rw [k]⟩
  · rw [if_neg h]
    exact ⟨fun k => absurd k h, fun k => absurd (by rw [k]; exact cmpI_eq.2 rfl) h⟩
theorem ltN_trans {a b c : Nm} (h : ltN a b) (k : ltN b c) : ltN a c := by unfold ltN at *; omega
theorem ltN_irr {a : Nm} : ¬ ltN a a := by unfold ltN; omega
theorem ltN_tot (a b : Nm) : ltN a b ∨ a = b ∨ ltN b a := by
  by_cases h : a = b
  · exact .inr (.inl h)
  · have : ¬ (a.y = b.y ∧ a.n = b.n) := fun e => h (Nm.ext' e.1 e.2)
    unfold ltN; omega
def ltX (c d : Xg) : Prop := ltN c.a d.a ∨ (c.a = d.a ∧ ltN c.b d.b)
theorem cmpX_lt {c d : Xg} : cmpX c d < 0 ↔ ltX c d := by
  unfold cmpX orI ltX
  by_cases h : cmpN c.a d.a = 0
  · rw [if_pos h, cmpN_lt]
    have := cmpN_eq.1 h
    rw [this]
    exact ⟨fun k => .inr ⟨rfl, k⟩, fun k => k.elim (fun k => absurd k ltN_irr) fun k => k.2⟩
  · rw [if_neg h, cmpN_lt]
    exact ⟨fun k => .inl k, fun k => k.elim id fun k => absurd (cmpN_eq.2 k.1) h⟩
theorem cmpX_eq {c d : Xg} : cmpX c d = 0 ↔ c.a = d.a ∧ c.b = d.b := by
  unfold cmpX orI
  by_cases h : cmpN c.a d.a = 0
  · rw [if_pos h, cmpN_eq]
    exact ⟨fun k => ⟨cmpN_eq.1 h, k⟩, fun k => k.2⟩
  · rw [if_neg h]
    exact ⟨fun k => absurd k h, fun k => absurd (cmpN_eq.2 k.1) h⟩
theorem ltX_trans {a b c : Xg} (h : ltX a b) (k : ltX b c) : ltX a c := by
  unfold ltX at *
  rcases h with h | ⟨h1, h2⟩
  · rcases k with k | ⟨k1, k2⟩
    · exact .inl (ltN_trans h k)
    · exact .inl (k1 ▸ h)
  · rcases k with k | ⟨k1, k2⟩
    · exact .inl (h1 ▸ k)
    · exact .inr ⟨h1.trans k1, ltN_trans h2 k2⟩
theorem ltX_eqL {a b c : Xg} (h : a.a = b.a ∧ a.b = b.b) (k : ltX b c) : ltX a c := by
  unfold ltX at *; rw [h.1, h.2]; exact k
/-- In strictly ascending order. -/
def SrtX (l : List Xg) : Prop := ∀ i j, i < j → j < l.length → ltX (xi l i) (xi l j)
/-- Before place i all are less, from it on none is. -/
structure At (cr : List Xg) (x : Xg) (i : Nat) : Prop where
  le : i ≤ cr.length
  lo : ∀ j, j < i → cmpX (xi cr j) x < 0
  hi : ∀ j, i ≤ j → j < cr.length → 0 ≤ cmpX (xi cr j) x
def hitB (cr : List Xg) (x : Xg) (i : Nat) : Bool := decide (i < cr.length) && decide (cmpX (xi cr i) x = 0)
def RetBS (w : World) (cr : List Xg) (x : Xg) (en : Ending) (w' : World) : Prop :=
  ∃ i : Nat, en = .returned (.tuple #[.int .i64 i, .bool (hitB cr x i)]) ∧ At cr x i ∧ Ext w w'
set_option maxHeartbeats 4000000 in
theorem BSearch_calls (cv : Value) (cc : Nat) (cr : List Xg) (x : Xg) (w : World) (h : XL w cv cc cr) (hs : SrtX cr) (h9 : cr.length ≤ 100000) :
    Calls Tryd.prog 50 #[cv, x.val, .func (Fn.func 51) #[] #[]] w (RetBS w cr x) := by
  obtain ⟨ao, n, rfl, hn, hnc, hc9, hat⟩ := h.open
  have hlo : ∀ i j, i < j → j < n → cmpX (xi cr j) x < 0 → cmpX (xi cr i) x < 0 := fun i j hij hj hh => cmpX_lt.2 (ltX_trans (hs i j hij (by omega)) (cmpX_lt.1 hh))
  have n9 : n ≤ 100000 := by omega
  obtain ⟨W, hW⟩ : ∃ W, W = w.alloc (.cells #[.int .u8 x.a.y, .int .i64 x.a.n, .int .u8 x.b.y, .int .i64 x.b.n, .int .i64 x.n] 52) := ⟨_, rfl⟩
  have xW : Ext w W := by rw [hW]; exact (Ext.refl _).alloc _
  have HB := Lib.hid (show B5 W w.heap.size x 52 by rw [hW]; exact B5.new w x _)
  have Hat := Lib.hid (fun i (hi : i < n) => (by obtain ⟨b, o, e, ha⟩ := hat i hi; exact ⟨b, o, e, ha.ext xW⟩ : ∃ b o, ao = some ⟨b, o, none⟩ ∧ At5 W b (o + i * 5) (xi cr i)))
  have HLo := Lib.hid hlo; have XW := Lib.hid xW; have HW := Lib.hid hW; have HN := Lib.hid hn
  obtain ⟨C, hC⟩ : ∃ C : Nat → Int, C = fun i => cmpX (xi cr i) x := ⟨_, rfl⟩
  have HC := Lib.hid (show ∀ i, cmpX (xi cr i) x = C i from fun i => by rw [hC])
  have HE := Lib.hid (show ∀ (i : Nat) (w' : World), i ≤ n → (∀ j, j < i → C j < 0) → (∀ j, i ≤ j → j < n → 0 ≤ C j) → Ext w w' → RetBS w cr x (.returned (.tuple #[.int .i64 i, .bool (decide (i < n) && decide (C i = 0))])) w' from fun i w' h1 h2 h3 h4 => ⟨i, by unfold hitB; rw [hC, hn], ⟨by omega, fun j hj => by have := h2 j hj; rw [hC] at this; exact this, fun j h5 h6 => by have := h3 j h5 (by omega); rw [hC] at this; exact this⟩, h4⟩)
  unfold Xg.val
  clear h hs h9 hat hlo xW hW hn hC
  go_enter Tryd.func50, Tryd.ntmps50
  go_wp2
  rw [← HW.out]
  go_loopg [9, 10, 11] n (fun gk si sj _ wr => ∃ i j : Nat, i + gk = j ∧ j ≤ n ∧ si = .int .i64 i ∧ sj = .int .i64 j ∧ Hid (Ext W wr ∧ (∀ k, k < i → C k < 0) ∧ ∀ k, j ≤ k → k < n → 0 ≤ C k))
  case atStart => exact ⟨0, n, by omega, Nat.le_refl _, rfl, rfl, Lib.hid ⟨Ext.refl _, fun k hk => by omega, fun k h1 h2 => by omega⟩⟩
  case round =>
    obtain ⟨i, j, hij, hj, rfl, rfl, G⟩ := hrel
    by_cases hlt : i < j
    · have e1 : (i : Int) < j := by omega
      obtain ⟨h, hh⟩ : ∃ h, h = (i + j) / 2 := ⟨_, rfl⟩
      have t1 : IntKind.i64.wrap ((i : Int) + j) = (i : Int) + j := IntWalk.i64_in _ ⟨by omega, by omega⟩
      have t2 : IntKind.u64.wrap ((i : Int) + j) = (i : Int) + j := IntWalk.u64_in _ ⟨by omega, by omega⟩
      have t3 : ((i : Int) + j) / 2 = (h : Int) := by omega
      have h1 : i ≤ h := by omega
      have h2 : h < j := by omega
      have e2 : (0 : Int) ≤ h := by omega
      have e3 : (h : Int) < n := by omega
      have t4 : IntKind.i64.wrap ((h : Int) + 1) = (h : Int) + 1 := IntWalk.i64_in _ ⟨by omega, by omega⟩
      obtain ⟨b, o, rfl, hA⟩ := Hat.out h (by omega)
      obtain ⟨q0_1, q0_2, q0_3, q0_4, q0_5⟩ := hA.ext G.out.1
      obtain ⟨q0_6, q0_7, q0_8, q0_9, q0_10⟩ := (HB.out.ext G.out.1).at
      simp only [Nat.zero_add] at q0_7 q0_8 q0_9 q0_10
      have HCh := Lib.hid (HC.out h)
      have hCd : C h < 0 ∨ ¬ C h < 0 := by omega
      have HM1 := Lib.hid (show C h < 0 → ∀ k, k < h + 1 → C k < 0 from fun hc k hk => by
        rcases Nat.lt_or_ge k h with h3 | h3
        · have := HLo.out k h h3 (by omega) (by rw [HC.out]; exact hc)
          rwa [HC.out] at this
        · obtain rfl : k = h := by omega
          exact hc)
      have HM2 := Lib.hid (show ¬ C h < 0 → ∀ k, h ≤ k → k < n → 0 ≤ C k from fun hc k hk hkn => by
        rcases Nat.lt_or_ge h k with h3 | h3
        · refine Int.not_lt.1 fun h4 => hc ?_
          have := HLo.out h k h3 hkn (by rw [HC.out]; exact h4)
          rwa [HC.out] at this
        · obtain rfl : k = h := by omega
          exact Int.not_lt.1 hc)
      clear hA hh
      generalize xi cr h = P at *
      go_wp2
      go_region_held3 (fun w' => w'.cell? ⟨b, o + h * 5, Option.none⟩ = some (.int .u8 P.a.y) ∧ w'.cell? ⟨b, o + h * 5 + 1, Option.none⟩ = some (.int .i64 P.a.n) ∧ w'.cell? ⟨b, o + h * 5 + 2, Option.none⟩ = some (.int .u8 P.b.y) ∧ w'.cell? ⟨b, o + h * 5 + 3, Option.none⟩ = some (.int .i64 P.b.n) ∧ w'.cell? ⟨b, o + h * 5 + 4, Option.none⟩ = some (.int .i64 P.n) ∧ w'.cell? ⟨w.heap.size, 0, Option.none⟩ = some (.int .u8 x.a.y) ∧ w'.cell? ⟨w.heap.size, 1, Option.none⟩ = some (.int .i64 x.a.n) ∧ w'.cell? ⟨w.heap.size, 2, Option.none⟩ = some (.int .u8 x.b.y) ∧ w'.cell? ⟨w.heap.size, 3, Option.none⟩ = some (.int .i64 x.b.n) ∧ w'.cell? ⟨w.heap.size, 4, Option.none⟩ = some (.int .i64 x.n)) (first | (with_reducible exact ⟨q0_1, q0_2, q0_3, q0_4, q0_5, q0_6, q0_7, q0_8, q0_9, q0_10⟩) | (with_reducible exact ⟨q1_1, q1_2, q1_3, q1_4, q1_5, q1_6, q1_7, q1_8, q1_9, q1_10⟩) | go_keep) (first
        | (go_at_call 51; (refine (Pairs_calls P x _).mono ?_); intro e w5 hh; obtain ⟨rfl, x⟩ := hh; have Xa : Hid (Ext wr w5) := Lib.hid (Ext.trans (by ((repeat (first | (with_reducible exact Ext.refl _) | (with_reducible apply Ext.drew) | (with_reducible apply Ext.drewN) | (with_reducible apply Ext.alloc))); done)) x); have q1_1 := Xa.out.cell q0_1; have q1_2 := Xa.out.cell q0_2; have q1_3 := Xa.out.cell q0_3; have q1_4 := Xa.out.cell q0_4; have q1_5 := Xa.out.cell q0_5; have q1_6 := Xa.out.cell q0_6; have q1_7 := Xa.out.cell q0_7; have q1_8 := Xa.out.cell q0_8; have q1_9 := Xa.out.cell q0_9; have q1_10 := Xa.out.cell q0_10; clear x))
      rw [HCh.out]
      clear HCh
      clear q0_1 q0_2 q0_3 q0_4 q0_5 q0_6 q0_7 q0_8 q0_9 q0_10
      rcases hCd with hc | hc
      · have HG := Lib.hid (show Ext W w5 ∧ (∀ k, k < h + 1 → C k < 0) ∧ ∀ k, j ≤ k → k < n → 0 ≤ C k from ⟨G.out.1.trans Xa.out, HM1.out hc, G.out.2.2⟩)
        go_wp2
        go_roundg (j - (h + 1))
        case measure => omega
        case rel => exact ⟨h + 1, j, by omega, hj, by go_num, rfl, HG⟩
      · have HG := Lib.hid (show Ext W w5 ∧ (∀ k, k < i → C k < 0) ∧ ∀ k, h ≤ k → k < n → 0 ≤ C k from ⟨G.out.1.trans Xa.out, G.out.2.1, HM2.out hc⟩)
        go_wp2
        go_roundg (h - i)
        case measure => omega
        case rel => exact ⟨i, h, by omega, by omega, rfl, rfl, HG⟩
    · obtain rfl : i = j := by omega
      have e1 : ¬ (i : Int) < i := by omega
      have hE := HE.out i
      by_cases hin : i < n
      · have d1 : (i : Int) < n := by omega
        have d2 : decide ((i : Int) < n) = true := decide_eq_true d1
        have d3 : decide (i < n) = true := decide_eq_true hin
        have e2 : (0 : Int) ≤ i := by omega
        obtain ⟨b, o, rfl, hA⟩ := Hat.out i hin
        obtain ⟨q0_1, q0_2, q0_3, q0_4, q0_5⟩ := hA.ext G.out.1
        obtain ⟨q0_6, q0_7, q0_8, q0_9, q0_10⟩ := (HB.out.ext G.out.1).at
        simp only [Nat.zero_add] at q0_7 q0_8 q0_9 q0_10
        have HCh := Lib.hid (HC.out i)
        have HE2 := Lib.hid hE
        clear hA hE
        generalize xi cr i = P at *
        go_wp2
        go_region_held3 (fun w' => w'.cell? ⟨b, o + i * 5, Option.none⟩ = some (.int .u8 P.a.y) ∧ w'.cell? ⟨b, o + i * 5 + 1, Option.none⟩ = some (.int .i64 P.a.n) ∧ w'.cell? ⟨b, o + i * 5 + 2, Option.none⟩ = some (.int .u8 P.b.y) ∧ w'.cell? ⟨b, o + i * 5 + 3, Option.none⟩ = some (.int .i64 P.b.n) ∧ w'.cell? ⟨b, o + i * 5 + 4, Option.none⟩ = some (.int .i64 P.n) ∧ w'.cell? ⟨w.heap.size, 0, Option.none⟩ = some (.int .u8 x.a.y) ∧ w'.cell? ⟨w.heap.size, 1, Option.none⟩ = some (.int .i64 x.a.n) ∧ w'.cell? ⟨w.heap.size, 2, Option.none⟩ = some (.int .u8 x.b.y) ∧ w'.cell? ⟨w.heap.size, 3, Option.none⟩ = some (.int .i64 x.b.n) ∧ w'.cell? ⟨w.heap.size, 4, Option.none⟩ = some (.int .i64 x.n)) (first | (with_reducible exact ⟨q0_1, q0_2, q0_3, q0_4, q0_5, q0_6, q0_7, q0_8, q0_9, q0_10⟩) | (with_reducible exact ⟨q1_1, q1_2, q1_3, q1_4, q1_5, q1_6, q1_7, q1_8, q1_9, q1_10⟩) | go_keep) (first
          | (go_at_call 51; (refine (Pairs_calls P x _).mono ?_); intro e w5 hh; obtain ⟨rfl, x⟩ := hh; have Xa : Hid (Ext wr w5) := Lib.hid (Ext.trans (by ((repeat (first | (with_reducible exact Ext.refl _) | (with_reducible apply Ext.drew) | (with_reducible apply Ext.drewN) | (with_reducible apply Ext.alloc))); done)) x); have q1_1 := Xa.out.cell q0_1; have q1_2 := Xa.out.cell q0_2; have q1_3 := Xa.out.cell q0_3; have q1_4 := Xa.out.cell q0_4; have q1_5 := Xa.out.cell q0_5; have q1_6 := Xa.out.cell q0_6; have q1_7 := Xa.out.cell q0_7; have q1_8 := Xa.out.cell q0_8; have q1_9 := Xa.out.cell q0_9; have q1_10 := Xa.out.cell q0_10; clear x))
        rw [HCh.out]
        go_wp2
        go_ret2
        have := HE2.out w5 hj G.out.2.1 G.out.2.2 (XW.out.trans (G.out.1.trans Xa.out))
        rw [d3, Bool.true_and] at this
        rw [show decide (C i = 0) = (C i == 0) by rw [Bool.eq_iff_iff]; simp] at this
        exact this
      · have d1 : ¬ (i : Int) < n := by omega
        have d2 : decide ((i : Int) < n) = false := decide_eq_false d1
        have d3 : decide (i < n) = false := decide_eq_false hin
        have HE2 := Lib.hid hE
        clear hE
        go_wp2
        go_quiet (fail)
        go_wp2
        go_ret2
        have := HE2.out _ hj G.out.2.1 G.out.2.2 (XW.out.trans (G.out.1.trans ((Ext.refl wr).drewN nq)))
        rw [d3, Bool.false_and] at this
        exact this
end Go.Proofs.YtlhkehfplcclgaaDoor
/- Tables that a call has made itself: rows of loops in blocks of its own. -/
namespace Go.Proofs.YtlhkehfplcclgaaDoor
set_option linter.unusedVariables false
set_option linter.unusedSimpArgs false
set_option maxRecDepth 8000
open Go Go.RowKit

theorem cell_set {w : World} {a b : Addr} {v : Value} (h : w.cell? a = some v) (hb : a.block ≠ b.block) (u : Value) : (w.setCell b u).cell? a = some v := by
  rw [World.cell?_of_block (Deep.blk_setCell_other _ _ _ _ hb)]; exact h
theorem B4.fr {w : World} {b : Nat} {x y z u : Value} {t : TypeId} (h : B4 w b x y z u t) (o : Nat) : w.frozen? ⟨b, o, none⟩ = false := by unfold B4 at h; simp [World.frozen?, h]
theorem B4.lt {w : World} {b : Nat} {x y z u : Value} {t : TypeId} (h : B4 w b x y z u t) : b < w.heap.size := by unfold B4 at h; exact (Array.getElem?_eq_some_iff.1 h).1
theorem B5.lt {w : World} {b : Nat} {c : Xg} {t : TypeId} (h : B5 w b c t) : b < w.heap.size := by unfold B5 at h; exact (Array.getElem?_eq_some_iff.1 h).1
theorem B4.put1 {w : World} {b : Nat} {x y z u : Value} {t : TypeId} (h : B4 w b x y z u t) (y' : Value) : B4 (w.setCell ⟨b, 1, none⟩ y') b x y' z u t := by
  unfold B4 at h ⊢
  simp [World.setCell, Array.getElem?_modify, h]
theorem B4.put4 {w : World} {b : Nat} {x y z u : Value} {t : TypeId} (h : B4 w b x y z u t) (x' y' z' u' : Value) : B4 ((((w.setCell ⟨b, 0, none⟩ x').setCell ⟨b, 1, none⟩ y').setCell ⟨b, 2, none⟩ z').setCell ⟨b, 3, none⟩ u') b x' y' z' u' t := by
  unfold B4 at h ⊢
  simp [World.setCell, Array.getElem?_modify, h]
theorem Ext.set4 {w w' : World} (h : Ext w w') {b : Nat} (hb : w.heap.size ≤ b) (x' y' z' u' : Value) : Ext w ((((w'.setCell ⟨b, 0, none⟩ x').setCell ⟨b, 1, none⟩ y').setCell ⟨b, 2, none⟩ z').setCell ⟨b, 3, none⟩ u') := (((h.setCell hb _).setCell hb _).setCell hb _).setCell hb _
/-- From block N on all is as it was. -/
def Agr (N : Nat) (w w' : World) : Prop := ∀ k, N ≤ k → k < w.heap.size → w'.heap[k]? = w.heap[k]?
theorem Agr.refl (N : Nat) (w : World) : Agr N w w := fun _ _ _ => rfl
theorem Agr.ext {N : Nat} {w w' : World} (x : Ext w w') : Agr N w w' := fun k _ h => Below.block x k h
theorem Agr.set {N : Nat} {w w' : World} (h : Agr N w w') {a : Addr} (ha : a.block < N ∨ w.heap.size ≤ a.block) (v : Value) : Agr N w (w'.setCell a v) := fun k h1 h2 => by rw [Below.heap_setCell _ _ _ _ (by omega)]; exact h k h1 h2
theorem Agr.blk {N g : Nat} {w w' : World} {o : Obj} (h : Agr N w w') (hg : N ≤ g) (hb : w.heap[g]? = some o) : w'.heap[g]? = some o := by rw [h g hg (Array.getElem?_eq_some_iff.1 hb).1]; exact hb
theorem own_agr {w w' : World} {N M k n : Nat} {v : Value} {xs : List Value} {e : TypeId} (h : w.ownsRow M e k v n xs) (hM : N ≤ M) (u : Agr N w w') : w'.ownsRow M e k v n xs := by
  obtain ⟨h1, h2 | ⟨g', cap, cur, h3, h4, h5, h6⟩⟩ := h
  · exact ⟨h1, .inl h2⟩
  · exact ⟨h1, .inr ⟨g', cap, cur, h3, h4, u.blk (by omega) h5, h6⟩⟩
/-- The front and the rest of a slice. -/
theorem CK.take {k : Nat} {w : World} {b o n c l : Nat} {xs : List (List Value)} (h : CK k w (.slice (some ⟨b, o, none⟩) n c) c xs) (hl : l ≤ xs.length) : CK k w (.slice (some ⟨b, o, none⟩) l c) c (xs.take l) := by
  obtain ⟨ao, h1, h2, h3, h4⟩ := h
  have e0 := Value.slice.inj h1
  have hlen : (xs.take l).length = l := by rw [List.length_take]; omega
  refine ⟨some ⟨b, o, none⟩, by rw [hlen], by omega, h3, ?_⟩
  rcases h4 with h4 | ⟨b', o', h5, h6⟩
  · exact .inl h4
  · rw [← e0.1] at h5
    refine .inr ⟨b, o, rfl, fun i hi => ?_⟩
    rw [hlen] at hi
    cases h5
    have := h6 i (by omega)
    have e2 : (xs.take l).getD i [] = xs.getD i [] := by simp [List.getD, List.getElem?_take_of_lt hi]
    rw [e2]; exact this
theorem CK.drop {k : Nat} {w : World} {b o n c l : Nat} {xs : List (List Value)} (h : CK k w (.slice (some ⟨b, o, none⟩) n c) c xs) (hl : l ≤ xs.length) : CK k w (.slice (some ⟨b, o + l * k, none⟩) (xs.length - l) (c - l)) (c - l) (xs.drop l) := by
  obtain ⟨ao, h1, h2, h3, h4⟩ := h
  have e0 := Value.slice.inj h1
  have hlen : (xs.drop l).length = xs.length - l := List.length_drop
  refine ⟨some ⟨b, o + l * k, none⟩, by rw [hlen], by omega, by omega, ?_⟩
  rcases h4 with h4 | ⟨b', o', h5, h6⟩
  · exact .inl (by omega)
  · rw [← e0.1] at h5
    refine .inr ⟨b, o + l * k, rfl, fun i hi => ?_⟩
    rw [hlen] at hi
    cases h5
    have := h6 (l + i) (by omega)
    have e2 : (xs.drop l).getD i [] = xs.getD (l + i) [] := by simp [List.getD, List.getElem?_drop]
    rw [e2, show o + l * k + i * k = o + (l + i) * k by rw [Nat.add_mul]; omega]; exact this
theorem CK.ptr {k : Nat} {w : World} {a : Option Addr} {n c : Nat} {xs : List (List Value)} (h : CK k w (.slice a n c) c xs) : n = xs.length ∧ (c = 0 ∨ (c ≠ 0 ∧ ∃ b o, a = some ⟨b, o, none⟩)) := by
  obtain ⟨ao, h1, h2, h3, h4⟩ := h
  have e0 := Value.slice.inj h1
  refine ⟨e0.2.1, ?_⟩
  by_cases hc : c = 0
  · exact .inl hc
  · rcases h4 with h4 | ⟨b', o', h5, _⟩
    · exact absurd h4 hc
    · exact .inr ⟨hc, b', o', by rw [e0.1, h5]⟩
theorem CK.nil' (k : Nat) (w : World) (a : Option Addr) : CK k w (.slice a 0 0) 0 [] := ⟨a, rfl, Nat.le_refl _, by omega, .inl rfl⟩
/-- What lies from N on stays, but for block g. -/
def UpB (N g : Nat) (w w' : World) : Prop := w.heap.size ≤ w'.heap.size ∧ ∀ k, N ≤ k → k < w.heap.size → k ≠ g → w'.heap[k]? = w.heap[k]?
theorem UpB.of_ext {N g : Nat} {w w' : World} (x : Ext w w') : UpB N g w w' := ⟨x.size, fun k _ h _ => Below.block x k h⟩
theorem UpB.trans {N g : Nat} {a b c : World} (h : UpB N g a b) (k : UpB N g b c) : UpB N g a c := ⟨Nat.le_trans h.1 k.1, fun i h1 h2 h3 => (k.2 i h1 (Nat.lt_of_lt_of_le h2 h.1) h3).trans (h.2 i h1 h2 h3)⟩
theorem UpB.set (N : Nat) (w : World) (a : Addr) (u : Value) : UpB N a.block w (w.setCell a u) := ⟨by simp [World.setCell], fun k _ _ h => Below.heap_setCell _ _ _ _ h⟩
theorem UpB.grown {N g : Nat} {w w' : World} (h : w.grownBy w' (some g)) : UpB N g w w' := ⟨h.size, fun k _ h1 h2 => h.block k h1 (fun e => h2 (by cases e; rfl))⟩
theorem own_upB {w w' : World} {N g k n : Nat} {v : Value} {xs : List Value} {e : TypeId} (h : w.ownsRow N e k v n xs) (hg : v.ownBlock ≠ some g) (u : UpB N g w w') : w'.ownsRow N e k v n xs := by
  obtain ⟨h1, h2 | ⟨g', cap, cur, h3, h4, h5, h6⟩⟩ := h
  · exact ⟨h1, .inl h2⟩
  · refine ⟨h1, .inr ⟨g', cap, cur, h3, h4, ?_, h6⟩⟩
    rw [u.2 g' h4 (Array.getElem?_eq_some_iff.1 h5).1 (fun e => hg (by rw [h3, e]; rfl))]; exact h5
theorem row_upB {w w' : World} {N g b n : Nat} {t : TypeId} {f : Nat → Value} (h : w.rowIs b t n f) (hb : N ≤ b) (hg : b ≠ g) (u : UpB N g w w') : w'.rowIs b t n f := h.of_block (u.2 b hb h.lt hg)
/-- A row's block is not one of another type. -/
theorem own_ne_ty {w : World} {B n k g : Nat} {v : Value} {xs : List Value} {e e' : TypeId} {c : Array Value} (h : w.ownsRow B e k v n xs) (hr : w.heap[g]? = some (.cells c e' (0, 0))) (he : e ≠ e') : v.ownBlock ≠ some g := by
  obtain ⟨_, ⟨rfl, _⟩ | ⟨g', cap, cur, rfl, _, h3, _⟩⟩ := h
  · simp [Value.ownBlock]
  · intro e1
    have : g' = g := by simpa [Value.ownBlock] using e1
    subst this
    rw [h3] at hr
    cases hr
    exact he rfl
/-- A fresh copy is a row of one's own. -/
theorem own_of_copy {w : World} {N k g n : Nat} {e : TypeId} {xs : List (List Value)} (hn : n = xs.length) (hk : Ks k xs) (hg : N ≤ g) (hb : w.heap[g]? = some (.cells xs.flatten.toArray e (0, 0))) (h9 : n ≤ 1000000) : w.ownsRow N e k (.slice (some ⟨g, 0, none⟩) n n) n xs.flatten :=
  ⟨by rw [hk.len, hn], .inr ⟨g, n, _, rfl, hg, hb, Nat.le_refl _, by unfold maxLen; omega, by simp [hk.len, hn], by rw [List.take_of_length_le (by simp [hk.len, hn])]⟩⟩
/-- The cells of a row of loops. -/
def cL (ls : List Lp) (us vs : Nat → Value) : List (List Value) := (List.range ls.length).map fun i => [.int .u8 (li ls i).bed, .bool (li ls i).new, us i, vs i]
theorem cL_len (ls : List Lp) (us vs : Nat → Value) : (cL ls us vs).length = ls.length := by unfold cL; simp
theorem cL_get {ls : List Lp} {us vs : Nat → Value} {i : Nat} (h : i < ls.length) : (cL ls us vs).getD i [] = [.int .u8 (li ls i).bed, .bool (li ls i).new, us i, vs i] := by unfold cL; simp [List.getD, h]
theorem cL_ks {ls : List Lp} {us vs : Nat → Value} (h : ∀ i, i < ls.length → (us i).oneCell' = true ∧ (vs i).oneCell' = true) : Ks 4 (cL ls us vs) := fun x hx => by
  obtain ⟨i, hi, rfl⟩ := List.mem_map.1 hx
  have h1 := h i (List.mem_range.1 hi)
  refine ⟨rfl, fun v hv => ?_⟩
  simp only [List.mem_cons, List.not_mem_nil, or_false] at hv
  rcases hv with rfl | rfl | rfl | rfl
  · rfl
  · rfl
  · exact h1.1
  · exact h1.2
theorem own_one {w : World} {B n k : Nat} {v : Value} {xs : List Value} {e : TypeId} (h : w.ownsRow B e k v n xs) : v.oneCell' = true := by
  obtain ⟨ao, c, rfl, _⟩ := own_slice h; rfl
/-- A row of loops of one's own. -/
structure LRo (N : Nat) (w : World) (v : Value) (ls : List Lp) (us vs : Nat → Value) : Prop where
  row : w.ownsRow N 46 4 v ls.length (cL ls us vs).flatten
  u : ∀ i, i < ls.length → w.ownsRow N 41 2 (us i) (li ls i).thr.length ((li ls i).thr.map Nm.cs).flatten
  v : ∀ i, i < ls.length → w.ownsRow N 50 4 (vs i) (li ls i).past.length ((li ls i).past.map Ps.cs).flatten
theorem LRo.to {N : Nat} {w : World} {v : Value} {ls : List Lp} {us vs : Nat → Value} (h : LRo N w v ls us vs) : ∃ c, LR w v c ls := by
  obtain ⟨c, hc⟩ := CK.of_own h.row (cL_ks fun i hi => ⟨own_one (h.u i hi), own_one (h.v i hi)⟩) (cL_len _ _ _).symm (by decide)
  exact ⟨c, us, vs, hc, fun i hi => ⟨CK.of_own (h.u i hi) (Ks.nm _) (by simp) (by decide), CK.of_own (h.v i hi) (Ks.ps _) (by simp) (by decide)⟩⟩
theorem LRo.up {N g : Nat} {w w' : World} {v : Value} {ls : List Lp} {us vs : Nat → Value} {c : Array Value} {t : TypeId} (h : LRo N w v ls us vs) (hv : v.ownBlock ≠ some g) (hg : w.heap[g]? = some (.cells c t (0, 0))) (h1 : 41 ≠ t) (h2 : 50 ≠ t) (u : UpB N g w w') : LRo N w' v ls us vs :=
  ⟨own_upB h.row hv u, fun i hi => own_upB (h.u i hi) (own_ne_ty (h.u i hi) hg h1) u, fun i hi => own_upB (h.v i hi) (own_ne_ty (h.v i hi) hg h2) u⟩
theorem LRo.ext {N : Nat} {w w' : World} {v : Value} {ls : List Lp} {us vs : Nat → Value} (h : LRo N w v ls us vs) (x : Ext w w') : LRo N w' v ls us vs :=
  ⟨own_extk h.row x, fun i hi => own_extk (h.u i hi) x, fun i hi => own_extk (h.v i hi) x⟩
/-- Cell i of a row of loops. -/
def LF (ls : List Lp) (us vs : Nat → Value) (i : Nat) : Value := ((cL ls us vs).getD (i / 4) []).getD (i % 4) undef
def upV (f : Nat → Value) (n : Nat) (v : Value) : Nat → Value := fun i => if i = n then v else f i
theorem LF_at {ls : List Lp} {us vs : Nat → Value} {n : Nat} (hn : n < ls.length) : LF ls us vs (n * 4) = .int .u8 (li ls n).bed ∧ LF ls us vs (n * 4 + 1) = .bool (li ls n).new ∧ LF ls us vs (n * 4 + 2) = us n ∧ LF ls us vs (n * 4 + 3) = vs n := by
  unfold LF
  rw [show n * 4 / 4 = n by omega, show n * 4 % 4 = 0 by omega, show (n * 4 + 1) / 4 = n by omega, show (n * 4 + 1) % 4 = 1 by omega, show (n * 4 + 2) / 4 = n by omega, show (n * 4 + 2) % 4 = 2 by omega, show (n * 4 + 3) / 4 = n by omega, show (n * 4 + 3) % 4 = 3 by omega, cL_get hn]
  exact ⟨rfl, rfl, rfl, rfl⟩
theorem mod4 (i : Nat) : ∃ n r, i = n * 4 + r ∧ r < 4 := ⟨i / 4, i % 4, by omega, Nat.mod_lt _ (by decide)⟩
theorem LF_2 {ls : List Lp} {us vs : Nat → Value} {n : Nat} (v : Value) {i : Nat} (hi : i < ls.length * 4) : (if i = n * 4 + 2 then v else LF ls us vs i) = LF ls (upV us n v) vs i := by
  obtain ⟨m, r, rfl, hr⟩ := mod4 i
  have hm : m < ls.length := by omega
  obtain ⟨a0, a1, a2, a3⟩ := LF_at (us := us) (vs := vs) hm
  obtain ⟨b0, b1, b2, b3⟩ := LF_at (us := upV us n v) (vs := vs) hm
  rcases (show r = 0 ∨ r = 1 ∨ r = 2 ∨ r = 3 by omega) with rfl | rfl | rfl | rfl
  · rw [if_neg (by omega)]; exact a0.trans b0.symm
  · rw [if_neg (by omega), a1, b1]
  · rw [b2, a2]; unfold upV
    by_cases e : m = n
    · rw [if_pos (by omega), if_pos e]
    · rw [if_neg (by omega), if_neg e]
  · rw [if_neg (by omega), a3, b3]
theorem LF_3 {ls : List Lp} {us vs : Nat → Value} {n : Nat} (v : Value) {i : Nat} (hi : i < ls.length * 4) : (if i = n * 4 + 3 then v else LF ls us vs i) = LF ls us (upV vs n v) i := by
  obtain ⟨m, r, rfl, hr⟩ := mod4 i
  have hm : m < ls.length := by omega
  obtain ⟨a0, a1, a2, a3⟩ := LF_at (us := us) (vs := vs) hm
  obtain ⟨b0, b1, b2, b3⟩ := LF_at (us := us) (vs := upV vs n v) hm
  rcases (show r = 0 ∨ r = 1 ∨ r = 2 ∨ r = 3 by omega) with rfl | rfl | rfl | rfl
  · rw [if_neg (by omega)]; exact a0.trans b0.symm
  · rw [if_neg (by omega), a1, b1]
  · rw [if_neg (by omega), a2, b2]
  · rw [b3, a3]; unfold upV
    by_cases e : m = n
    · rw [if_pos (by omega), if_pos e]
    · rw [if_neg (by omega), if_neg e]
theorem row_of_copy {w : World} {g n : Nat} {ls : List Lp} {us vs : Nat → Value} (hn : n = ls.length) (hk : Ks 4 (cL ls us vs)) (hb : w.heap[g]? = some (.cells (cL ls us vs).flatten.toArray 46 (0, 0))) : w.rowIs g 46 (n * 4) (LF ls us vs) := by
  refine ⟨_, hb, by simp only [List.size_toArray]; rw [hk.len, cL_len, hn], fun i hi => ?_⟩
  obtain ⟨m, r, rfl, hr⟩ := mod4 i
  have := hk.get m r (by rw [cL_len]; omega) hr
  simp only [List.getElem?_toArray]
  rw [this]
  unfold LF
  rw [show (m * 4 + r) / 4 = m by omega, show (m * 4 + r) % 4 = r by omega]
theorem own_of_lrow {w : World} {N g n : Nat} {ls : List Lp} {us vs : Nat → Value} (hn : n = ls.length) (hk : Ks 4 (cL ls us vs)) (hg : N ≤ g) (h9 : n ≤ 1000000) (hr : w.rowIs g 46 (n * 4) (LF ls us vs)) : w.ownsRow N 46 4 (.slice (some ⟨g, 0, none⟩) n n) n (cL ls us vs).flatten := by
  obtain ⟨c, hb, hs, hc⟩ := hr
  refine ⟨by rw [hk.len, cL_len, hn], .inr ⟨g, n, c, rfl, hg, hb, Nat.le_refl _, by unfold maxLen; omega, hs, ?_⟩⟩
  refine List.ext_getElem? fun i => ?_
  rw [List.getElem?_take]
  by_cases hi : i < n * 4
  · rw [if_pos hi, Array.getElem?_toList, hc i hi]
    obtain ⟨m, r, rfl, hr⟩ := mod4 i
    rw [hk.get m r (by rw [cL_len]; omega) hr]
    unfold LF
    rw [show (m * 4 + r) / 4 = m by omega, show (m * 4 + r) % 4 = r by omega]
  · rw [if_neg hi, List.getElem?_eq_none (by rw [hk.len, cL_len]; omega)]
end Go.Proofs.YtlhkehfplcclgaaDoor
/- copyFabric. -/
namespace Go.Proofs.YtlhkehfplcclgaaDoor
set_option linter.unusedVariables false
set_option linter.unusedSimpArgs false
set_option maxRecDepth 8000
open Go Go.RowKit

/-- The rows before y are copied. -/
structure CS (N g0 tn : Nat) (wr : World) (f : Nat → Value) (t : Tab) (y : Nat) : Prop where
  tab : wr.rowIs g0 47 tn f
  rows : ∀ i, i < y → ∃ us vs, LRo N wr (f i) (yi t i) us vs
theorem CS.ext {N g0 tn : Nat} {w w' : World} {f : Nat → Value} {t : Tab} {y : Nat} (h : CS N g0 tn w f t y) (x : Ext w w') : CS N g0 tn w' f t y :=
  ⟨x.row h.tab, fun i hi => by obtain ⟨us, vs, h1⟩ := h.rows i hi; exact ⟨us, vs, h1.ext x⟩⟩
theorem CS.setB {N g0 tn : Nat} {w : World} {f : Nat → Value} {t : Tab} {y b : Nat} (h : CS N g0 tn w f t y) (hb : b < g0) (h0 : g0 < N) (o : Nat) (v : Value) : CS N g0 tn (w.setCell ⟨b, o, none⟩ v) f t y := by
  have up := UpB.set N w ⟨b, o, none⟩ v
  have o0 : ∀ {k n : Nat} {e : TypeId} {v : Value} {xs : List Value}, w.ownsRow N e k v n xs → v.ownBlock ≠ some b := fun ho e => by have := (ho.lt b e).1; omega
  refine ⟨h.tab.setOther (fun e => by dsimp only at e; omega) v, fun i hi => ?_⟩
  obtain ⟨us, vs, h1⟩ := h.rows i hi
  exact ⟨us, vs, own_upB h1.row (o0 h1.row) up, fun i hi => own_upB (h1.u i hi) (o0 (h1.u i hi)) up, fun i hi => own_upB (h1.v i hi) (o0 (h1.v i hi)) up⟩
theorem CS.put4 {N g0 tn : Nat} {w : World} {f : Nat → Value} {t : Tab} {y b : Nat} (h : CS N g0 tn w f t y) (hb : b < g0) (h0 : g0 < N) (x' y' z' u' : Value) : CS N g0 tn ((((w.setCell ⟨b, 0, none⟩ x').setCell ⟨b, 1, none⟩ y').setCell ⟨b, 2, none⟩ z').setCell ⟨b, 3, none⟩ u') f t y := (((h.setB hb h0 _ _).setB hb h0 _ _).setB hb h0 _ _).setB hb h0 _ _
theorem blk_put4 {w : World} {b g : Nat} {o : Obj} (h : w.heap[g]? = some o) (hb : g ≠ b) (x' y' z' u' : Value) : ((((w.setCell ⟨b, 0, none⟩ x').setCell ⟨b, 1, none⟩ y').setCell ⟨b, 2, none⟩ z').setCell ⟨b, 3, none⟩ u').heap[g]? = some o := by
  rw [Below.heap_setCell _ _ _ _ hb, Below.heap_setCell _ _ _ _ hb, Below.heap_setCell _ _ _ _ hb, Below.heap_setCell _ _ _ _ hb]; exact h
theorem CS.agr {N M g0 tn : Nat} {w w' : World} {f : Nat → Value} {t : Tab} {y : Nat} (h : CS N g0 tn w f t y) (hg : M ≤ g0) (hN : M ≤ N) (u : Agr M w w') : CS N g0 tn w' f t y :=
  ⟨h.tab.of_block (u g0 hg h.tab.lt), fun i hi => by
    obtain ⟨us, vs, h1⟩ := h.rows i hi
    exact ⟨us, vs, own_agr h1.row hN u, fun i hi => own_agr (h1.u i hi) hN u, fun i hi => own_agr (h1.v i hi) hN u⟩⟩
/-- .. and of row y, in block gy, the loops before n. -/
structure CI (N g0 gy tn : Nat) (wr : World) (f : Nat → Value) (t : Tab) (y : Nat) (us vs : Nat → Value) (n : Nat) : Prop where
  c : CS N g0 tn wr f t y
  fy : f y = .slice (some ⟨gy, 0, none⟩) (yi t y).length (yi t y).length
  b : N ≤ gy
  b0 : g0 < N
  row : wr.rowIs gy 46 ((yi t y).length * 4) (LF (yi t y) us vs)
  ne : ∀ i, i < y → (f i).ownBlock ≠ some gy
  u : ∀ i, i < n → i < (yi t y).length → wr.ownsRow N 41 2 (us i) (li (yi t y) i).thr.length ((li (yi t y) i).thr.map Nm.cs).flatten
  v : ∀ i, i < n → i < (yi t y).length → wr.ownsRow N 50 4 (vs i) (li (yi t y) i).past.length ((li (yi t y) i).past.map Ps.cs).flatten
theorem CI.ext {N g0 gy tn : Nat} {w w' : World} {f : Nat → Value} {t : Tab} {y : Nat} {us vs : Nat → Value} {n : Nat} (h : CI N g0 gy tn w f t y us vs n) (x : Ext w w') : CI N g0 gy tn w' f t y us vs n :=
  ⟨h.c.ext x, h.fy, h.b, h.b0, x.row h.row, h.ne, fun i h1 h2 => own_extk (h.u i h1 h2) x, fun i h1 h2 => own_extk (h.v i h1 h2) x⟩
theorem CI.set {N g0 gy tn : Nat} {w : World} {f : Nat → Value} {t : Tab} {y : Nat} {us vs us' vs' : Nat → Value} {n : Nat} (h : CI N g0 gy tn w f t y us vs n) (o : Nat) (a : Value)
    (hL : ∀ i, i < (yi t y).length * 4 → (if i = o then a else LF (yi t y) us vs i) = LF (yi t y) us' vs' i) (hu : ∀ i, i < n → us' i = us i) (hv : ∀ i, i < n → vs' i = vs i) :
    CI N g0 gy tn (w.setCell ⟨gy, o, none⟩ a) f t y us' vs' n := by
  have up := UpB.set N w ⟨gy, o, none⟩ a
  obtain ⟨c, hb, _⟩ := h.row
  have hb0 := h.b0; have hbb := h.b
  refine ⟨⟨h.c.tab.setOther (fun e => by dsimp only at e; omega) a, fun i hi => ?_⟩, h.fy, h.b, h.b0, (h.row.set o a).congr hL, h.ne, fun i h1 h2 => ?_, fun i h1 h2 => ?_⟩
  · obtain ⟨us, vs, h1⟩ := h.c.rows i hi
    exact ⟨us, vs, h1.up (h.ne i hi) hb (by decide) (by decide) up⟩
  · rw [hu i h1]; exact own_upB (h.u i h1 h2) (own_ne_ty (h.u i h1 h2) hb (by decide)) up
  · rw [hv i h1]; exact own_upB (h.v i h1 h2) (own_ne_ty (h.v i h1 h2) hb (by decide)) up
/-- Row y is begun: its cells are those of the original. -/
theorem CI.start {N g0 gy tn : Nat} {w : World} {f : Nat → Value} {t : Tab} {y : Nat} {us vs : Nat → Value} (h : CS N g0 tn w f t y) (hb : N ≤ gy) (hb0 : g0 < N) (hk : Ks 4 (cL (yi t y) us vs)) (hne : ∀ i, i < y → (f i).ownBlock ≠ some gy)
    (hc : w.heap[gy]? = some (.cells (cL (yi t y) us vs).flatten.toArray 46 (0, 0))) :
    CI N g0 gy tn (w.setCell ⟨g0, y, none⟩ (.slice (some ⟨gy, 0, none⟩) (yi t y).length (yi t y).length)) (upV f y (.slice (some ⟨gy, 0, none⟩) (yi t y).length (yi t y).length)) t y us vs 0 := by
  have up := UpB.set N w ⟨g0, y, none⟩ (.slice (some ⟨gy, 0, none⟩) (yi t y).length (yi t y).length)
  have hfi : ∀ i, i < y → upV f y (.slice (some ⟨gy, 0, none⟩) (yi t y).length (yi t y).length) i = f i := fun i hi => by unfold upV; rw [if_neg (by omega)]
  refine ⟨⟨h.tab.set y _, fun i hi => ?_⟩, by unfold upV; rw [if_pos rfl], hb, hb0, (row_of_copy rfl hk hc).setOther (fun e => by dsimp only at e; omega) _, fun i hi => by rw [hfi i hi]; exact hne i hi, fun i h1 => by omega, fun i h1 => by omega⟩
  obtain ⟨us, vs, h1⟩ := h.rows i hi
  rw [hfi i hi]
  have o0 : ∀ {k n : Nat} {e : TypeId} {v : Value} {xs : List Value}, w.ownsRow N e k v n xs → v.ownBlock ≠ some g0 := fun ho e => by have := (ho.lt g0 e).1; omega
  exact ⟨us, vs, own_upB h1.row (o0 h1.row) up, fun i hi => own_upB (h1.u i hi) (o0 (h1.u i hi)) up, fun i hi => own_upB (h1.v i hi) (o0 (h1.v i hi)) up⟩
theorem CI.done {N g0 gy tn : Nat} {w : World} {f : Nat → Value} {t : Tab} {y : Nat} {us vs : Nat → Value} (h : CI N g0 gy tn w f t y us vs (yi t y).length) (h9 : (yi t y).length ≤ 1000000) : CS N g0 tn w f t (y + 1) := by
  refine ⟨h.c.tab, fun i hi => ?_⟩
  rcases Nat.lt_or_ge i y with h1 | h1
  · exact h.c.rows i h1
  · obtain rfl : i = y := by omega
    refine ⟨us, vs, ?_, fun j hj => h.u j hj hj, fun j hj => h.v j hj hj⟩
    rw [h.fy]
    exact own_of_lrow rfl (cL_ks fun j hj => ⟨own_one (h.u j hj hj), own_one (h.v j hj hj)⟩) h.b h9 h.row
/-- The copy is a table. -/
theorem CS.tb {N g0 tn : Nat} {w : World} {f : Nat → Value} {t : Tab} (h : CS N g0 tn w f t tn) (hn : tn = t.length) (h9 : tn ≤ 100000) : TB w (.slice (some ⟨g0, 0, none⟩) tn tn) tn t := by
  refine ⟨f, ⟨_, by rw [List.length_map, List.length_range, hn], by simp [hn], by omega, .inr ⟨g0, 0, rfl, fun i hi => ?_⟩⟩, fun i hi => ?_⟩
  · have hi' : i < tn := by simpa [hn] using hi
    intro j hj
    have e1 : ((List.range t.length).map fun i => [f i]).getD i [] = [f i] := by simp [List.getD, show i < t.length by omega]
    rw [e1] at hj ⊢
    obtain rfl : j = 0 := by simp at hj; omega
    have := h.tab.cell hi'
    simpa using this
  · obtain ⟨us, vs, h1⟩ := h.rows i (by omega)
    exact h1.to
theorem LR.kk {w : World} {v : Value} {c : Nat} {ls : List Lp} (h : LR w v c ls) : ∃ us vs, CK 4 w v c (cL ls us vs) ∧ Ks 4 (cL ls us vs) ∧ ∀ i, i < ls.length → (∃ d, NL w (us i) d (li ls i).thr) ∧ ∃ d, PL w (vs i) d (li ls i).past := by
  obtain ⟨us, vs, h1, h2⟩ := h
  refine ⟨us, vs, h1, cL_ks fun i hi => ?_, h2⟩
  obtain ⟨⟨d, h3⟩, e, h4⟩ := h2 i hi
  obtain ⟨a1, n1, e1, _⟩ := h3.open
  obtain ⟨a2, n2, e2, _⟩ := h4.open
  rw [e1, e2]; exact ⟨rfl, rfl⟩
end Go.Proofs.YtlhkehfplcclgaaDoor
