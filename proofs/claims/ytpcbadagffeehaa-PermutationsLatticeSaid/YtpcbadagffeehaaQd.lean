/- Plain facts on words: the least letter, the exchange, and what it does to the pairs that cross. No program in sight. -/
import Derived.Test.YtpcbadagffeehaaQb
namespace Go.Proofs.Ytpcbadagffeehaa
set_option linter.unusedVariables false
set_option linter.unusedSimpArgs false
open Go

theorem gi_set {l : List Int} {i : Nat} (hi : i < l.length) (x : Int) (j : Nat) : gi (l.set i x) j = if j = i then x else gi l j := by
  unfold gi
  by_cases h : j = i
  · subst h; rw [if_pos rfl]; simp [List.getD, hi]
  · rw [if_neg h]; simp [List.getD, List.getElem?_set, Ne.symm h]

/-- The least letter with which a list can begin. -/
def ffN (l : List Int) : Nat := (gi (fallsL l) 0).toNat
theorem falls_mem {l : List Int} {x : Int} : x ∈ fallsL l ↔ ∃ i : Nat, x = (i : Int) ∧ 1 ≤ i ∧ i < l.length ∧ fallB l i = true := by
  unfold fallsL fallsTo
  simp only [List.mem_map, List.mem_filter, List.mem_range, Bool.and_eq_true, decide_eq_true_eq]
  constructor
  · rintro ⟨i, ⟨h1, h2, h3⟩, rfl⟩; exact ⟨i, rfl, h2, h1, h3⟩
  · rintro ⟨i, rfl, h1, h2, h3⟩; exact ⟨i, ⟨h2, h1, h3⟩, rfl⟩
theorem filter_head {p : Nat → Bool} : ∀ (n : Nat) (i : Nat), (List.range n).filter p ≠ [] → ((List.range n).filter p)[0]? = some i → i < n ∧ p i = true ∧ ∀ j, j < i → p j = false
  | 0, i, h, _ => by simp at h
  | n + 1, i, h, hi => by
    rw [List.range_succ, List.filter_append] at hi
    by_cases he : (List.range n).filter p = []
    · rw [he, List.nil_append] at hi
      cases hp : p n with
      | false => simp [hp] at hi
      | true =>
        have : n = i := by simpa [hp] using hi
        subst this
        refine ⟨by omega, hp, fun j hj => ?_⟩
        rw [List.filter_eq_nil_iff] at he
        simpa using he j (List.mem_range.2 hj)
    · have h0 : 0 < ((List.range n).filter p).length := List.length_pos_iff.2 he
      rw [List.getElem?_append_left h0] at hi
      obtain ⟨a, b, c⟩ := filter_head n i he hi
      exact ⟨by omega, b, c⟩
theorem ffN_spec {l : List Int} (h : fallsL l ≠ []) : gi (fallsL l) 0 = (ffN l : Int) ∧ 1 ≤ ffN l ∧ ffN l < l.length ∧ fallB l (ffN l) = true ∧ ∀ j, 1 ≤ j → j < ffN l → fallB l j = false := by
  have hlen : 0 < (fallsL l).length := List.length_pos_iff.2 h
  have hm := gi_mem hlen
  obtain ⟨i, e, h1, h2, h3⟩ := falls_mem.1 hm
  have hf : ffN l = i := by unfold ffN; rw [e]; omega
  rw [hf]
  refine ⟨e, h1, h2, h3, fun j j1 j2 => ?_⟩
  have hne : (List.range l.length).filter (fun i => decide (1 ≤ i) && fallB l i) ≠ [] := fun e' => h (by unfold fallsL fallsTo; rw [e']; rfl)
  have hget : ((List.range l.length).filter (fun i => decide (1 ≤ i) && fallB l i))[0]? = some i := by
    have := gi_some hlen
    rw [e] at this
    unfold fallsL fallsTo at this
    rw [List.getElem?_map] at this
    obtain ⟨y, hy, hyi⟩ := Option.map_eq_some_iff.1 this
    rw [hy]
    have : y = i := by have : (y : Int) = (i : Int) := hyi; omega
    rw [this]
  have := (filter_head _ _ hne hget).2.2 j j2
  simpa [j1] using this
theorem fallB_cr (l : List Int) {i : Nat} (h : 1 ≤ i) : fallB l i = crB l i (i + 1) := by
  unfold fallB crB; rw [Nat.add_sub_cancel]
/-- Without a fall nothing crosses. -/
theorem no_falls {l : List Int} (h : fallsL l = []) : invs l = 0 := by
  have hf : ∀ i, 1 ≤ i → i < l.length → fallB l i = false := fun i h1 h2 => by
    cases e : fallB l i with
    | false => rfl
    | true => have : (i : Int) ∈ fallsL l := falls_mem.2 ⟨i, rfl, h1, h2, e⟩
              rw [h] at this; cases this
  have hm : ∀ d a : Nat, 1 ≤ a → a + d ≤ l.length → gi l (a - 1) ≤ gi l (a + d - 1) := fun d => by
    induction d with
    | zero => intro a _ _; exact Int.le_refl _
    | succ d ih =>
      intro a h1 h2
      have a1 := ih a h1 (by omega)
      have a2 := hf (a + d) (by omega) (by omega)
      unfold fallB at a2
      simp only [decide_eq_false_iff_not] at a2
      rw [show a + (d + 1) - 1 = a + d by omega]
      omega
  refine sm_zero fun a a1 a2 => sm_zero fun b b1 b2 => ?_
  by_cases l' : a < b
  · have := hm (b - a) a a1 (by omega)
    rw [show a + (b - a) - 1 = b - 1 by omega] at this
    unfold crB
    rw [decide_eq_false (show ¬ gi l (b - 1) < gi l (a - 1) by omega)]; simp [tf]
  · simp [l', tf]
theorem falls_of_invs {l : List Int} (h : 0 < invs l) : fallsL l ≠ [] := fun e => by rw [no_falls e] at h; omega
/-- .. and the list ascends. -/
theorem sorted_id {l : List Int} (h : pok l) (h0 : invs l = 0) : l = idL l.length := by
  refine crB_ext h idL_pok (by rw [idL_len]) fun a b a1 ab bn => ?_
  have h1 : crB (idL l.length) a b = false := by unfold crB; rw [idL_gi (by omega), idL_gi (by omega)]; exact decide_eq_false (by omega)
  rw [h1]
  cases e : crB l a b with
  | false => rfl
  | true =>
    exfalso
    have : sm l.length (fun _ => 0) < invs l := by
      unfold invs
      refine sm_lt (i := a) (fun j _ _ => sm_nonneg fun _ _ _ => (tf_bd _).1) a1 (by omega) ?_
      have := sm_lt (n := l.length) (f := fun _ => 0) (g := fun b => tf (decide (a < b) && crB l a b)) (i := b) (fun _ _ _ => (tf_bd _).1) (by omega) bn (by simp [ab, e, tf])
      rwa [sm_zero fun _ _ _ => rfl] at this
    rw [sm_zero fun _ _ _ => rfl] at this
    omega

/-- Places k - 1 and k exchanged. -/
def swL (l : List Int) (k : Nat) : List Int := (l.set (k - 1) (gi l k)).set k (gi l (k - 1))
theorem swL_len (l : List Int) (k : Nat) : (swL l k).length = l.length := by simp [swL]
theorem swL_gi {l : List Int} {k : Nat} (h1 : 1 ≤ k) (h2 : k < l.length) (j : Nat) : gi (swL l k) j = if j = k then gi l (k - 1) else if j = k - 1 then gi l k else gi l j := by
  unfold swL
  rw [gi_set (by simpa using h2), gi_set (by omega)]
/-- The exchange of k and k + 1. -/
def tr (k i : Nat) : Nat := if i = k then k + 1 else if i = k + 1 then k else i
theorem tr_tr (k i : Nat) : tr k (tr k i) = i := by
  unfold tr
  by_cases h1 : i = k
  · subst h1; simp
  · by_cases h2 : i = k + 1
    · subst h2; simp
    · simp [h1, h2]
theorem tr_bd {k n i : Nat} (k1 : 1 ≤ k) (k2 : k < n) (h1 : 1 ≤ i) (h2 : i ≤ n) : 1 ≤ tr k i ∧ tr k i ≤ n := by
  unfold tr
  by_cases a : i = k
  · rw [if_pos a]; omega
  · rw [if_neg a]
    by_cases b : i = k + 1
    · rw [if_pos b]; omega
    · rw [if_neg b]; omega
theorem swL_tr {l : List Int} {k : Nat} (k1 : 1 ≤ k) (k2 : k < l.length) {i : Nat} (h1 : 1 ≤ i) : gi (swL l k) (tr k i - 1) = gi l (i - 1) := by
  rw [swL_gi k1 k2]
  unfold tr
  by_cases a : i = k
  · rw [if_pos a, Nat.add_sub_cancel, if_pos rfl, a]
  · rw [if_neg a]
    by_cases b : i = k + 1
    · rw [if_pos b, if_neg (by omega), if_pos rfl, b, Nat.add_sub_cancel]
    · rw [if_neg b, if_neg (by omega), if_neg (by omega)]
theorem sm_tr {n k : Nat} (k1 : 1 ≤ k) (k2 : k < n) (f : Nat → Int) : sm n f = sm n fun i => f (tr k i) := by
  have e1 : sm n f = sm n fun u => sm n fun i => if tr k i = u then f u else 0 := sm_congr fun u u1 u2 => by
    have hb := tr_bd k1 k2 u1 u2
    rw [sm_pick hb.1 hb.2 (f := fun i => if tr k i = u then f u else 0) fun j j1 j2 hj => if_neg fun e => hj (by rw [← e, tr_tr])]
    rw [if_pos (tr_tr k u)]
  rw [e1, sm_comm]
  refine sm_congr fun i i1 i2 => ?_
  have hb := tr_bd k1 k2 i1 i2
  rw [sm_pick (u := tr k i) hb.1 hb.2 fun j _ _ hj => if_neg fun e => hj e.symm, if_pos rfl]
theorem swL_pok {l : List Int} (h : pok l) {k : Nat} (k1 : 1 ≤ k) (k2 : k < l.length) : pok (swL l k) := by
  have hv : ∀ i, 1 ≤ i → i ≤ l.length → gi (swL l k) (i - 1) = gi l (tr k i - 1) := fun i a b => by
    have := swL_tr k1 k2 (l := l) (i := tr k i) (tr_bd k1 k2 a b).1
    rwa [tr_tr] at this
  refine pok_mk (fun i h1 h2 => ?_) (fun i j h1 h2 h3 e => ?_)
  · rw [swL_len] at *
    rw [hv i h1 h2]
    exact pok_bd h (tr_bd k1 k2 h1 h2).1 (tr_bd k1 k2 h1 h2).2
  · rw [swL_len] at *
    rw [hv i h1 (by omega), hv j (by omega) h3] at e
    have := pok_inj h (tr_bd k1 k2 h1 (show i ≤ l.length by omega)).1 (tr_bd k1 k2 h1 (show i ≤ l.length by omega)).2 (tr_bd k1 k2 (show 1 ≤ j by omega) h3).1 (tr_bd k1 k2 (show 1 ≤ j by omega) h3).2 e
    have h' : tr k (tr k i) = tr k (tr k j) := by rw [this]
    rw [tr_tr, tr_tr] at h'
    omega
/-- An exchange at a fall takes one pair away. -/
theorem swL_invs {l : List Int} {k : Nat} (k1 : 1 ≤ k) (k2 : k < l.length) (hf : gi l k < gi l (k - 1)) : invs (swL l k) + 1 = invs l := by
  have e1 : invs (swL l k) = sm l.length fun a => sm l.length fun b => tf (decide (tr k a < tr k b) && crB l a b) := by
    unfold invs
    rw [swL_len, sm_tr k1 k2]
    refine sm_congr fun a a1 a2 => ?_
    rw [sm_tr k1 k2]
    refine sm_congr fun b b1 b2 => ?_
    unfold crB
    rw [swL_tr k1 k2 a1, swL_tr k1 k2 b1]
  have e2 : invs l - invs (swL l k) = sm l.length fun a => sm l.length fun b => (if a = k ∧ b = k + 1 then 1 else 0 : Int) := by
    rw [e1]
    unfold invs
    rw [← sm_sub]
    refine sm_congr fun a a1 a2 => ?_
    rw [← sm_sub]
    refine sm_congr fun b b1 b2 => ?_
    by_cases h : a = k ∧ b = k + 1
    · obtain ⟨rfl, rfl⟩ := h
      have hc : crB l a (a + 1) = true := by unfold crB; rw [Nat.add_sub_cancel]; exact decide_eq_true hf
      have ht : ¬ tr a a < tr a (a + 1) := by unfold tr; rw [if_pos rfl, if_neg (by omega), if_pos rfl]; omega
      simp [hc, ht, tf]
    · rw [if_neg h]
      by_cases h' : a = k + 1 ∧ b = k
      · obtain ⟨rfl, rfl⟩ := h'
        have hc : crB l (b + 1) b = false := by unfold crB; rw [Nat.add_sub_cancel]; exact decide_eq_false (by omega)
        simp [hc, tf]
      · have : (tr k a < tr k b) ↔ a < b := by unfold tr; split <;> split <;> (try split) <;> (try split) <;> omega
        simp only [this]; omega
  have e3 : (sm l.length fun a => sm l.length fun b => (if a = k ∧ b = k + 1 then 1 else 0 : Int)) = 1 := by
    rw [sm_pick (u := k) k1 (by omega) fun a _ _ hne => sm_zero fun b _ _ => if_neg fun h => hne h.1]
    rw [sm_pick (u := k + 1) (by omega) (by omega) fun b _ _ hne => if_neg fun h => hne h.2]
    rw [if_pos ⟨rfl, rfl⟩]
  omega

/-- What is left behind j letters. -/
def wleft (l : List Int) : Nat → List Int
  | 0 => l
  | j + 1 => swL (wleft l j) (ffN (wleft l j))
/-- The first j letters. -/
def wlet (l : List Int) (j : Nat) : List Int := (List.range j).map fun i => (ffN (wleft l i) : Int)
theorem wlet_succ (l : List Int) (j : Nat) : wlet l (j + 1) = wlet l j ++ [(ffN (wleft l j) : Int)] := by simp [wlet, List.range_succ]
theorem wlet_len (l : List Int) (j : Nat) : (wlet l j).length = j := by simp [wlet]
theorem wlet_gi (l : List Int) {j i : Nat} (h : i < j) : gi (wlet l j) i = (ffN (wleft l i) : Int) := by unfold wlet; rw [gi_range_map _ h]
theorem wleft_spec {l : List Int} (h : pok l) : ∀ j : Nat, (j : Int) ≤ invs l → (wleft l j).length = l.length ∧ pok (wleft l j) ∧ invs (wleft l j) = invs l - j
  | 0, _ => ⟨rfl, h, by simp [wleft]⟩
  | j + 1, hj => by
    obtain ⟨h1, h2, h3⟩ := wleft_spec h j (by omega)
    have hf := ffN_spec (falls_of_invs (l := wleft l j) (by omega))
    have hlt : gi (wleft l j) (ffN (wleft l j)) < gi (wleft l j) (ffN (wleft l j) - 1) := by have := hf.2.2.2.1; unfold fallB at this; exact of_decide_eq_true this
    refine ⟨by rw [wleft, swL_len, h1], swL_pok h2 hf.2.1 hf.2.2.1, ?_⟩
    have := swL_invs hf.2.1 hf.2.2.1 hlt
    rw [wleft]; omega
end Go.Proofs.Ytpcbadagffeehaa
