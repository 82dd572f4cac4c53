/- Texts of this claim in one file: libraries and walks. -/
import Derived.Deep.RegionHeld3
import Derived.Test.YtigffblelngpjaaDoorL2
/- Contract of Links. -/
namespace Go.Proofs.YtigffblelngpjaaDoor
set_option linter.unusedVariables false
set_option linter.unusedSimpArgs false
set_option maxRecDepth 8000
open Go Go.RowKit

/-! ### the sums of the crossings -/
/-- What one crossing makes of the sums. -/
def lnkStep (L : Nat → Nat → Int) (a b : Nat) (s : Int) (i j : Nat) : Int :=
  L i j + (if i = a ∧ j = b then s else 0) + (if i = b ∧ j = a then s else 0)
def sA (n : Nat) (xs : List Int) (k : Nat) : Nat := (gi (fol n (xs.take k)) (lft (gi xs k))).toNat
def sB (n : Nat) (xs : List Int) (k : Nat) : Nat := (gi (fol n (xs.take k)) (lft (gi xs k) + 1)).toNat
def lnk (n : Nat) (xs : List Int) : Nat → Nat → Nat → Int
  | 0 => fun _ _ => 0
  | k + 1 => lnkStep (lnk n xs k) (sA n xs k) (sB n xs k) (sgn (gi xs k))
def linksOf (n : Nat) (xs : List Int) : List (List Int) := (List.range n).map fun i => (List.range n).map fun j => lnk n xs xs.length i j

theorem sgn_bd (k : Int) : -1 ≤ sgn k ∧ sgn k ≤ 1 := by
  by_cases h : k < 0
  · rw [sgn_neg h]; omega
  · rw [sgn_pos h]; omega
theorem lnk_bd (n : Nat) (xs : List Int) (k i j : Nat) : -(2 * (k : Int)) ≤ lnk n xs k i j ∧ lnk n xs k i j ≤ 2 * k := by
  induction k generalizing i j with
  | zero => simp [lnk]
  | succ k ih =>
    have h1 := ih i j
    have h2 := sgn_bd (gi xs k)
    show _ ≤ lnkStep _ _ _ _ i j ∧ lnkStep _ _ _ _ i j ≤ _
    unfold lnkStep
    split <;> split <;> omega

/-- Different places hold different strands. -/
def Inj (a : List Int) : Prop := ∀ i j, i < a.length → j < a.length → gi a i = gi a j → i = j
theorem inj_swp {a : List Int} {l : Nat} (h : Inj a) (hl : l + 1 < a.length) : Inj (swp a l) := by
  intro i j hi hj he
  rw [swp_len] at hi hj
  rw [gi_swp _ _ _ hl, gi_swp _ _ _ hl] at he
  repeat' split at he
  all_goals first | (have := h _ _ (by omega) (by omega) he; omega)
theorem inj_fol {n : Nat} {xs : List Int} (h : ∀ i, i < xs.length → wbad n (gi xs i) = false) (h1 : 1 ≤ n) (h8 : n ≤ 8) : ∀ k, k ≤ xs.length → Inj (fol n (xs.take k)) := by
  intro k
  induction k with
  | zero => intro _ i j hi hj he; simp only [List.take_zero, fol, List.foldl_nil] at hi hj he; rw [gi_of_lt hi, gi_of_lt hj] at he; simp at he; omega
  | succ k ih =>
    intro hk
    rw [take_succ_gi (by omega), fol_snoc]
    exact inj_swp (ih (by omega)) (by have := lft_bd (by omega) (by omega) (h k (by omega)); rw [fol_len]; omega)

/-- The table of the sums in memory: the outer row at block B, its rows behind the block of the variable. -/
structure Tab (w : World) (B n : Nat) (L : Nat → Nat → Int) : Prop where
  var : w.heap[B + 1]? = some (.cells #[.slice (some ⟨B, 0, none⟩) n n] 40 (0, 0))
  outer : w.rowIs B 34 n (fun i => .slice (some ⟨B + 2 + i, 0, none⟩) n n)
  rows : ∀ i, i < n → w.rowIs (B + 2 + i) 3 n (fun j => .int .i64 (L i j))

theorem Tab.congr {w : World} {B n : Nat} {L L' : Nat → Nat → Int} (h : Tab w B n L) (e : ∀ i j, i < n → j < n → L i j = L' i j) : Tab w B n L' :=
  ⟨h.var, h.outer, fun i hi => (h.rows i hi).congr fun j hj => by rw [e i j hi hj]⟩
theorem Tab.keep {w w' : World} {B n : Nat} {L : Nat → Nat → Int} (h : Tab w B n L) (hb : ∀ k, k < B + 2 + n → w'.heap[k]? = w.heap[k]?) : Tab w' B n L :=
  ⟨(hb _ (by omega)).trans h.var, h.outer.of_block (hb _ (by omega)), fun i hi => (h.rows i hi).of_block (hb _ (by omega))⟩
theorem Tab.step {w : World} {B n : Nat} {L : Nat → Nat → Int} (h : Tab w B n L) {a b : Nat} {s : Int} (ha : a < n) (hb : b < n) (hab : a ≠ b) :
    Tab ((w.setCell ⟨B + 2 + a, b, none⟩ (.int .i64 (L a b + s))).setCell ⟨B + 2 + b, a, none⟩ (.int .i64 (L b a + s))) B n (lnkStep L a b s) := by
  refine ⟨?_, (h.outer.setOther (by simp; omega) _).setOther (by simp; omega) _, fun i hi => ?_⟩
  · rw [Below.heap_setCell _ _ _ _ (by simp; omega), Below.heap_setCell _ _ _ _ (by simp; omega)]; exact h.var
  · by_cases e1 : i = a
    · subst e1
      refine (((h.rows i hi).set b _).setOther (by simp; omega) _).congr fun j hj => ?_
      unfold lnkStep
      by_cases e2 : j = b
      · subst e2; rw [if_pos rfl, if_pos ⟨rfl, rfl⟩, if_neg (by omega)]; simp
      · rw [if_neg e2, if_neg (by omega), if_neg (by omega)]; simp
    · by_cases e2 : i = b
      · subst e2
        refine (((h.rows i hi).setOther (by simp; omega) _).set a _).congr fun j hj => ?_
        unfold lnkStep
        by_cases e3 : j = a
        · subst e3; rw [if_pos rfl, if_neg (by omega), if_pos ⟨rfl, rfl⟩]; simp
        · rw [if_neg e3, if_neg (by omega), if_neg (by omega)]; simp
      · refine (((h.rows i hi).setOther (by simp; omega) _).setOther (by simp; omega) _).congr fun j hj => ?_
        unfold lnkStep
        rw [if_neg (by omega), if_neg (by omega)]; simp

/-- While the rows are made. -/
structure Half (w0 wr : World) (n k : Nat) : Prop where
  ext : Below w0.heap.size w0 wr
  size : wr.heap.size = w0.heap.size + 2 + k
  var : wr.heap[w0.heap.size + 1]? = some (.cells #[.slice (some ⟨w0.heap.size, 0, none⟩) n n] 40 (0, 0))
  outer : ∃ f, wr.rowIs w0.heap.size 34 n f ∧ ∀ i, i < k → f i = .slice (some ⟨w0.heap.size + 2 + i, 0, none⟩) n n
  rows : ∀ i, i < k → wr.rowIs (w0.heap.size + 2 + i) 3 n (fun _ => .int .i64 0)

theorem Half.next {w0 wr : World} {n k : Nat} (h : Half w0 wr n k) (hk : k < n) : Half w0 ((wr.alloc (.cells (madeCells #[.int .i64 0] n) 3)).setCell ⟨w0.heap.size, k, none⟩ (.slice (some ⟨wr.heap.size, 0, none⟩) n n)).drew n (k + 1) := by
  obtain ⟨f, hf, hf2⟩ := h.outer
  have hs := h.size
  refine ⟨((h.ext.alloc h.ext.size _).setCell (Nat.le_refl _) _).drew, ?_, ?_, ⟨_, ((hf.alloc _).set k _).drew, fun i hi => ?_⟩, fun i hi => ?_⟩
  · show ((wr.alloc _).setCell _ _).heap.size = _
    rw [World.size_setCell, World.size_alloc, hs]; omega
  · show ((wr.alloc _).setCell _ _).heap[_]? = _
    rw [Below.heap_setCell _ _ _ _ (by simp), Below.heap_alloc _ _ _ (by omega)]; exact h.var
  · by_cases e : i = k
    · subst e; rw [if_pos rfl, hs]
    · rw [if_neg e]; exact hf2 i (by omega)
  · by_cases e : i = k
    · subst e
      have := (World.rowIs_made wr (.int .i64 0) n 3)
      rw [hs] at this
      exact (this.setOther (by simp; omega) _).drew
    · exact (((h.rows i (by omega)).alloc _).setOther (by simp; omega) _).drew

end Go.Proofs.YtigffblelngpjaaDoor
/- Contracts of the law's helpers same and reduced. -/
namespace Go.Proofs.YtigffblelngpjaaDoor
set_option linter.unusedVariables false
set_option linter.unusedSimpArgs false
set_option maxRecDepth 8000
open Go Go.RowKit

def sameB (xs ys : List Int) : Bool := decide (xs = ys)
theorem sameB_eq (xs : List Int) : sameB xs xs = true := by unfold sameB; simp
theorem sameB_len {xs ys : List Int} (h : xs.length ≠ ys.length) : sameB xs ys = false := by
  unfold sameB; simp; intro e; exact h (by rw [e])
theorem sameB_ne {xs ys : List Int} {i : Nat} (h : gi xs i ≠ gi ys i) : sameB xs ys = false := by
  unfold sameB; simp; intro e; exact h (by rw [e])
theorem sameB_all {xs ys : List Int} (hl : xs.length = ys.length) (h : ∀ i, i < xs.length → gi xs i = gi ys i) : sameB xs ys = true := by
  rw [gi_ext hl h]; exact sameB_eq _

/-- Two reslicings of one slice, as a walk writes them. -/
theorem cut_lo {k : IntKind} {w : World} {b o n c : Nat} {xs : List Int} (h : IS k w (.slice (some ⟨b, o, none⟩) n c) c xs) (i : Nat) (hi : i ≤ n) :
    IS k w (.slice (some ⟨b, o, none⟩) i i) i (xs.take i) := by
  obtain ⟨h1, h2, ao, hv, hao⟩ := h.open
  simp only [Value.slice.injEq] at hv
  obtain ⟨rfl, rfl, _⟩ := hv
  rcases hao with ⟨_, h0, h9⟩ | ⟨b', o', he, hc⟩
  · exact IS.mk (by simp; omega) (Nat.le_refl _) (by omega) fun j hj => by omega
  · simp only [Option.some.injEq, Addr.mk.injEq, and_true] at he
    obtain ⟨rfl, rfl⟩ := he
    exact IS.mk (by simp; omega) (Nat.le_refl _) (by omega) fun j hj => by rw [gi_take hj]; exact hc j (by omega)

theorem cut_hi {k : IntKind} {w : World} {b o n c : Nat} {xs : List Int} (h : IS k w (.slice (some ⟨b, o, none⟩) n c) c xs) (i : Nat) (hi : i ≤ n) :
    IS k w (.slice (if c = i then some ⟨b, o, none⟩ else some ⟨b, o + i, none⟩) (n - i) (c - i)) (c - i) (xs.drop i) := by
  obtain ⟨h1, h2, ao, hv, hao⟩ := h.open
  simp only [Value.slice.injEq] at hv
  obtain ⟨rfl, rfl, _⟩ := hv
  rcases hao with ⟨_, h0, h9⟩ | ⟨b', o', he, hc⟩
  · split <;> exact IS.mk (by simp) (by omega) (by omega) fun j hj => by omega
  · simp only [Option.some.injEq, Addr.mk.injEq, and_true] at he
    obtain ⟨rfl, rfl⟩ := he
    split
    · exact IS.mk (by simp) (by omega) (by omega) fun j hj => by omega
    · exact IS.mk (by simp) (by omega) (by omega) fun j hj => by rw [gi_drop, Nat.add_assoc]; exact hc (i + j) (by omega)

def lenV : Value → Nat | .slice _ n _ => n | _ => 0

theorem lenV_of {k : IntKind} {w : World} {v : Value} {c : Nat} {xs : List Int} (h : IS k w v c xs) : lenV v = xs.length := by
  obtain ⟨_, _, ao, rfl, _⟩ := h.open; rfl

theorem reduced_calls (v : Value) (c : Nat) (xs : List Int) (w : World) (h : IS .i64 w v c xs) (hl : xs.length ≤ 1000000) (hb : ∀ i, i < xs.length → -100 ≤ gi xs i ∧ gi xs i ≤ 100) :
    Calls Tryd.prog 37 #[v] w (RetX .i64 w (red xs)) := by
  have hxs := h
  obtain ⟨h1, h2, ao, rfl, hao⟩ := h.open
  clear hao
  go_enter Tryd.func37, Tryd.ntmps37
  go_wp2_with (at_builtin; refine app_own weiInt rfl _ _ rfl w.heap.size _ 0 [] rfl (World.ownsRow_made w #[] 0 (Nat.le_refl _) (by unfold maxLen; omega) rfl) _ _ _ rfl (hxs.ext ((Ext.refl w).alloc _)) (onesI _) ?c1 ?c2 ?c3 ?_)
  case c1 => simp; omega
  case c2 => simp; omega
  case c3 => simp
  intro v' w1 hown hb1
  have hext : Ext w w1 := Below.trans ((Ext.refl w).alloc _) hb1
  obtain ⟨c1, hc1⟩ := IS.of_own hown
  have Hxs := Lib.hid hc1
  clear hown hb1 hc1 h hxs
  have Hb := Lib.hid hb; clear hb
  unfold maxLen at h2
  go_wp2
  go_loopw [3, 4] (fun out i wr => ∃ (st : List Int) (k cc : Nat), IS .i64 wr out cc st ∧ i = .int .i64 k ∧ k ≤ st.length ∧ st.length ≤ xs.length ∧ Hid (Redd st (k + 1)) ∧ Hid (rest st k = red xs) ∧ Hid (∀ j, j < st.length → -100 ≤ gi st j ∧ gi st j ≤ 100) ∧ Ext w wr) (fun out i _ => 2 * lenV out + 1 - (intOf i).toNat)
  case atStart => exact ⟨xs, 0, c1, Hxs.out, rfl, Nat.zero_le _, Nat.le_refl _, fun j h1 h2 => by omega, rest_zero xs, Hb.out, hext⟩
  case round =>
    obtain ⟨st, k, cc, hIS, rfl, hk, hsl, Hr, Hrest, Hbd, hext⟩ := hrel
    obtain ⟨g1, g2, bo, rfl, hbo⟩ := hIS.open
    obtain ⟨M, hM⟩ : ∃ M, M = st.length := ⟨_, rfl⟩
    have hIS' := hIS
    rw [← hM] at hIS' hbo g1 hk hsl ⊢
    have HM := Lib.hid hM; clear hM
    have HIS := Lib.hid hIS; have HIS' := Lib.hid hIS'; clear hIS hIS'
    unfold maxLen at g2
    by_cases hlt : k + 1 < M
    · obtain ⟨b, o, rfl, hc⟩ : ∃ b o, bo = some ⟨b, o, none⟩ ∧ ∀ i, i < M → wr.cell? ⟨b, o + i, none⟩ = some (.int .i64 (gi st i)) := by
        rcases hbo with ⟨_, h0, _⟩ | h
        · omega
        · exact h
      have hc1 := hc k (by omega)
      have hc2 := hc (k + 1) hlt
      clear hc hbo
      have hlt' : (k : Int) + 1 < M := by omega
      obtain ⟨hd1, hd2⟩ := Hbd.out (k + 1) (by rw [← HM.out]; exact hlt)
      by_cases he : gi st k = - gi st (k + 1)
      · have he' : (gi st k == - gi st (k + 1)) = true := by simp [he]
        have He := Lib.hid he; clear he
        go_wp2
        go_quiet (fail)
        go_wp2
        have f1 : (k : Int) ≤ (cc : Int) := by omega
        have f2 : (0 : Int) ≤ (k : Int) := by omega
        have f3 : (k : Int) + 2 ≤ (M : Int) := by omega
        have f4 : (0 : Int) ≤ (k : Int) + 2 := by omega
        have f5 : IntKind.i64.wrap ((k : Int) + 2) = (k : Int) + 2 := IntWalk.i64_in _ ⟨by omega, by omega⟩
        have f6 : ((k : Int) + 2).toNat = k + 2 := by omega
        go_still_tail 8, (by kernel_rfl)
        change wpList _ _ _ _ _ ((wr.drewN nq).drew)
        obtain ⟨w2, hw2⟩ : ∃ w2, w2 = ((wr.drewN nq).drew) := ⟨_, rfl⟩
        have hx2 : Ext wr w2 := by rw [hw2]; exact ((Ext.refl wr).drewN nq).drew
        rw [← hw2]
        clear hw2
        have hlen : ((st.take k).map (Value.int .i64)).length = k := by simp; rw [← HM.out]; omega
        refine app_full weiInt rfl _ _ rfl _ _ k rfl ((cut_lo HIS'.out k (by omega)).ext hx2) hlen _ _ _ rfl ((cut_hi HIS'.out (k + 2) (by omega)).ext hx2) (onesI _) ?_ ?_ ?_
        · have := HM.out; simp; omega
        · have := HM.out; simp; omega
        have Hlen := Lib.hid hlen; clear hlen f1 f2 f3 f4 f5 f6
        intro v2 c2 w3 hv2 _ hx3
        rw [← List.map_append] at hv2
        have hs := rest_cut (by rw [← HM.out]; exact hlt) Hr.out He.out
        have hbd2 : ∀ j, j < (st.take k ++ st.drop (k + 2)).length → -100 ≤ gi (st.take k ++ st.drop (k + 2)) j ∧ gi (st.take k ++ st.drop (k + 2)) j ≤ 100 := by
          intro j hj
          have hm := HM.out
          by_cases e : j < k
          · rw [gi_append_left (by simp; omega), gi_take e]; exact Hbd.out j (by omega)
          · rw [gi_append_right (by simp; omega), gi_drop]; simp at hj ⊢; exact Hbd.out _ (by omega)
        obtain ⟨st2, hst2⟩ : ∃ st2, st2 = st.take k ++ st.drop (k + 2) := ⟨_, rfl⟩
        have hl2 : st2.length = M - 2 := by rw [hst2]; simp; have := HM.out; omega
        rw [← hst2] at hs hv2 hbd2
        have Hl2 := Lib.hid hl2; have Hs := Lib.hid hs; have Hv2 := Lib.hid hv2; have Hbd2 := Lib.hid hbd2
        clear hst2 hl2 hs hv2 hbd2 Hlen
        by_cases hk0 : k = 0
        · subst hk0
          go_wp2
          go_roundw
          case rel => exact ⟨st2, 0, c2, Hv2.out, by go_num, Nat.zero_le _, by rw [Hl2.out]; omega, Hs.out.2, Hs.out.1.trans Hrest.out, Hbd2.out, hext.trans (hx2.trans hx3)⟩
          case measure =>
            have := lenV_of (k := .i64) Hv2.out
            rw [this, Hl2.out]; simp [intOf, lenV]; omega
        · go_wp2
          go_roundw
          case rel => exact ⟨st2, k - 1, c2, Hv2.out, by go_num, by rw [Hl2.out]; omega, by rw [Hl2.out]; omega, Hs.out.2, Hs.out.1.trans Hrest.out, Hbd2.out, hext.trans (hx2.trans hx3)⟩
          case measure =>
            have := lenV_of (k := .i64) Hv2.out
            rw [this, Hl2.out]; simp [intOf, lenV]; omega
      · have he' : (gi st k == - gi st (k + 1)) = false := by simp [he]
        have He := Lib.hid he; clear he
        go_wp2
        go_quiet (fail)
        go_wp2
        go_roundw
        case rel => 
          have hs := rest_step (by rw [← HM.out]; exact hlt) Hr.out He.out
          exact ⟨st, k + 1, cc, HIS'.out.ext ((Ext.refl _).drewN _), by go_num, by rw [← HM.out]; omega, by rw [← HM.out]; exact hsl, hs.2, hs.1.trans Hrest.out, Hbd.out, hext.drewN _⟩
        case measure => simp [intOf, lenV]; omega
    · have hfin : st = red xs := by rw [← Hrest.out]; exact (rest_end (by rw [← HM.out]; exact hlt) Hr.out).symm
      have Hfin := Lib.hid hfin; clear hfin
      go_wp2
      go_ret
      rw [← Hfin.out]
      exact ⟨_, _, rfl, HIS'.out, hext⟩

end Go.Proofs.YtigffblelngpjaaDoor
/- Contracts of product and of the law's helpers back and all. -/
namespace Go.Proofs.YtigffblelngpjaaDoor
set_option linter.unusedVariables false
set_option linter.unusedSimpArgs false
set_option maxRecDepth 8000
open Go Go.RowKit

/-! ### product -/
def canc : List Int → List Int → Nat
  | x :: xs, y :: ys => if x = -y then canc xs ys + 1 else 0
  | _, _ => 0
theorem canc_eq : ∀ (k : Nat) (a b : List Int), k ≤ a.length → k ≤ b.length → (∀ i, i < k → gi a i = - gi b i) → (k = a.length ∨ k = b.length ∨ gi a k ≠ - gi b k) → canc a b = k := by
  intro k
  induction k with
  | zero =>
    intro a b _ _ _ h
    cases a with
    | nil => rfl
    | cons x a =>
      cases b with
      | nil => rfl
      | cons y b =>
        simp [gi_cons_zero] at h
        simp [canc, h]
  | succ k ih =>
    intro a b h1 h2 h3 h4
    cases a with
    | nil => simp at h1
    | cons x a =>
      cases b with
      | nil => simp at h2
      | cons y b =>
        have h0 := h3 0 (by omega)
        rw [gi_cons_zero, gi_cons_zero] at h0
        simp only [canc, h0, if_true]
        have := ih a b (by simpa using h1) (by simpa using h2) (fun i hi => by have := h3 (i + 1) (by omega); rwa [gi_cons_succ, gi_cons_succ] at this)
          (by simpa [gi_cons_succ] using h4)
        rw [this]
theorem canc_le : ∀ (a b : List Int), canc a b ≤ a.length ∧ canc a b ≤ b.length := by
  intro a
  induction a with
  | nil => intro b; simp [canc]
  | cons x a ih =>
    intro b
    cases b with
    | nil => simp [canc]
    | cons y b => have := ih b; simp only [canc]; split <;> simp <;> omega
/-- One list behind the other, what meets and cancels taken away. -/
def prodL (a b : List Int) : List Int := a.take (a.length - canc a.reverse b) ++ b.drop (canc a.reverse b)

theorem prodL_len (a b : List Int) : (prodL a b).length ≤ a.length + b.length := by unfold prodL; simp; omega
theorem prodL_mem (P : Int → Prop) {a b : List Int} (ha : ∀ i, i < a.length → P (gi a i)) (hb : ∀ i, i < b.length → P (gi b i)) : ∀ i, i < (prodL a b).length → P (gi (prodL a b) i) := by
  intro i hi
  have h := canc_le a.reverse b
  simp at h
  unfold prodL at hi ⊢
  by_cases e : i < a.length - canc a.reverse b
  · rw [gi_append_left (by simp; omega), gi_take e]; exact ha i (by omega)
  · rw [gi_append_right (by simp; omega), gi_drop]; simp at hi ⊢; exact hb _ (by omega)

theorem product_calls (v v' : Value) (c c' : Nat) (xs ys : List Int) (w : World) (h : IS .i64 w v c xs) (h' : IS .i64 w v' c' ys) (hv : NN v) (hv' : NN v') (hl : xs.length ≤ 1000000) (hl' : ys.length ≤ 1000000)
    (hb' : ∀ i, i < ys.length → -100 ≤ gi ys i ∧ gi ys i ≤ 100) :
    Calls Tryd.prog 41 #[v, v'] w (RetN .i64 w (prodL xs ys)) := by
  obtain ⟨h1, h2, b, o, rfl, hc⟩ := h.nn hv
  obtain ⟨h1', h2', b', o', rfl, hc'⟩ := h'.nn hv'
  have HI := Lib.hid h; have HI' := Lib.hid h'
  have hend : ∀ k, k ≤ xs.length → k ≤ ys.length → (∀ i, i < k → gi xs (xs.length - 1 - i) = - gi ys i) → (k = xs.length ∨ k = ys.length ∨ gi xs (xs.length - 1 - k) ≠ - gi ys k) → prodL xs ys = xs.take (xs.length - k) ++ ys.drop k := by
    intro k a b c d
    have : canc xs.reverse ys = k := canc_eq k _ _ (by simpa using a) b (fun i hi => by rw [gi_reverse (by omega)]; exact c i hi) (by
      by_cases e : k < xs.length
      · rw [gi_reverse e]; simpa using d
      · left; simp; omega)
    unfold prodL; rw [this]
  obtain ⟨N, hN⟩ : ∃ N, N = xs.length := ⟨_, rfl⟩
  obtain ⟨M, hM⟩ : ∃ M, M = ys.length := ⟨_, rfl⟩
  rw [← hN] at hc h1 hl hend HI ⊢
  rw [← hM] at hc' h1' hl' hend hb' HI' ⊢
  clear h h' hv hv'
  have HN := Lib.hid hN; have HM := Lib.hid hM
  have Hend := Lib.hid hend; have Hb' := Lib.hid hb'; have Hc := Lib.hid hc; have Hc' := Lib.hid hc'
  clear hend hb' hN hM hc hc'
  unfold maxLen at h2 h2'
  go_enter Tryd.func41, Tryd.ntmps41
  go_wp2
  go_loopw [5] (fun i wr => ∃ k m : Nat, k ≤ N ∧ k ≤ M ∧ i = .int .i64 k ∧ wr = w.drewN m ∧ Hid (∀ i, i < k → gi xs (N - 1 - i) = - gi ys i)) (fun i _ => N - (intOf i).toNat)
  case atStart => exact ⟨0, 0, Nat.zero_le _, Nat.zero_le _, rfl, rfl, fun i h => by omega⟩
  case round =>
    obtain ⟨k, m, hk, hk', rfl, rfl, Hs⟩ := hrel
    have f1 : (0 : Int) ≤ (N : Int) - (k : Int) := by omega
    have f2 : (N : Int) - (k : Int) ≤ c := by omega
    have f3 : (k : Int) ≤ M := by omega
    have f4 : (0 : Int) ≤ (k : Int) := by omega
    have f5 : ((N : Int) - (k : Int)).toNat = N - k := by omega
    by_cases hlt : k < N
    · have hd1 : decide ((k : Int) < N) = true := by simp; omega
      by_cases hlt' : k < M
      · have hd2 : decide ((k : Int) < M) = true := by simp; omega
        have hck := Hc.out (N - 1 - k) (by omega)
        have hck' := Hc'.out k hlt'
        obtain ⟨g1, g2⟩ := Hb'.out k hlt'
        have e1 : (0 : Int) ≤ (N : Int) - 1 - (k : Int) := by omega
        have e2 : (N : Int) - 1 - (k : Int) < N := by omega
        have e3 : IntKind.i64.wrap ((N : Int) - 1) = (N : Int) - 1 := IntWalk.i64_in _ ⟨by omega, by omega⟩
        have e4 : IntKind.i64.wrap ((N : Int) - 1 - (k : Int)) = (N : Int) - 1 - (k : Int) := IntWalk.i64_in _ ⟨by omega, by omega⟩
        have e5 : ((N : Int) - 1 - (k : Int)).toNat = N - 1 - k := by omega
        have e6 : (k : Int) < M := by omega
        have e7 : IntKind.i64.wrap (-gi ys k) = -gi ys k := IntWalk.i64_in _ ⟨by omega, by omega⟩
        by_cases he : gi xs (N - 1 - k) = - gi ys k
        · have he' : (gi xs (N - 1 - k) == - gi ys k) = true := by simp [he]
          have He := Lib.hid he; clear he
          clear f1 f2 f3 f4 f5
          go_wp2
          go_quiet (fail)
          clear e3 e4 e5 e7
          go_wp2
          go_roundw
          case rel => exact ⟨k + 1, _, by omega, by omega, by go_num, rfl, fun i hi => by
            by_cases e : i = k
            · subst e; exact He.out
            · exact Hs.out i (by omega)⟩
          case measure => simp [intOf]; omega
        · have he' : (gi xs (N - 1 - k) == - gi ys k) = false := by simp [he]
          have He := Lib.hid (Hend.out k hk hk' Hs.out (.inr (.inr he))); clear he
          go_wp2
          go_quiet (fail)
          clear e3 e4 e5 e7
          go_wp2
          go_still_tail 7, (by kernel_rfl)
          change wpList _ _ _ _ _ ((w.drewN _).drew)
          obtain ⟨w2, hw2⟩ : ∃ w2, w2 = ((w.drewN (m + nq)).drew) := ⟨_, rfl⟩
          have hx2 : Ext w w2 := by rw [hw2]; exact ((Ext.refl w).drewN _).drew
          rw [← hw2]
          clear hw2
          have hlen : ((xs.take (N - k)).map (Value.int .i64)).length = N - k := by simp; rw [← HN.out]; omega
          refine app_full weiInt rfl _ _ rfl _ _ (N - k) rfl ((cut_lo HI.out (N - k) (by omega)).ext hx2) hlen _ _ _ rfl ((cut_hi HI'.out k (by omega)).ext hx2) (onesI _) ?_ ?_ ?_
          · have := HM.out; simp; omega
          · have := HM.out; simp; omega
          clear hlen f1 f2 f3 f4 f5
          intro v2 c2 w3 hv2 hnn hx3
          rw [← List.map_append, ← He.out] at hv2
          have Hv2 := Lib.hid hv2; have Hnn := Lib.hid (hnn ⟨_, _, _, _, rfl⟩); clear hv2 hnn
          go_wp2
          all_goals
            go_ret
            exact RetN.mk Hv2.out Hnn.out (hx2.trans hx3)
      · have hd2 : decide ((k : Int) < M) = false := by simp; omega
        have He := Lib.hid (Hend.out k hk hk' Hs.out (.inr (.inl (by omega))))
        go_wp2
        go_quiet (fail)
        go_wp2
        go_still_tail 7, (by kernel_rfl)
        change wpList _ _ _ _ _ ((w.drewN _).drew)
        obtain ⟨w2, hw2⟩ : ∃ w2, w2 = ((w.drewN (m + nq)).drew) := ⟨_, rfl⟩
        have hx2 : Ext w w2 := by rw [hw2]; exact ((Ext.refl w).drewN _).drew
        rw [← hw2]
        clear hw2
        have hlen : ((xs.take (N - k)).map (Value.int .i64)).length = N - k := by simp; rw [← HN.out]; omega
        refine app_full weiInt rfl _ _ rfl _ _ (N - k) rfl ((cut_lo HI.out (N - k) (by omega)).ext hx2) hlen _ _ _ rfl ((cut_hi HI'.out k (by omega)).ext hx2) (onesI _) ?_ ?_ ?_
        · have := HM.out; simp; omega
        · have := HM.out; simp; omega
        clear hlen f1 f2 f3 f4 f5
        intro v2 c2 w3 hv2 hnn hx3
        rw [← List.map_append, ← He.out] at hv2
        have Hv2 := Lib.hid hv2; have Hnn := Lib.hid (hnn ⟨_, _, _, _, rfl⟩); clear hv2 hnn
        go_wp2
        all_goals
          go_ret
          exact RetN.mk Hv2.out Hnn.out (hx2.trans hx3)
    · have hd1 : decide ((k : Int) < N) = false := by simp; omega
      have He := Lib.hid (Hend.out k hk hk' Hs.out (.inl (by omega)))
      go_wp2
      go_quiet (fail)
      go_wp2
      go_still_tail 7, (by kernel_rfl)
      change wpList _ _ _ _ _ ((w.drewN _).drew)
      obtain ⟨w2, hw2⟩ : ∃ w2, w2 = ((w.drewN (m + nq)).drew) := ⟨_, rfl⟩
      have hx2 : Ext w w2 := by rw [hw2]; exact ((Ext.refl w).drewN _).drew
      rw [← hw2]
      clear hw2
      have hlen : ((xs.take (N - k)).map (Value.int .i64)).length = N - k := by simp; rw [← HN.out]; omega
      refine app_full weiInt rfl _ _ rfl _ _ (N - k) rfl ((cut_lo HI.out (N - k) (by omega)).ext hx2) hlen _ _ _ rfl ((cut_hi HI'.out k (by omega)).ext hx2) (onesI _) ?_ ?_ ?_
      · have := HM.out; simp; omega
      · have := HM.out; simp; omega
      clear hlen f1 f2 f3 f4 f5
      intro v2 c2 w3 hv2 hnn hx3
      rw [← List.map_append, ← He.out] at hv2
      have Hv2 := Lib.hid hv2; have Hnn := Lib.hid (hnn ⟨_, _, _, _, rfl⟩); clear hv2 hnn
      go_wp2
      all_goals
        go_ret
        exact RetN.mk Hv2.out Hnn.out (hx2.trans hx3)
end Go.Proofs.YtigffblelngpjaaDoor
/- Contract of Act's closure: what one letter makes of the images. -/
namespace Go.Proofs.YtigffblelngpjaaDoor
set_option linter.unusedVariables false
set_option linter.unusedSimpArgs false
set_option maxRecDepth 8000
open Go Go.RowKit

/-- The images in memory: the outer row at block B, the variable that holds it at block B + 1. -/
structure Img (w : World) (B n : Nat) (vs : Nat → Value) (rows : List (List Int)) : Prop where
  len : rows.length = n
  var : w.heap[B + 1]? = some (.cells #[.slice (some ⟨B, 0, none⟩) n n] 40 (0, 0))
  outer : w.rowIs B 34 n vs
  rows : ∀ i, i < n → ∃ c, IS .i64 w (vs i) c (ri rows i) ∧ NN (vs i)

/-- A row of slices is no row of numbers: a store into it leaves what the numbers read as. -/
theorem IS.setSlice {k : IntKind} {w : World} {v : Value} {c : Nat} {xs : List Int} (h : IS k w v c xs) {B : Nat} {t : TypeId} {n : Nat} {vs : Nat → Value} (hr : w.rowIs B t n vs) (hs : ∀ i, i < n → ∃ a m c, vs i = .slice a m c) (i : Nat) (u : Value) :
    IS k (w.setCell ⟨B, i, none⟩ u) v c xs := by
  obtain ⟨ao, hv, h1, h2, h3, h4⟩ := h
  refine ⟨ao, hv, h1, h2, h3, fun a ha => ⟨(h4 a ha).1, fun j x hj => ?_⟩⟩
  have hc := (h4 a ha).2 j x hj
  by_cases hb : a.block = B
  · exfalso
    rw [hb] at hc
    obtain ⟨cur, hcur, hn, hf⟩ := hr
    rw [List.getElem?_map] at hj
    obtain ⟨y, _, rfl⟩ := Option.map_eq_some_iff.1 hj
    simp only [World.cell?, hcur] at hc
    by_cases ho : a.off + j < n
    · obtain ⟨q, m, d, hq⟩ := hs _ ho
      rw [hf _ ho, hq] at hc
      simp at hc
    · have hc' : cur[a.off + j]? = some (Value.int k y) := by simpa using hc
      rw [Array.getElem?_eq_none (by omega)] at hc'
      cases hc'
  · rw [← hc]
    exact World.cell?_of_block (w := w) (Below.heap_setCell _ _ _ _ (by simpa using hb))

theorem Img.slices {w : World} {B n : Nat} {vs : Nat → Value} {rows : List (List Int)} (h : Img w B n vs rows) : ∀ i, i < n → ∃ a m c, vs i = .slice a m c := by
  intro i hi
  obtain ⟨c, ⟨ao, hv, _⟩, _⟩ := h.rows i hi
  exact ⟨_, _, _, hv⟩
theorem Img.ext {w w' : World} {B n : Nat} {vs : Nat → Value} {rows : List (List Int)} (h : Img w B n vs rows) (e : Ext w w') : Img w' B n vs rows :=
  ⟨h.len, e.block h.var, e.row h.outer, fun i hi => let ⟨c, h1, h2⟩ := h.rows i hi; ⟨c, h1.ext e, h2⟩⟩
/-- One image is put in. -/
theorem Img.put {w : World} {B n : Nat} {vs : Nat → Value} {rows : List (List Int)} (h : Img w B n vs rows) {i : Nat} (hi : i < n) {u : Value} {c : Nat} {xs : List Int} (hu : IS .i64 w u c xs) (hn : NN u) :
    Img (w.setCell ⟨B, i, none⟩ u) B n (fun j => if j = i then u else vs j) (rows.set i xs) := by
  refine ⟨by simpa using h.len, ?_, h.outer.set i u, fun j hj => ?_⟩
  · rw [Below.heap_setCell _ _ _ _ (by simp)]; exact h.var
  · rw [ri_set _ _ _ _ (by rw [h.len]; exact hi)]
    by_cases e : j = i
    · simp only [e, if_true]; exact ⟨c, hu.setSlice h.outer h.slices i u, hn⟩
    · simp only [e, if_false]
      obtain ⟨c', h1, h2⟩ := h.rows j hj
      exact ⟨c', h1.setSlice h.outer h.slices i u, h2⟩

/-- Letters from -100 to 100, not too many. -/
def Okr (m : Nat) (xs : List Int) : Prop := xs.length ≤ m ∧ ∀ i, i < xs.length → -100 ≤ gi xs i ∧ gi xs i ≤ 100

theorem okr_prod {m m' : Nat} {a b : List Int} (ha : Okr m a) (hb : Okr m' b) : Okr (m + m') (prodL a b) :=
  ⟨by have := prodL_len a b; have := ha.1; have := hb.1; omega, prodL_mem (fun x => -100 ≤ x ∧ x ≤ 100) ha.2 hb.2⟩
def winvL (a : List Int) : List Int := a.reverse.map (fun x => -x)
theorem okr_inv {m : Nat} {a : List Int} (ha : Okr m a) : Okr m (winvL a) := by
  refine ⟨by unfold winvL; simpa using ha.1, fun i hi => ?_⟩
  have hi' : i < a.length := by unfold winvL at hi; simpa using hi
  unfold winvL
  rw [negs_gi hi']
  have := ha.2 (a.length - 1 - i) (by omega)
  omega

/-- What a letter makes of the images. -/
def letterRows (rows : List (List Int)) (k : Int) : List (List Int) :=
  if 0 < k then
    let i := (k - 1).toNat
    (rows.set i (prodL (prodL (ri rows i) (ri rows (i + 1))) (winvL (ri rows i)))).set (i + 1) (ri rows i)
  else
    let i := (-k - 1).toNat
    (rows.set i (ri rows (i + 1))).set (i + 1) (prodL (prodL (winvL (ri rows (i + 1))) (ri rows i)) (ri rows (i + 1)))
/-- .. and the length of the one that may have grown. -/
def letterLen (rows : List (List Int)) (k : Int) : Nat :=
  if 0 < k then (ri (letterRows rows k) (k - 1).toNat).length else (ri (letterRows rows k) (-k).toNat).length

/-- What the closure hands back: a length; the images behind it. -/
def RetA (B n : Nat) (w : World) (rows : List (List Int)) (m : Nat) (e : Ending) (w' : World) : Prop := e = .returned (.int .i64 (m : Int)) ∧ (∃ vs, Img w' B n vs rows) ∧ Below B w w'

theorem Act1_pos (i B n : Nat) (vs : Nat → Value) (rows : List (List Int)) (w : World) (h : Img w B n vs rows) (hi : i + 1 < n) (hn : n ≤ 8) (hb : ∀ j, j < n → Okr 262144 (ri rows j)) :
    Calls Tryd.prog 40 #[.int .i64 ((i : Int) + 1), .pointer (some ⟨B + 1, 0, none⟩)] w (RetA B n w ((rows.set i (prodL (prodL (ri rows i) (ri rows (i + 1))) (winvL (ri rows i)))).set (i + 1) (ri rows i)) (prodL (prodL (ri rows i) (ri rows (i + 1))) (winvL (ri rows i))).length) := by
  have c0 := cell_of_one h.var
  have c1 := h.outer.cell (i := i) (by omega)
  have c2 := h.outer.cell (i := i + 1) (by omega)
  obtain ⟨ca, ha, na⟩ := h.rows i (by omega)
  obtain ⟨cb, hb', nb⟩ := h.rows (i + 1) (by omega)
  have oa := hb i (by omega)
  have ob := hb (i + 1) (by omega)
  obtain ⟨_, _, ba, fa, hva, _⟩ := ha.nn na
  obtain ⟨_, _, bb, fb, hvb, _⟩ := hb'.nn nb
  obtain ⟨la, hla⟩ : ∃ l, l = (ri rows i).length := ⟨_, rfl⟩
  obtain ⟨lb, hlb⟩ : ∃ l, l = (ri rows (i + 1)).length := ⟨_, rfl⟩
  rw [← hla] at hva
  rw [← hlb] at hvb
  rw [hva] at c1 ha
  rw [hvb] at c2 hb'
  have Hm := Lib.hid h
  have Ha := Lib.hid ha; have Hb := Lib.hid hb'; have Oa := Lib.hid oa; have Ob := Lib.hid ob
  have Hva := Lib.hid hva; have Hvb := Lib.hid hvb
  clear h ha hb' na nb oa ob hb hva hvb hla hlb
  have e0 : (0 : Int) < (i : Int) + 1 := by omega
  have e1 : (i : Int) + 1 < n := by omega
  have e2 : (i : Int) < n := by omega
  have e3 : (0 : Int) ≤ (i : Int) := by omega
  have e4 : (0 : Int) ≤ (i : Int) + 1 := by omega
  have e5 : IntKind.i64.wrap (i : Int) = (i : Int) := IntWalk.i64_in _ ⟨by omega, by omega⟩
  have e6 : ((i : Int) + 1).toNat = i + 1 := by omega
  go_enter Tryd.func40, Tryd.ntmps40
  go_wp2
  go_quiet (fail)
  go_wp2
  go_region_held3 (fun w' => w'.cell? ⟨B + 1, 0, none⟩ = some (.slice (some ⟨B, 0, none⟩) n n)) (first | assumption | go_keep) (first
    | (go_at_call_of 41 ba; refine (product_calls _ _ ca cb _ _ _ (Ha.out.ext ((Ext.refl w).drewN _)) (Hb.out.ext ((Ext.refl w).drewN _)) NN.mk NN.mk (by have := Oa.out.1; omega) (by have := Ob.out.1; omega) Ob.out.2).mono ?_; rintro e w1 ⟨b1, f1, l1, d1, rfl, hl1, h1, x1⟩; have X1 := Lib.hid (((Ext.refl w).drewN _).trans x1); have V1 := Lib.hid h1; have s1 : w1.cell? ⟨B + 1, 0, none⟩ = _ := X1.out.cell c0; clear h1 x1 hl1)
    | (go_at_call 42; refine (winverse_calls _ ca _ _ (Ha.out.ext X1.out) (by have := Oa.out.1; omega) (fun j hj => by have := Oa.out.2 j hj; omega)).mono ?_; rintro e w2 ⟨v2, rfl, h1, x1, n1⟩; have X2 := Lib.hid x1; have V2 := Lib.hid h1; have N2 := Lib.hid n1; have s2 : w2.cell? ⟨B + 1, 0, none⟩ = _ := X2.out.cell s1; clear h1 n1 x1)
    | (go_at_call 41; refine (product_calls _ v2 _ _ _ _ _ (V1.out.ext X2.out) V2.out NN.mk N2.out (by have := (okr_prod Oa.out Ob.out).1; omega) (by have := (okr_inv Oa.out).1; unfold winvL at this; omega) (okr_inv Oa.out).2).mono ?_; rintro e w3 ⟨b3, f3, l3, d3, rfl, hl3, h1, x1⟩; have L3 := Lib.hid hl3; have X3 := Lib.hid (X1.out.trans (X2.out.trans x1)); have V3 := Lib.hid h1; have s3 : w3.cell? ⟨B + 1, 0, none⟩ = _ := X3.out.cell c0; have s4 : w3.cell? ⟨B, i, none⟩ = _ := X3.out.cell c1; have s5 : w3.cell? ⟨B, i + 1, none⟩ = _ := X3.out.cell c2; have s6 : w3.frozen? ⟨B, i, none⟩ = false := (X3.out.row Hm.out.outer).frozen _; have s7 : w3.frozen? ⟨B, i + 1, none⟩ = false := (X3.out.row Hm.out.outer).frozen _; clear h1 hl3 x1))
  go_wp2
  go_ret
  refine ⟨ret_int (congrArg (fun m : Nat => (m : Int)) L3.out), ⟨_, ((Hm.out.ext X3.out).put (by omega) V3.out NN.mk).put (by omega) ((Ha.out.ext X3.out).setSlice (X3.out.row Hm.out.outer) Hm.out.slices _ _) NN.mk⟩, ?_⟩
  exact ((X3.out.below (Below.refl B w) (by have := Hm.out.outer.lt; omega)).setCell (p := ⟨B, i, none⟩) (Nat.le_refl _) _).setCell (p := ⟨B, i + 1, none⟩) (Nat.le_refl _) _

theorem Act1_neg (i B n : Nat) (vs : Nat → Value) (rows : List (List Int)) (w : World) (h : Img w B n vs rows) (hi : i + 1 < n) (hn : n ≤ 8) (hb : ∀ j, j < n → Okr 262144 (ri rows j)) :
    Calls Tryd.prog 40 #[.int .i64 (-((i : Int) + 1)), .pointer (some ⟨B + 1, 0, none⟩)] w (RetA B n w ((rows.set i (ri rows (i + 1))).set (i + 1) (prodL (prodL (winvL (ri rows (i + 1))) (ri rows i)) (ri rows (i + 1)))) (prodL (prodL (winvL (ri rows (i + 1))) (ri rows i)) (ri rows (i + 1))).length) := by
  have c0 := cell_of_one h.var
  have c1 := h.outer.cell (i := i) (by omega)
  have c2 := h.outer.cell (i := i + 1) (by omega)
  obtain ⟨ca, ha, na⟩ := h.rows i (by omega)
  obtain ⟨cb, hb', nb⟩ := h.rows (i + 1) (by omega)
  have oa := hb i (by omega)
  have ob := hb (i + 1) (by omega)
  obtain ⟨_, _, ba, fa, hva, _⟩ := ha.nn na
  obtain ⟨_, _, bb, fb, hvb, _⟩ := hb'.nn nb
  obtain ⟨la, hla⟩ : ∃ l, l = (ri rows i).length := ⟨_, rfl⟩
  obtain ⟨lb, hlb⟩ : ∃ l, l = (ri rows (i + 1)).length := ⟨_, rfl⟩
  rw [← hla] at hva
  rw [← hlb] at hvb
  rw [hva] at c1 ha
  rw [hvb] at c2 hb'
  have Hm := Lib.hid h
  have Ha := Lib.hid ha; have Hb := Lib.hid hb'; have Oa := Lib.hid oa; have Ob := Lib.hid ob
  have Hva := Lib.hid hva; have Hvb := Lib.hid hvb
  clear h ha hb' na nb oa ob hb hva hvb hla hlb
  have e0 : (0 : Int) < (i : Int) + 1 := by omega
  have e1 : (i : Int) + 1 < n := by omega
  have e2 : (i : Int) < n := by omega
  have e3 : (0 : Int) ≤ (i : Int) := by omega
  have e4 : (0 : Int) ≤ (i : Int) + 1 := by omega
  have e5 : IntKind.i64.wrap (i : Int) = (i : Int) := IntWalk.i64_in _ ⟨by omega, by omega⟩
  have e6 : ((i : Int) + 1).toNat = i + 1 := by omega
  have e7 : IntKind.i64.wrap ((i : Int) + 1) = (i : Int) + 1 := IntWalk.i64_in _ ⟨by omega, by omega⟩
  go_enter Tryd.func40, Tryd.ntmps40
  go_wp2
  go_quiet (fail)
  go_wp2
  go_region_held3 (fun w' => w'.cell? ⟨B + 1, 0, none⟩ = some (.slice (some ⟨B, 0, none⟩) n n)) (first | assumption | go_keep) (first
    | (go_at_call 42; refine (winverse_calls _ cb _ _ (Hb.out.ext ((Ext.refl w).drewN _)) (by have := Ob.out.1; omega) (fun j hj => by have := Ob.out.2 j hj; omega)).mono ?_; rintro e w1 ⟨v1, rfl, h1, x1, n1⟩; have X1 := Lib.hid (((Ext.refl w).drewN _).trans x1); have V1 := Lib.hid h1; have N1 := Lib.hid n1; have s1 : w1.cell? ⟨B + 1, 0, none⟩ = _ := X1.out.cell c0; clear h1 n1 x1)
    | (go_at_call_of 41 ba; refine (product_calls v1 _ _ ca _ _ _ V1.out (Ha.out.ext X1.out) N1.out NN.mk (by have := (okr_inv Ob.out).1; unfold winvL at this; omega) (by have := Oa.out.1; omega) Oa.out.2).mono ?_; rintro e w2 ⟨b2, f2, l2, d2, rfl, hl2, h1, x1⟩; have X2 := Lib.hid (X1.out.trans x1); have V2 := Lib.hid h1; have s2 : w2.cell? ⟨B + 1, 0, none⟩ = _ := X2.out.cell c0; clear h1 x1 hl2)
    | (go_at_call_of 41 bb; refine (product_calls _ _ _ cb _ _ _ V2.out (Hb.out.ext X2.out) NN.mk NN.mk (by have := (okr_prod (okr_inv Ob.out) Oa.out).1; unfold winvL at this; omega) (by have := Ob.out.1; omega) Ob.out.2).mono ?_; rintro e w3 ⟨b3, f3, l3, d3, rfl, hl3, h1, x1⟩; have L3 := Lib.hid hl3; have X3 := Lib.hid (X2.out.trans x1); have V3 := Lib.hid h1; have s3 : w3.cell? ⟨B + 1, 0, none⟩ = _ := X3.out.cell c0; have s4 : w3.cell? ⟨B, i, none⟩ = _ := X3.out.cell c1; have s5 : w3.cell? ⟨B, i + 1, none⟩ = _ := X3.out.cell c2; have s6 : w3.frozen? ⟨B, i, none⟩ = false := (X3.out.row Hm.out.outer).frozen _; have s7 : w3.frozen? ⟨B, i + 1, none⟩ = false := (X3.out.row Hm.out.outer).frozen _; clear h1 hl3 x1))
  go_wp2
  go_ret
  refine ⟨ret_int (congrArg (fun m : Nat => (m : Int)) L3.out), ⟨_, ((Hm.out.ext X3.out).put (by omega) (Hb.out.ext X3.out) NN.mk).put (by omega) (V3.out.setSlice (X3.out.row Hm.out.outer) Hm.out.slices _ _) NN.mk⟩, ?_⟩
  exact ((X3.out.below (Below.refl B w) (by have := Hm.out.outer.lt; omega)).setCell (p := ⟨B, i, none⟩) (Nat.le_refl _) _).setCell (p := ⟨B, i + 1, none⟩) (Nat.le_refl _) _

end Go.Proofs.YtigffblelngpjaaDoor
/- Contract of Act. -/
namespace Go.Proofs.YtigffblelngpjaaDoor
set_option linter.unusedVariables false
set_option linter.unusedSimpArgs false
set_option maxRecDepth 8000
open Go Go.RowKit

/-! ### the images -/
def start (n : Nat) : List (List Int) := (List.range n).map fun i : Nat => [(i : Int) + 1]
def actRows (n : Nat) (xs : List Int) : List (List Int) := xs.foldl letterRows (start n)
theorem actRows_snoc (n : Nat) (xs : List Int) (k : Int) : actRows n (xs ++ [k]) = letterRows (actRows n xs) k := by unfold actRows; simp
/-- No image is too great on the way. -/
def fits (n : Nat) (xs : List Int) : Prop := ∀ k, k < xs.length → letterLen (actRows n (xs.take k)) (gi xs k) ≤ 262144

theorem letterRows_len (rows : List (List Int)) (k : Int) : (letterRows rows k).length = rows.length := by unfold letterRows; split <;> simp
theorem actRows_len (n : Nat) (xs : List Int) : (actRows n xs).length = n := by
  have : ∀ xs : List Int, ∀ rows, (xs.foldl letterRows rows).length = rows.length := by
    intro xs
    induction xs with
    | nil => intro rows; rfl
    | cons k xs ih => intro rows; simp only [List.foldl_cons]; rw [ih, letterRows_len]
  unfold actRows; rw [this]; unfold start; simp

/-- Where a letter of n strands stands. -/
theorem letter_place {n k : Int} (hb : wbad n k = false) (h1 : 1 ≤ n) : (0 < k ∧ ∃ i : Nat, k = (i : Int) + 1 ∧ (i : Int) + 1 < n) ∨ (k < 0 ∧ ∃ i : Nat, k = -((i : Int) + 1) ∧ (i : Int) + 1 < n) := by
  unfold wbad at hb
  simp only [Bool.or_eq_false_iff, beq_eq_false_iff_ne, decide_eq_false_iff_not] at hb
  obtain ⟨⟨h0, h2⟩, h3⟩ := hb
  by_cases h : 0 < k
  · exact .inl ⟨h, (k - 1).toNat, by omega, by omega⟩
  · exact .inr ⟨by omega, (-k - 1).toNat, by omega, by omega⟩

theorem letterRows_pos (rows : List (List Int)) (i : Nat) : letterRows rows ((i : Int) + 1) = (rows.set i (prodL (prodL (ri rows i) (ri rows (i + 1))) (winvL (ri rows i)))).set (i + 1) (ri rows i) := by
  unfold letterRows
  rw [if_pos (by omega), show ((i : Int) + 1 - 1).toNat = i from by omega]
theorem letterRows_neg (rows : List (List Int)) (i : Nat) : letterRows rows (-((i : Int) + 1)) = (rows.set i (ri rows (i + 1))).set (i + 1) (prodL (prodL (winvL (ri rows (i + 1))) (ri rows i)) (ri rows (i + 1))) := by
  unfold letterRows
  rw [if_neg (by omega), show (-(-((i : Int) + 1)) - 1).toNat = i from by omega]
theorem letterLen_pos (rows : List (List Int)) (i : Nat) (h : i + 1 < rows.length) : letterLen rows ((i : Int) + 1) = (prodL (prodL (ri rows i) (ri rows (i + 1))) (winvL (ri rows i))).length := by
  unfold letterLen
  rw [if_pos (by omega), letterRows_pos, show ((i : Int) + 1 - 1).toNat = i from by omega, ri_set _ _ _ _ (by simpa using h), if_neg (by omega), ri_set _ _ _ _ (by omega), if_pos rfl]
theorem letterLen_neg (rows : List (List Int)) (i : Nat) (h : i + 1 < rows.length) : letterLen rows (-((i : Int) + 1)) = (prodL (prodL (winvL (ri rows (i + 1))) (ri rows i)) (ri rows (i + 1))).length := by
  unfold letterLen
  rw [if_neg (by omega), letterRows_neg, show (-(-((i : Int) + 1))).toNat = i + 1 from by omega, ri_set _ _ _ _ (by simpa using h), if_pos rfl]

/-- Every image stays small and in its letters while the word fits. -/
theorem act_okr {n : Nat} {xs : List Int} (hg : ∀ i, i < xs.length → wbad n (gi xs i) = false) (h1 : 1 ≤ n) (h8 : n ≤ 8) : ∀ k, k ≤ xs.length → (∀ j, j < k → letterLen (actRows n (xs.take j)) (gi xs j) ≤ 262144) → ∀ i, i < n → Okr 262144 (ri (actRows n (xs.take k)) i) := by
  intro k
  induction k with
  | zero =>
    intro _ _ i hi
    simp only [List.take_zero, actRows, List.foldl_nil, start]
    rw [ri_range_map _ hi]
    refine ⟨by simp, fun j hj => ?_⟩
    have : j = 0 := by simpa using hj
    subst this
    rw [gi_cons_zero]; omega
  | succ k ih =>
    intro hk hf i hi
    have ih' := ih (by omega) (fun j hj => hf j (by omega))
    have hlen := actRows_len n (xs.take k)
    have hfk := hf k (by omega)
    rw [take_succ_gi (by omega), actRows_snoc]
    rcases letter_place (hg k (by omega)) (by omega) with ⟨_, q, hq, hqn⟩ | ⟨_, q, hq, hqn⟩
    · rw [hq, letterLen_pos _ _ (by omega)] at hfk
      rw [hq, letterRows_pos, ri_set _ _ _ _ (by rw [List.length_set]; omega)]
      split
      · exact ih' q (by omega)
      · rw [ri_set _ _ _ _ (by omega)]
        split
        · exact ⟨hfk, (okr_prod (okr_prod (ih' q (by omega)) (ih' (q + 1) (by omega))) (okr_inv (ih' q (by omega)))).2⟩
        · exact ih' i hi
    · rw [hq, letterLen_neg _ _ (by omega)] at hfk
      rw [hq, letterRows_neg, ri_set _ _ _ _ (by rw [List.length_set]; omega)]
      split
      · exact ⟨hfk, (okr_prod (okr_prod (okr_inv (ih' (q + 1) (by omega))) (ih' q (by omega))) (ih' (q + 1) (by omega))).2⟩
      · rw [ri_set _ _ _ _ (by omega)]
        split
        · exact ih' (q + 1) (by omega)
        · exact ih' i hi

/-- The closure at any letter. -/
theorem Act1_calls (k : Int) (B n : Nat) (vs : Nat → Value) (rows : List (List Int)) (w : World) (h : Img w B n vs rows) (hk : wbad n k = false) (h1 : 1 ≤ n) (hn : n ≤ 8) (hb : ∀ j, j < n → Okr 262144 (ri rows j)) :
    Calls Tryd.prog 40 #[.int .i64 k, .pointer (some ⟨B + 1, 0, none⟩)] w (RetA B n w (letterRows rows k) (letterLen rows k)) := by
  rcases letter_place hk (by omega) with ⟨_, q, rfl, hqn⟩ | ⟨_, q, rfl, hqn⟩
  · rw [letterRows_pos, letterLen_pos _ _ (by rw [h.len]; omega)]
    exact Act1_pos q B n vs rows w h (by omega) hn hb
  · rw [letterRows_neg, letterLen_neg _ _ (by rw [h.len]; omega)]
    exact Act1_neg q B n vs rows w h (by omega) hn hb

theorem Act_bad (n : Int) (v : Value) (c : Nat) (xs : List Int) (w : World) (h : IS .i64 w v c xs) (hw : wcheck n xs ≠ 0) :
    Calls Tryd.prog 15 #[.int .i64 n, v] w (RetXE .i64 w 0 [] (wcheck n xs)) := by
  have hne : (wcheck n xs != 0) = true := by simpa using hw
  go_enter Tryd.func15, Tryd.ntmps15
  go_wp2_with fail
  refine (Check_calls _ _ _ _ _ h).mono ?_
  rintro e w1 ⟨rfl, rfl⟩
  go_wp2
  go_ret2
  exact ⟨_, rfl, ISX.nil _ _, Ext.refl _⟩

end Go.Proofs.YtigffblelngpjaaDoor
/- Contract of Act: the walk. -/
namespace Go.Proofs.YtigffblelngpjaaDoor
set_option linter.unusedVariables false
set_option linter.unusedSimpArgs false
set_option maxRecDepth 8000
open Go Go.RowKit

theorem set_ri {rows : List (List Int)} {k : Nat} (h : k < rows.length) : rows.set k (ri rows k) = rows := by
  apply ri_ext (by simp)
  intro i hi
  rw [ri_set _ _ _ _ h]
  split
  · rename_i e; rw [e]
  · rfl

theorem one_cell (x : Value) : ∀ i, i < (#[x] : Array Value).size → (#[x] : Array Value)[i]? = some x := by
  intro j hj
  have : j = 0 := by simpa using hj
  subst this; rfl

/-- While the first images are made. -/
structure Half1 (w0 wr : World) (n k : Nat) : Prop where
  ext : Below w0.heap.size w0 wr
  size : wr.heap.size = w0.heap.size + 2 + k
  var : wr.heap[w0.heap.size + 1]? = some (.cells #[.slice (some ⟨w0.heap.size, 0, none⟩) n n] 40 (0, 0))
  outer : ∃ f, wr.rowIs w0.heap.size 34 n f ∧ ∀ i, i < k → f i = .slice (some ⟨w0.heap.size + 2 + i, 0, none⟩) 1 1
  rows : ∀ i, i < k → wr.rowIs (w0.heap.size + 2 + i) 3 1 (fun _ => .int .i64 ((i : Int) + 1))

theorem Half1.next {w0 wr : World} {n k : Nat} (h : Half1 w0 wr n k) (hk : k < n) : Half1 w0 ((wr.alloc (.cells #[.int .i64 ((k : Int) + 1)] 3)).setCell ⟨w0.heap.size, k, none⟩ (.slice (some ⟨wr.heap.size, 0, none⟩) 1 1)) n (k + 1) := by
  obtain ⟨f, hf, hf2⟩ := h.outer
  have hs := h.size
  refine ⟨(h.ext.alloc h.ext.size _).setCell (Nat.le_refl _) _, ?_, ?_, ⟨_, (hf.alloc _).set k _, fun i hi => ?_⟩, fun i hi => ?_⟩
  · show ((wr.alloc _).setCell _ _).heap.size = _
    rw [World.size_setCell, World.size_alloc, hs]; omega
  · show ((wr.alloc _).setCell _ _).heap[_]? = _
    rw [Below.heap_setCell _ _ _ _ (by simp), Below.heap_alloc _ _ _ (by omega)]; exact h.var
  · by_cases e : i = k
    · subst e; rw [if_pos rfl, hs]
    · rw [if_neg e]; exact hf2 i (by omega)
  · by_cases e : i = k
    · subst e
      have := World.rowIs_alloc wr #[.int .i64 ((i : Int) + 1)] 3 (fun _ => .int .i64 ((i : Int) + 1)) (one_cell _)
      rw [hs] at this
      exact this.setOther (by simp; omega) _
    · exact ((h.rows i (by omega)).alloc _).setOther (by simp; omega) _

theorem Half1.img {w0 wr : World} {n : Nat} (h : Half1 w0 wr n n) : Img wr w0.heap.size n (fun i => .slice (some ⟨w0.heap.size + 2 + i, 0, none⟩) 1 1) (start n) := by
  obtain ⟨f, hf, hf2⟩ := h.outer
  refine ⟨by unfold start; simp, h.var, hf.congr hf2, fun i hi => ⟨1, ?_, NN.mk⟩⟩
  have hr : ri (start n) i = [(i : Int) + 1] := by unfold start; rw [ri_range_map _ hi]
  rw [hr]
  exact IS.of_row (h.rows i hi) (by simp) (by unfold maxLen; omega) fun j hj => by
    have : j = 0 := by omega
    subst this; rw [gi_cons_zero]

theorem Act_calls (n : Nat) (v : Value) (c : Nat) (xs : List Int) (w : World) (h : IS .i64 w v c xs) (hw : wcheck n xs = 0) (hfit : fits n xs) :
    Calls Tryd.prog 15 #[.int .i64 n, v] w (RetXE .i64 w n (actRows n xs) 0) := by
  have hcall := Check_calls n v c xs w h
  have hz := wcheck_zero hw
  rw [hw] at hcall
  have Hcall := Lib.hid hcall; clear hcall
  obtain ⟨z1, z2, z3, z4⟩ := hz
  have hokr := fun k hk => act_okr z4 (by omega) (by omega) k hk (fun j hj => hfit j (by omega))
  have hIS := fun w' e => IS.ext (w' := w') h e
  obtain ⟨R, hR⟩ : ∃ R : Nat → List (List Int), R = fun k => actRows n (xs.take k) := ⟨_, rfl⟩
  have hR0 : R 0 = start n := by rw [hR]; simp [actRows]
  have hRs : ∀ k, k < xs.length → R (k + 1) = letterRows (R k) (gi xs k) := by rw [hR]; intro k hk; simp only []; rw [take_succ_gi hk, actRows_snoc]
  have hRN : R xs.length = actRows n xs := by rw [hR]; simp
  have hRl : ∀ k, (R k).length = n := by rw [hR]; intro k; exact actRows_len _ _
  have hokr' : ∀ k, k ≤ xs.length → ∀ i, i < n → Okr 262144 (ri (R k) i) := by rw [hR]; exact hokr
  have hfit' : ∀ k, k < xs.length → letterLen (R k) (gi xs k) ≤ 262144 := by rw [hR]; exact hfit
  obtain ⟨h1, h2, ao, rfl, hao⟩ := h.open
  obtain ⟨N, hN⟩ : ∃ N, N = xs.length := ⟨_, rfl⟩
  rw [← hN] at hao h1 z3 z4 hRs hRN hokr' hfit' Hcall ⊢
  clear h hN hokr hfit hw hR hIS
  have Hz4 := Lib.hid z4; have HR0 := Lib.hid hR0; have HRs := Lib.hid hRs; have HRN := Lib.hid hRN; have HRl := Lib.hid hRl; have Hok := Lib.hid hokr'; have Hfit := Lib.hid hfit'
  clear z4 hR0 hRs hRN hRl hokr' hfit'
  unfold maxLen at h2
  have hmk1 := run_make_row' (P := Tryd.prog) 40 34 (.slice none 0 0) 24 Tryd.underlying40 (by kernel_rfl) rfl .i64 .i64 n (by omega) (by omega)
  go_enter Tryd.func15, Tryd.ntmps15
  go_wp2_with fail
  refine Hcall.out.mono ?_
  rintro e w1 ⟨rfl, rfl⟩
  go_wp2
  go_loopw [8, 24] (fun _ i wr => ∃ k : Nat, k ≤ n ∧ i = .int .i64 k ∧ Half1 w wr n k) (fun _ i _ => n - (intOf i).toNat)
  case atStart =>
    refine ⟨0, Nat.zero_le _, rfl, ((Below.refl _ _).alloc (Nat.le_refl _) _).alloc (by simp) _, by simp, ?_, ⟨_, (World.rowIs_made _ _ _ _).alloc _, fun i hi => by omega⟩, fun i hi => by omega⟩
    have := Deep.blk_alloc_new (w.alloc (Obj.cells (madeCells #[Value.slice none 0 0] n) 34)) (Obj.cells #[Value.slice (some { block := w.heap.size, off := 0 }) n n] 40)
    simpa using this
  case round =>
    obtain ⟨k, hk, rfl, hh⟩ := hrel
    by_cases hlt : k < n
    · have hc0 := cell_of_one hh.var
      obtain ⟨f, hrow, _⟩ := hh.outer
      have hc1 := hrow.cell (i := k) hlt
      have hf1 := hrow.frozen k
      have hc0' : ∀ o, (wr.alloc o).cell? ⟨w.heap.size + 1, 0, none⟩ = some (.slice (some ⟨w.heap.size, 0, none⟩) n n) := cell_alloc hc0
      have hc1' : ∀ o, (wr.alloc o).cell? ⟨w.heap.size, k, none⟩ = some (f k) := cell_alloc hc1
      have hf1' : ∀ o, (wr.alloc o).frozen? ⟨w.heap.size, k, none⟩ = false := fun o => (hrow.alloc o).frozen k
      have Hh := Lib.hid hh
      clear hh hrow
      go_wp2
      go_roundw
      case rel => exact ⟨k + 1, by omega, by go_num, Hh.out.next hlt⟩
      case measure => simp [intOf]; omega
    · have hkn : k = n := by omega
      rw [hkn] at hh
      have Hh := Lib.hid hh
      clear hh hkn
      obtain ⟨wo, rfl⟩ : ∃ wo : World, wo = wr := ⟨_, rfl⟩
      have Him := Lib.hid (show ∃ vs, Img wo w.heap.size n vs (R 0) from ⟨_, by rw [HR0.out]; exact Hh.out.img⟩)
      go_wp2
      go_loopw [11, 37] (fun _ i wr => ∃ k : Nat, k ≤ N ∧ i = .int .i64 k ∧ Below w.heap.size w wr ∧ Hid (∃ vs, Img wr w.heap.size n vs (R k))) (fun _ i _ => N - (intOf i).toNat)
      case atStart => exact ⟨0, Nat.zero_le _, rfl, Hh.out.ext, Him⟩
      case round =>
        obtain ⟨k, hk, rfl, hbel, Himg⟩ := hrel
        by_cases hlt : k < N
        · obtain ⟨b, o, rfl, hc⟩ : ∃ b o, ao = some ⟨b, o, none⟩ ∧ ∀ i, i < N → w.cell? ⟨b, o + i, none⟩ = some (.int .i64 (gi xs i)) := by
            rcases hao with ⟨_, h0, _⟩ | h
            · omega
            · exact h
          have hck : wr.cell? ⟨b, o + k, none⟩ = some (.int .i64 (gi xs k)) := Ext.cell hbel (hc k hlt)
          clear hc hao
          have HC := Lib.hid (show ∃ vs, Img wr w.heap.size n vs (R k) from Himg.out)
          have hf := Hfit.out k hlt
          obtain ⟨m, hm⟩ : ∃ m, m = letterLen (R k) (gi xs k) := ⟨_, rfl⟩
          rw [← hm] at hf
          have hcall : Calls Tryd.prog 40 #[.int .i64 (gi xs k), .pointer (some ⟨w.heap.size + 1, 0, none⟩)] wr (RetA w.heap.size n wr (R (k + 1)) m) := by
            obtain ⟨vs, hi⟩ := HC.out
            rw [HRs.out k hlt, hm]
            exact Act1_calls (gi xs k) w.heap.size n vs (R k) wr hi (Hz4.out k hlt) (by omega) (by omega) (Hok.out k (by omega))
          have Hcl := Lib.hid hcall
          clear hcall hm
          go_wp2_with fail
          refine Hcl.out.mono ?_
          rintro e w2 ⟨rfl, him, hb2⟩
          have Him2 := Lib.hid him
          clear him
          go_wp2
          go_roundw
          case rel => exact ⟨k + 1, by omega, by go_num, hbel.trans hb2, Him2⟩
          case measure => simp [intOf]; omega
        · have hkn : k = N := by omega
          obtain ⟨vs, him⟩ := Himg.out
          rw [hkn, HRN.out] at him
          have hc0 := cell_of_one him.var
          have Him := Lib.hid him
          clear him hkn
          obtain ⟨wp, rfl⟩ : ∃ wp : World, wp = wr := ⟨_, rfl⟩
          have Hokn := Lib.hid (fun i hi => by have := Hok.out N (Nat.le_refl _) i hi; rw [HRN.out] at this; exact this : ∀ i, i < n → Okr 262144 (ri (actRows n xs) i))
          obtain ⟨rows, hrows⟩ : ∃ rows, rows = actRows n xs := ⟨_, rfl⟩
          rw [← hrows] at Him Hokn
          have Hrows := Lib.hid hrows
          clear hrows Himg
          go_wp2
          go_loopw [12, 13, 48] (fun _ _ i wr => ∃ k : Nat, k ≤ n ∧ i = .int .i64 k ∧ Below w.heap.size w wr ∧ Hid (∃ vs, Img wr w.heap.size n vs rows ∧ ∀ i, i < k → IS .i64 wr (vs i) (ri rows i).length (ri rows i))) (fun _ _ i _ => n - (intOf i).toNat)
          case atStart => exact ⟨0, Nat.zero_le _, rfl, hbel, ⟨vs, Him.out, fun i hi => by omega⟩⟩
          case round =>
            obtain ⟨k, hk, rfl, hbel, Hv⟩ := hrel
            by_cases hlt : k < n
            · obtain ⟨vs, him, hcap⟩ := Hv.out
              obtain ⟨ci, hci, nci⟩ := him.rows k hlt
              have hok := Hokn.out k hlt
              obtain ⟨_, _, bi, fi, hvi, _⟩ := hci.nn nci
              have hc0 := cell_of_one him.var
              have hc1 := him.outer.cell (i := k) hlt
              have hBl : w.heap.size + 1 < wr.heap.size := lt_of_block him.var
              obtain ⟨m, hm⟩ : ∃ m, m = (ri rows k).length := ⟨_, rfl⟩
              have hm2 : m ≤ 262144 := by rw [hm]; exact hok.1
              rw [← hm] at hvi
              rw [hvi] at hc1 hci
              have Hm := Lib.hid hm; have Hci := Lib.hid hci; have Him3 := Lib.hid him; have Hcap := Lib.hid hcap; have Hvi := Lib.hid hvi
              clear him hcap hci nci hok hvi hm Hv
              have e1 : (0 : Int) ≤ (k : Int) := by omega
              have e2 : (k : Int) < n := by omega
              have hmk2 := run_make_cap (P := Tryd.prog) weiInt .i64 .i64 m (by omega) (by omega)
              go_wp2
              go_region_held3 (fun w' => w'.cell? ⟨w.heap.size + 1, 0, none⟩ = some (.slice (some ⟨w.heap.size, 0, none⟩) n n)) (first | assumption | (exact cell_alloc hc0 _) | go_keep) (first
                | (refine step_app_fits weiInt (by rfl) _ _ (by rfl) wr.heap.size wr.heap.size 0 m [] (by rfl) (World.ownsRow.drew (World.ownsRow_made wr (madeCells #[.int .i64 0] m) m (Nat.le_refl _) (by unfold maxLen; omega) (by simp [size_madeCells]))) _ ci ((ri rows k).map (Value.int .i64)) (by rfl) (IS.ext Hci.out (((Ext.refl wr).alloc _).drew)) (onesI (ri rows k)) (by have := Hm.out; simp; omega) (by show _ ≤ (wr.alloc _).heap.size; rw [World.size_alloc]; omega) ?_; intro w4 hown hb4; have Hown := Lib.hid hown; have Hb4 := Lib.hid hb4; clear hown hb4; have x4 : Ext wr w4 := Below.trans (((Ext.refl wr).alloc _).drew) Hb4.out; have X4 := Lib.hid x4; have s1 : w4.cell? ⟨w.heap.size + 1, 0, none⟩ = _ := X4.out.cell hc0; have s2 : w4.cell? ⟨w.heap.size, k, none⟩ = _ := X4.out.cell hc1; have s3 : w4.frozen? ⟨w.heap.size, k, none⟩ = false := (X4.out.row Him3.out.outer).frozen _; clear x4))
              all_goals
                go_wp2
                go_roundw
                case rel =>
                  have hown := Hown.out
                  rw [List.length_map, Nat.zero_add, List.nil_append] at hown
                  obtain ⟨c5, h5⟩ := IS.of_own hown
                  obtain ⟨_, h6, _⟩ := h5.len
                  subst h6
                  have hp := (Him3.out.ext X4.out).put (i := k) hlt h5 NN.mk
                  rw [set_ri (by rw [Him3.out.len]; exact hlt)] at hp
                  refine ⟨k + 1, by omega, by go_num, (Ext.below hbel hbel.size X4.out).setCell (p := ⟨w.heap.size, k, none⟩) (Nat.le_refl _) _, _, hp, fun i hi => ?_⟩
                  by_cases e : i = k
                  · subst e
                    simp only [if_true]
                    have := h5.setSlice (X4.out.row Him3.out.outer) Him3.out.slices i (.slice (some ⟨wr.heap.size, 0, none⟩) (ri rows i).length m)
                    rw [← Hm.out] at this ⊢
                    exact this
                  · simp only [e, if_false]
                    exact ((Hcap.out i (by omega)).ext X4.out).setSlice (X4.out.row Him3.out.outer) Him3.out.slices _ _
                case measure => simp [intOf]; omega
            · obtain ⟨vs, him, hcap⟩ := Hv.out
              have hkn : k = n := by omega
              have hc0 := cell_of_one him.var
              have Him4 := Lib.hid him; have Hcap := Lib.hid hcap
              clear him hcap Hv
              go_wp2
              go_ret2
              rw [← Hrows.out]
              refine ⟨_, rfl, ISX.of_row Him4.out.outer Him4.out.len.symm (by unfold maxLen; omega) fun i hi => Hcap.out i (by omega), hbel⟩

end Go.Proofs.YtigffblelngpjaaDoor
/- Contract of the law's helper all. -/
namespace Go.Proofs.YtigffblelngpjaaDoor
set_option linter.unusedVariables false
set_option linter.unusedSimpArgs false
set_option maxRecDepth 8000
open Go Go.RowKit

def allB (xs ys : List (List Int)) : Bool := decide (xs = ys)
theorem allB_eq (xs : List (List Int)) : allB xs xs = true := by unfold allB; simp
theorem allB_len {xs ys : List (List Int)} (h : xs.length ≠ ys.length) : allB xs ys = false := by
  unfold allB; simp; intro e; exact h (by rw [e])
theorem allB_ne {xs ys : List (List Int)} {i : Nat} (h : sameB (ri xs i) (ri ys i) = false) : allB xs ys = false := by
  unfold allB; simp; intro e; rw [e, sameB_eq] at h; cases h
theorem allB_all {xs ys : List (List Int)} (hl : xs.length = ys.length) (h : ∀ i, i < xs.length → sameB (ri xs i) (ri ys i) = true) : allB xs ys = true := by
  rw [ri_ext hl (fun i hi => by have := h i hi; unfold sameB at this; simpa using this)]; exact allB_eq _

end Go.Proofs.YtigffblelngpjaaDoor
/- The chapter's examples hold: the walk of lives. -/
namespace Go.Proofs.YtigffblelngpjaaDoor
set_option linter.unusedVariables false
set_option linter.unusedSimpArgs false
open Go Go.RowKit

theorem Act_dec {n : Nat} {xs : List Int} (h : ∀ k, k < xs.length → letterLen (actRows n (xs.take k)) (gi xs k) ≤ 262144) : fits n xs := h

theorem sameB_dec {xs ys : List Int} (h : xs = ys) : sameB xs ys = true := by rw [h]; exact sameB_eq _
theorem allB_dec {xs ys : List (List Int)} (h : xs = ys) : allB xs ys = true := by rw [h]; exact allB_eq _
theorem lit1 : (Value.int .i64 1) = Value.int .i64 1 := rfl

end Go.Proofs.YtigffblelngpjaaDoor
