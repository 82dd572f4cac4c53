/- The order of names and of crossings; slices.BinarySearchFunc over crossings. -/
import Derived.Test.YtlhkehfplcclgaaDoorVu
namespace Go.Proofs.YtlhkehfplcclgaaDoor
set_option linter.unusedVariables false
set_option linter.unusedSimpArgs false
set_option maxRecDepth 8000
open Go Go.RowKit

def ltN (a b : Nm) : Prop := a.y < b.y ∨ (a.y = b.y ∧ a.n < b.n)
theorem cmpI_lt {a b : Int} : cmpI a b < 0 ↔ a < b := by unfold cmpI; (repeat' split) <;> omega
theorem cmpI_gt {a b : Int} : 0 < cmpI a b ↔ b < a := by unfold cmpI; (repeat' split) <;> omega
theorem cmpI_eq {a b : Int} : cmpI a b = 0 ↔ a = b := by unfold cmpI; (repeat' split) <;> omega
theorem cmpN_lt {a b : Nm} : cmpN a b < 0 ↔ ltN a b := by
  unfold cmpN orI ltN
  by_cases h : cmpI a.y b.y = 0
  · rw [if_pos h, cmpI_lt]
    have := cmpI_eq.1 h
    omega
  · rw [if_neg h, cmpI_lt]
    have : a.y ≠ b.y := fun e => h (cmpI_eq.2 e)
    omega
theorem cmpN_gt {a b : Nm} : 0 < cmpN a b ↔ ltN b a := by
  unfold cmpN orI ltN
  by_cases h : cmpI a.y b.y = 0
  · rw [if_pos h, cmpI_gt]
    have := cmpI_eq.1 h
    omega
  · rw [if_neg h, cmpI_gt]
    have : a.y ≠ b.y := fun e => h (cmpI_eq.2 e)
    omega
theorem Nm.ext' {a b : Nm} (h : a.y = b.y) (k : a.n = b.n) : a = b := by
  obtain ⟨y, n⟩ := a; obtain ⟨z, m⟩ := b
  dsimp only at h k; subst h; subst k; rfl
theorem cmpN_eq {a b : Nm} : cmpN a b = 0 ↔ a = b := by
  unfold cmpN orI
  by_cases h : cmpI a.y b.y = 0
  · rw [if_pos h, cmpI_eq]
    exact ⟨fun k => Nm.ext' (cmpI_eq.1 h) k, fun k => by rw [k]⟩
  · rw [if_neg h]
    exact ⟨fun k => absurd k h, fun k => absurd (by rw [k]; exact cmpI_eq.2 rfl) h⟩
theorem ltN_trans {a b c : Nm} (h : ltN a b) (k : ltN b c) : ltN a c := by unfold ltN at *; omega
theorem ltN_irr {a : Nm} : ¬ ltN a a := by unfold ltN; omega
theorem ltN_tot (a b : Nm) : ltN a b ∨ a = b ∨ ltN b a := by
  by_cases h : a = b
  · exact .inr (.inl h)
  · have : ¬ (a.y = b.y ∧ a.n = b.n) := fun e => h (Nm.ext' e.1 e.2)
    unfold ltN; omega
def ltX (c d : Xg) : Prop := ltN c.a d.a ∨ (c.a = d.a ∧ ltN c.b d.b)
theorem cmpX_lt {c d : Xg} : cmpX c d < 0 ↔ ltX c d := by
  unfold cmpX orI ltX
  by_cases h : cmpN c.a d.a = 0
  · rw [if_pos h, cmpN_lt]
    have := cmpN_eq.1 h
    rw [this]
    exact ⟨fun k => .inr ⟨rfl, k⟩, fun k => k.elim (fun k => absurd k ltN_irr) fun k => k.2⟩
  · rw [if_neg h, cmpN_lt]
    exact ⟨fun k => .inl k, fun k => k.elim id fun k => absurd (cmpN_eq.2 k.1) h⟩
theorem cmpX_eq {c d : Xg} : cmpX c d = 0 ↔ c.a = d.a ∧ c.b = d.b := by
  unfold cmpX orI
  by_cases h : cmpN c.a d.a = 0
  · rw [if_pos h, cmpN_eq]
    exact ⟨fun k => ⟨cmpN_eq.1 h, k⟩, fun k => k.2⟩
  · rw [if_neg h]
    exact ⟨fun k => absurd k h, fun k => absurd (cmpN_eq.2 k.1) h⟩
theorem ltX_trans {a b c : Xg} (h : ltX a b) (k : ltX b c) : ltX a c := by
  unfold ltX at *
  rcases h with h | ⟨h1, h2⟩
  · rcases k with k | ⟨k1, k2⟩
    · exact .inl (ltN_trans h k)
    · exact .inl (k1 ▸ h)
  · rcases k with k | ⟨k1, k2⟩
    · exact .inl (h1 ▸ k)
    · exact .inr ⟨h1.trans k1, ltN_trans h2 k2⟩
theorem ltX_eqL {a b c : Xg} (h : a.a = b.a ∧ a.b = b.b) (k : ltX b c) : ltX a c := by
  unfold ltX at *; rw [h.1, h.2]; exact k
/-- In strictly ascending order. -/
def SrtX (l : List Xg) : Prop := ∀ i j, i < j → j < l.length → ltX (xi l i) (xi l j)
/-- Before place i all are less, from it on none is. -/
structure At (cr : List Xg) (x : Xg) (i : Nat) : Prop where
  le : i ≤ cr.length
  lo : ∀ j, j < i → cmpX (xi cr j) x < 0
  hi : ∀ j, i ≤ j → j < cr.length → 0 ≤ cmpX (xi cr j) x
def hitB (cr : List Xg) (x : Xg) (i : Nat) : Bool := decide (i < cr.length) && decide (cmpX (xi cr i) x = 0)
def RetBS (w : World) (cr : List Xg) (x : Xg) (en : Ending) (w' : World) : Prop :=
  ∃ i : Nat, en = .returned (.tuple #[.int .i64 i, .bool (hitB cr x i)]) ∧ At cr x i ∧ Ext w w'
set_option maxHeartbeats 4000000 in
theorem BSearch_calls (cv : Value) (cc : Nat) (cr : List Xg) (x : Xg) (w : World) (h : XL w cv cc cr) (hs : SrtX cr) (h9 : cr.length ≤ 100000) :
    Calls Tryd.prog 50 #[cv, x.val, .func (Fn.func 51) #[] #[]] w (RetBS w cr x) := by
  obtain ⟨ao, n, rfl, hn, hnc, hc9, hat⟩ := h.open
  have hlo : ∀ i j, i < j → j < n → cmpX (xi cr j) x < 0 → cmpX (xi cr i) x < 0 := fun i j hij hj hh => cmpX_lt.2 (ltX_trans (hs i j hij (by omega)) (cmpX_lt.1 hh))
  have n9 : n ≤ 100000 := by omega
  obtain ⟨W, hW⟩ : ∃ W, W = w.alloc (.cells #[.int .u8 x.a.y, .int .i64 x.a.n, .int .u8 x.b.y, .int .i64 x.b.n, .int .i64 x.n] 52) := ⟨_, rfl⟩
  have xW : Ext w W := by rw [hW]; exact (Ext.refl _).alloc _
  have HB := Lib.hid (show B5 W w.heap.size x 52 by rw [hW]; exact B5.new w x _)
  have Hat := Lib.hid (fun i (hi : i < n) => (by obtain ⟨b, o, e, ha⟩ := hat i hi; exact ⟨b, o, e, ha.ext xW⟩ : ∃ b o, ao = some ⟨b, o, none⟩ ∧ At5 W b (o + i * 5) (xi cr i)))
  have HLo := Lib.hid hlo; have XW := Lib.hid xW; have HW := Lib.hid hW; have HN := Lib.hid hn
  obtain ⟨C, hC⟩ : ∃ C : Nat → Int, C = fun i => cmpX (xi cr i) x := ⟨_, rfl⟩
  have HC := Lib.hid (show ∀ i, cmpX (xi cr i) x = C i from fun i => by rw [hC])
  have HE := Lib.hid (show ∀ (i : Nat) (w' : World), i ≤ n → (∀ j, j < i → C j < 0) → (∀ j, i ≤ j → j < n → 0 ≤ C j) → Ext w w' → RetBS w cr x (.returned (.tuple #[.int .i64 i, .bool (decide (i < n) && decide (C i = 0))])) w' from fun i w' h1 h2 h3 h4 => ⟨i, by unfold hitB; rw [hC, hn], ⟨by omega, fun j hj => by have := h2 j hj; rw [hC] at this; exact this, fun j h5 h6 => by have := h3 j h5 (by omega); rw [hC] at this; exact this⟩, h4⟩)
  unfold Xg.val
  clear h hs h9 hat hlo xW hW hn hC
  go_enter Tryd.func50, Tryd.ntmps50
  go_wp2
  rw [← HW.out]
  go_loopg [9, 10, 11] n (fun gk si sj _ wr => ∃ i j : Nat, i + gk = j ∧ j ≤ n ∧ si = .int .i64 i ∧ sj = .int .i64 j ∧ Hid (Ext W wr ∧ (∀ k, k < i → C k < 0) ∧ ∀ k, j ≤ k → k < n → 0 ≤ C k))
  case atStart => exact ⟨0, n, by omega, Nat.le_refl _, rfl, rfl, Lib.hid ⟨Ext.refl _, fun k hk => by omega, fun k h1 h2 => by omega⟩⟩
  case round =>
    obtain ⟨i, j, hij, hj, rfl, rfl, G⟩ := hrel
    by_cases hlt : i < j
    · have e1 : (i : Int) < j := by omega
      obtain ⟨h, hh⟩ : ∃ h, h = (i + j) / 2 := ⟨_, rfl⟩
      have t1 : IntKind.i64.wrap ((i : Int) + j) = (i : Int) + j := IntWalk.i64_in _ ⟨by omega, by omega⟩
      have t2 : IntKind.u64.wrap ((i : Int) + j) = (i : Int) + j := IntWalk.u64_in _ ⟨by omega, by omega⟩
      have t3 : ((i : Int) + j) / 2 = (h : Int) := by omega
      have h1 : i ≤ h := by omega
      have h2 : h < j := by omega
      have e2 : (0 : Int) ≤ h := by omega
      have e3 : (h : Int) < n := by omega
      have t4 : IntKind.i64.wrap ((h : Int) + 1) = (h : Int) + 1 := IntWalk.i64_in _ ⟨by omega, by omega⟩
      obtain ⟨b, o, rfl, hA⟩ := Hat.out h (by omega)
      obtain ⟨q0_1, q0_2, q0_3, q0_4, q0_5⟩ := hA.ext G.out.1
      obtain ⟨q0_6, q0_7, q0_8, q0_9, q0_10⟩ := (HB.out.ext G.out.1).at
      simp only [Nat.zero_add] at q0_7 q0_8 q0_9 q0_10
      have HCh := Lib.hid (HC.out h)
      have hCd : C h < 0 ∨ ¬ C h < 0 := by omega
      have HM1 := Lib.hid (show C h < 0 → ∀ k, k < h + 1 → C k < 0 from fun hc k hk => by
        rcases Nat.lt_or_ge k h with h3 | h3
        · have := HLo.out k h h3 (by omega) (by rw [HC.out]; exact hc)
          rwa [HC.out] at this
        · obtain rfl : k = h := by omega
          exact hc)
      have HM2 := Lib.hid (show ¬ C h < 0 → ∀ k, h ≤ k → k < n → 0 ≤ C k from fun hc k hk hkn => by
        rcases Nat.lt_or_ge h k with h3 | h3
        · refine Int.not_lt.1 fun h4 => hc ?_
          have := HLo.out h k h3 hkn (by rw [HC.out]; exact h4)
          rwa [HC.out] at this
        · obtain rfl : k = h := by omega
          exact Int.not_lt.1 hc)
      clear hA hh
      generalize xi cr h = P at *
      go_wp2
      go_region_held3 (fun w' => w'.cell? ⟨b, o + h * 5, Option.none⟩ = some (.int .u8 P.a.y) ∧ w'.cell? ⟨b, o + h * 5 + 1, Option.none⟩ = some (.int .i64 P.a.n) ∧ w'.cell? ⟨b, o + h * 5 + 2, Option.none⟩ = some (.int .u8 P.b.y) ∧ w'.cell? ⟨b, o + h * 5 + 3, Option.none⟩ = some (.int .i64 P.b.n) ∧ w'.cell? ⟨b, o + h * 5 + 4, Option.none⟩ = some (.int .i64 P.n) ∧ w'.cell? ⟨w.heap.size, 0, Option.none⟩ = some (.int .u8 x.a.y) ∧ w'.cell? ⟨w.heap.size, 1, Option.none⟩ = some (.int .i64 x.a.n) ∧ w'.cell? ⟨w.heap.size, 2, Option.none⟩ = some (.int .u8 x.b.y) ∧ w'.cell? ⟨w.heap.size, 3, Option.none⟩ = some (.int .i64 x.b.n) ∧ w'.cell? ⟨w.heap.size, 4, Option.none⟩ = some (.int .i64 x.n)) (first | (with_reducible exact ⟨q0_1, q0_2, q0_3, q0_4, q0_5, q0_6, q0_7, q0_8, q0_9, q0_10⟩) | (with_reducible exact ⟨q1_1, q1_2, q1_3, q1_4, q1_5, q1_6, q1_7, q1_8, q1_9, q1_10⟩) | go_keep) (first
        | (go_at_call 51; (refine (Pairs_calls P x _).mono ?_); intro e w5 hh; obtain ⟨rfl, x⟩ := hh; have Xa : Hid (Ext wr w5) := Lib.hid (Ext.trans (by ((repeat (first | (with_reducible exact Ext.refl _) | (with_reducible apply Ext.drew) | (with_reducible apply Ext.drewN) | (with_reducible apply Ext.alloc))); done)) x); have q1_1 := Xa.out.cell q0_1; have q1_2 := Xa.out.cell q0_2; have q1_3 := Xa.out.cell q0_3; have q1_4 := Xa.out.cell q0_4; have q1_5 := Xa.out.cell q0_5; have q1_6 := Xa.out.cell q0_6; have q1_7 := Xa.out.cell q0_7; have q1_8 := Xa.out.cell q0_8; have q1_9 := Xa.out.cell q0_9; have q1_10 := Xa.out.cell q0_10; clear x))
      rw [HCh.out]
      clear HCh
      clear q0_1 q0_2 q0_3 q0_4 q0_5 q0_6 q0_7 q0_8 q0_9 q0_10
      rcases hCd with hc | hc
      · have HG := Lib.hid (show Ext W w5 ∧ (∀ k, k < h + 1 → C k < 0) ∧ ∀ k, j ≤ k → k < n → 0 ≤ C k from ⟨G.out.1.trans Xa.out, HM1.out hc, G.out.2.2⟩)
        go_wp2
        go_roundg (j - (h + 1))
        case measure => omega
        case rel => exact ⟨h + 1, j, by omega, hj, by go_num, rfl, HG⟩
      · have HG := Lib.hid (show Ext W w5 ∧ (∀ k, k < i → C k < 0) ∧ ∀ k, h ≤ k → k < n → 0 ≤ C k from ⟨G.out.1.trans Xa.out, G.out.2.1, HM2.out hc⟩)
        go_wp2
        go_roundg (h - i)
        case measure => omega
        case rel => exact ⟨i, h, by omega, by omega, rfl, rfl, HG⟩
    · obtain rfl : i = j := by omega
      have e1 : ¬ (i : Int) < i := by omega
      have hE := HE.out i
      by_cases hin : i < n
      · have d1 : (i : Int) < n := by omega
        have d2 : decide ((i : Int) < n) = true := decide_eq_true d1
        have d3 : decide (i < n) = true := decide_eq_true hin
        have e2 : (0 : Int) ≤ i := by omega
        obtain ⟨b, o, rfl, hA⟩ := Hat.out i hin
        obtain ⟨q0_1, q0_2, q0_3, q0_4, q0_5⟩ := hA.ext G.out.1
        obtain ⟨q0_6, q0_7, q0_8, q0_9, q0_10⟩ := (HB.out.ext G.out.1).at
        simp only [Nat.zero_add] at q0_7 q0_8 q0_9 q0_10
        have HCh := Lib.hid (HC.out i)
        have HE2 := Lib.hid hE
        clear hA hE
        generalize xi cr i = P at *
        go_wp2
        go_region_held3 (fun w' => w'.cell? ⟨b, o + i * 5, Option.none⟩ = some (.int .u8 P.a.y) ∧ w'.cell? ⟨b, o + i * 5 + 1, Option.none⟩ = some (.int .i64 P.a.n) ∧ w'.cell? ⟨b, o + i * 5 + 2, Option.none⟩ = some (.int .u8 P.b.y) ∧ w'.cell? ⟨b, o + i * 5 + 3, Option.none⟩ = some (.int .i64 P.b.n) ∧ w'.cell? ⟨b, o + i * 5 + 4, Option.none⟩ = some (.int .i64 P.n) ∧ w'.cell? ⟨w.heap.size, 0, Option.none⟩ = some (.int .u8 x.a.y) ∧ w'.cell? ⟨w.heap.size, 1, Option.none⟩ = some (.int .i64 x.a.n) ∧ w'.cell? ⟨w.heap.size, 2, Option.none⟩ = some (.int .u8 x.b.y) ∧ w'.cell? ⟨w.heap.size, 3, Option.none⟩ = some (.int .i64 x.b.n) ∧ w'.cell? ⟨w.heap.size, 4, Option.none⟩ = some (.int .i64 x.n)) (first | (with_reducible exact ⟨q0_1, q0_2, q0_3, q0_4, q0_5, q0_6, q0_7, q0_8, q0_9, q0_10⟩) | (with_reducible exact ⟨q1_1, q1_2, q1_3, q1_4, q1_5, q1_6, q1_7, q1_8, q1_9, q1_10⟩) | go_keep) (first
          | (go_at_call 51; (refine (Pairs_calls P x _).mono ?_); intro e w5 hh; obtain ⟨rfl, x⟩ := hh; have Xa : Hid (Ext wr w5) := Lib.hid (Ext.trans (by ((repeat (first | (with_reducible exact Ext.refl _) | (with_reducible apply Ext.drew) | (with_reducible apply Ext.drewN) | (with_reducible apply Ext.alloc))); done)) x); have q1_1 := Xa.out.cell q0_1; have q1_2 := Xa.out.cell q0_2; have q1_3 := Xa.out.cell q0_3; have q1_4 := Xa.out.cell q0_4; have q1_5 := Xa.out.cell q0_5; have q1_6 := Xa.out.cell q0_6; have q1_7 := Xa.out.cell q0_7; have q1_8 := Xa.out.cell q0_8; have q1_9 := Xa.out.cell q0_9; have q1_10 := Xa.out.cell q0_10; clear x))
        rw [HCh.out]
        go_wp2
        go_ret2
        have := HE2.out w5 hj G.out.2.1 G.out.2.2 (XW.out.trans (G.out.1.trans Xa.out))
        rw [d3, Bool.true_and] at this
        rw [show decide (C i = 0) = (C i == 0) by rw [Bool.eq_iff_iff]; simp] at this
        exact this
      · have d1 : ¬ (i : Int) < n := by omega
        have d2 : decide ((i : Int) < n) = false := decide_eq_false d1
        have d3 : decide (i < n) = false := decide_eq_false hin
        have HE2 := Lib.hid hE
        clear hE
        go_wp2
        go_quiet (fail)
        go_wp2
        go_ret2
        have := HE2.out _ hj G.out.2.1 G.out.2.2 (XW.out.trans (G.out.1.trans ((Ext.refl wr).drewN nq)))
        rw [d3, Bool.false_and] at this
        exact this
end Go.Proofs.YtlhkehfplcclgaaDoor
