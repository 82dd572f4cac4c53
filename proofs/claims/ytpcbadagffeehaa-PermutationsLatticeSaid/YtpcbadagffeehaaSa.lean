/- Contracts of the law's own functions: crosses, within, same, list. -/
import Derived.Test.YtpcbadagffeehaaPm
import Derived.Test.YtpcbadagffeehaaPo
import Derived.Test.YtpcbadagffeehaaPp
namespace Go.Proofs.Ytpcbadagffeehaa
set_option linter.unusedVariables false
set_option linter.unusedSimpArgs false
open Go Go.RowKit

/-- The cells of a slice, at hand. -/
theorem IS.cellsN {k : IntKind} {w : World} {v : Value} {c : Nat} {xs : List Int} (h : IS k w v c xs) (h0 : 0 < xs.length) :
    ∃ b o, v = .slice (some ⟨b, o, none⟩) xs.length c ∧ ∀ i, i < xs.length → w.cell? ⟨b, o + i, none⟩ = some (.int k (gi xs i)) := by
  obtain ⟨_, _, ao, rfl, hao⟩ := h.open
  rcases hao with ⟨_, hz, _⟩ | ⟨b, o, rfl, hc⟩
  · omega
  · exact ⟨b, o, rfl, hc⟩

def crossesB (xs : List Int) (a b : Nat) : Bool := (decide (a < b) && decide (gi xs b < gi xs a)) || (decide (b < a) && decide (gi xs a < gi xs b))
theorem crossesB_cr {xs : List Int} {a b : Nat} (h : a < b) : crossesB xs a b = crB xs (a + 1) (b + 1) := by
  unfold crossesB crB; simp [h, show ¬ b < a by omega]

set_option maxHeartbeats 2000000 in
theorem crosses_calls (v : Value) (c : Nat) (xs : List Int) (a b : Nat) (w : World) (h : IS .u8 w v c xs) (ha : a < xs.length) (hb : b < xs.length) (h8 : xs.length ≤ 8) :
    Calls Try.prog 15 #[v, .int .i64 (a : Int), .int .i64 (b : Int)] w fun e w' => e = .returned (.bool (crossesB xs a b)) ∧ ∃ m, w' = w.drewN m := by
  obtain ⟨bk, o, rfl, hc⟩ := h.cellsN (by omega)
  have ca := hc a ha
  have cb := hc b hb
  have ha' : (a : Int) < (xs.length : Int) := by omega
  have hb' : (b : Int) < (xs.length : Int) := by omega
  have a0 : (0 : Int) ≤ (a : Int) := by omega
  have b0 : (0 : Int) ≤ (b : Int) := by omega
  have hm : Try.prog.follows .mixedOrders = true := by kernel_rfl
  unfold crossesB
  obtain ⟨x, hx⟩ : ∃ x, x = gi xs a := ⟨_, rfl⟩
  obtain ⟨y, hy⟩ : ∃ x, x = gi xs b := ⟨_, rfl⟩
  rw [← hx] at ca ⊢
  rw [← hy] at cb ⊢
  obtain ⟨N, hN⟩ : ∃ N, N = xs.length := ⟨_, rfl⟩
  rw [← hN] at ha' hb' ⊢
  have HN := Lib.hid hN
  clear hx hy hN hc h ha hb
  rcases Nat.lt_trichotomy a b with l | l | l
  · have l1 : (a : Int) < (b : Int) := by omega
    have l2 : ¬ (b : Int) < (a : Int) := by omega
    have e1 : decide (a < b) = true := decide_eq_true l
    have e2 : decide (b < a) = false := decide_eq_false (by omega)
    rw [e1, e2]
    by_cases g : y < x
    · have gd : decide (y < x) = true := decide_eq_true g
      rw [gd]
      go_enter Try.func15, Try.ntmps15
      go_wp2
      go_quiet (fail)
      go_wp2
      go_ret
      exact ⟨by simp, _, rfl⟩
    · have gd : decide (y < x) = false := decide_eq_false g
      rw [gd]
      go_enter Try.func15, Try.ntmps15
      go_wp2
      go_quiet (fail)
      go_wp2
      go_ret
      exact ⟨by simp, _, rfl⟩
  · subst l
    have l1 : ¬ (a : Int) < (a : Int) := by omega
    have e1 : decide (a < a) = false := decide_eq_false (by omega)
    rw [e1]
    go_enter Try.func15, Try.ntmps15
    go_wp2
    go_quiet (fail)
    go_wp2
    go_ret
    exact ⟨by simp, _, rfl⟩
  · have l1 : (b : Int) < (a : Int) := by omega
    have l2 : ¬ (a : Int) < (b : Int) := by omega
    have e1 : decide (a < b) = false := decide_eq_false (by omega)
    have e2 : decide (b < a) = true := decide_eq_true l
    rw [e1, e2]
    by_cases g : x < y
    · have gd : decide (x < y) = true := decide_eq_true g
      rw [gd]
      go_enter Try.func15, Try.ntmps15
      go_wp2
      go_quiet (fail)
      go_wp2
      go_ret
      exact ⟨by simp, _, rfl⟩
    · have gd : decide (x < y) = false := decide_eq_false g
      rw [gd]
      go_enter Try.func15, Try.ntmps15
      go_wp2
      go_quiet (fail)
      go_wp2
      go_ret
      exact ⟨by simp, _, rfl⟩

/-! ### same -/
theorem bstr_go (xs : List Int) (a : ByteArray) : (xs.foldl (fun r n => r.push (UInt8.ofNat n.toNat)) a).data.toList = a.data.toList ++ xs.map (fun n => UInt8.ofNat n.toNat) := by
  induction xs generalizing a with
  | nil => simp
  | cons x xs ih =>
    rw [List.foldl_cons, ih]
    simp [ByteArray.push]
theorem bstr_data (xs : List Int) : (bstr xs).data.toList = xs.map (fun n => UInt8.ofNat n.toNat) := by
  unfold bstr; rw [bstr_go]; rfl
theorem bstr_inj {xs ys : List Int} (hx : U8L xs) (hy : U8L ys) (h : bstr xs = bstr ys) : xs = ys := by
  have h' : xs.map (fun n => UInt8.ofNat n.toNat) = ys.map (fun n => UInt8.ofNat n.toNat) := by rw [← bstr_data, ← bstr_data, h]
  have hl : xs.length = ys.length := by have := congrArg List.length h'; simpa using this
  refine gi_ext hl fun i hi => ?_
  have e := congrArg (fun l => l[i]?) h'
  simp only [List.getElem?_map] at e
  rw [gi_some hi, gi_some (by omega)] at e
  have b1 := hx i hi
  have b2 := hy i (by omega)
  simp only [Option.map_some, Option.some.injEq] at e
  have := congrArg UInt8.toNat e
  rw [UInt8.toNat_ofNat', UInt8.toNat_ofNat'] at this
  omega
def sameB (xs ys : List Int) (c : Nat) : Bool := decide (xs = ys ∧ c = xs.length)

set_option maxHeartbeats 1000000 in
theorem same_calls (v1 v2 : Value) (c1 c2 : Nat) (xs ys : List Int) (w : World) (h : IS .u8 w v1 c1 xs) (h' : IS .u8 w v2 c2 ys) (hb : U8L xs) (hb' : U8L ys) :
    Calls Try.prog 24 #[v1, v2] w fun e w' => e = .returned (.bool (sameB xs ys c1)) ∧ w = w' := by
  have k1 : (convert 22 9 v1).run Try.prog w = .ok (.string (bstr xs)) w := run_bstr h Try.underlying22 Try.underlying5 Try.underlying9
  have k2 : (convert 22 9 v2).run Try.prog w = .ok (.string (bstr ys)) w := run_bstr h' Try.underlying22 Try.underlying5 Try.underlying9
  obtain ⟨q1, q2, ao, rfl, _⟩ := h.open
  obtain ⟨_, _, bo, rfl, _⟩ := h'.open
  unfold maxLen at q2
  have hq1 : (c1 : Int) ≤ 9223372036854775807 := by omega
  have hr : sameB xs ys c1 = (decide (bstr xs = bstr ys) && decide ((c1 : Int) = (xs.length : Int))) := by
    unfold sameB
    rw [Bool.eq_iff_iff]; simp only [decide_eq_true_eq, Bool.and_eq_true]
    constructor
    · rintro ⟨rfl, e⟩; exact ⟨rfl, by omega⟩
    · rintro ⟨e, e'⟩; exact ⟨bstr_inj hb hb' e, by omega⟩
  obtain ⟨R, hR⟩ : ∃ R, R = sameB xs ys c1 := ⟨_, rfl⟩
  rw [← hR] at hr ⊢
  obtain ⟨s1, hs1⟩ : ∃ s, s = bstr xs := ⟨_, rfl⟩
  obtain ⟨s2, hs2⟩ : ∃ s, s = bstr ys := ⟨_, rfl⟩
  rw [← hs1] at k1 hr
  rw [← hs2] at k2 hr
  obtain ⟨n1, hn1⟩ : ∃ s, s = xs.length := ⟨_, rfl⟩
  obtain ⟨n2, hn2⟩ : ∃ s, s = ys.length := ⟨_, rfl⟩
  rw [← hn1] at k1 hr q1 ⊢
  rw [← hn2] at k2 ⊢
  have HR := Lib.hid hr
  clear hr hR hs1 hs2 hn1 hn2 h h' hb hb'
  by_cases e : s1 = s2
  · have e1 : (s1.toList == s2.toList) = true := str_eq e
    by_cases g : c1 = n1
    · have HG : Hid (R = true) := Lib.hid (by rw [HR.out, decide_eq_true e, decide_eq_true (by omega)]; rfl)
      have g1 : ((c1 : Int) == (n1 : Int)) = true := by simp; omega
      have HE := Lib.hid e; have HG2 := Lib.hid g
      clear e g
      go_enter Try.func24, Try.ntmps24
      go_wp2
      go_ret
      exact ⟨ret_bool HG.out.symm, rfl⟩
    · have HG : Hid (R = false) := Lib.hid (by rw [HR.out, decide_eq_false (show ¬ (c1 : Int) = (n1 : Int) by omega), Bool.and_false])
      have g1 : ((c1 : Int) == (n1 : Int)) = false := by simp; omega
      have HE := Lib.hid e; have HG2 := Lib.hid g
      clear e g
      go_enter Try.func24, Try.ntmps24
      go_wp2
      go_ret
      exact ⟨ret_bool HG.out.symm, rfl⟩
  · have e1 : (s1.toList == s2.toList) = false := str_ne e
    have HG : Hid (R = false) := Lib.hid (by rw [HR.out, decide_eq_false e, Bool.false_and])
    have HE := Lib.hid e
    clear e
    go_enter Try.func24, Try.ntmps24
    go_wp2
    go_ret
    exact ⟨ret_bool HG.out.symm, rfl⟩

/-! ### list -/
set_option maxHeartbeats 2000000 in
theorem list_calls (v1 v2 : Value) (c1 c2 : Nat) (xs ys : List Int) (w : World) (h : IS .i64 w v1 c1 xs) (h' : IS .i64 w v2 c2 ys) :
    Calls Try.prog 16 #[v1, v2] w fun e w' => e = .returned (.bool (sameB xs ys c1)) ∧ Ext w w' := by
  obtain ⟨q1, q2, ao, rfl, hao⟩ := h.open
  obtain ⟨_, _, bo, rfl, hbo⟩ := h'.open
  have hq2 := q2
  unfold maxLen at q2
  have hq1 : (c1 : Int) ≤ 9223372036854775807 := by omega
  obtain ⟨R, hR⟩ : ∃ R, R = sameB xs ys c1 := ⟨_, rfl⟩
  rw [← hR]
  have HR := Lib.hid hR
  clear hR
  by_cases hl : xs.length = ys.length
  · by_cases hc : c1 = xs.length
    · subst hc
      have hF : (∃ i, i < xs.length ∧ gi xs i ≠ gi ys i) → R = false := fun ⟨i, hi, hne⟩ => by
        rw [HR.out]; unfold sameB; exact decide_eq_false fun e => hne (by rw [e.1])
      have hT : (∀ i, i < xs.length → gi xs i = gi ys i) → R = true := fun hh => by
        rw [HR.out]; unfold sameB; exact decide_eq_true ⟨gi_ext hl hh, rfl⟩
      obtain ⟨n1, hn1⟩ : ∃ s, s = xs.length := ⟨_, rfl⟩
      rw [← hl, ← hn1] at hbo ⊢
      rw [← hn1] at hao hF hT q2 hq1
      have HF := Lib.hid hF; have HT := Lib.hid hT
      clear HR hF hT hn1 hl h h' hq2 q1
      have hm : Try.prog.follows .mixedOrders = true := by kernel_rfl
      go_enter Try.func16, Try.ntmps16
      go_wp2
      go_loopw [5] (fun i wr => ∃ k : Nat, k ≤ n1 ∧ i = .int .i64 k ∧ Hid (Ext w wr ∧ ∀ j, j < k → gi xs j = gi ys j)) (fun i _ => n1 - (intOf i).toNat)
      case atStart => exact ⟨0, Nat.zero_le _, rfl, Lib.hid ⟨Ext.refl _, fun j hj => by omega⟩⟩
      case round =>
        obtain ⟨k, hk, rfl, H⟩ := hrel
        by_cases hlt : k < n1
        · obtain ⟨b, o, rfl, hc⟩ : ∃ b o, ao = some ⟨b, o, none⟩ ∧ ∀ i, i < n1 → w.cell? ⟨b, o + i, none⟩ = some (.int .i64 (gi xs i)) := by
            rcases hao with ⟨_, h0, _⟩ | h
            · omega
            · exact h
          obtain ⟨b', o', rfl, hc'⟩ : ∃ b o, bo = some ⟨b, o, none⟩ ∧ ∀ i, i < n1 → w.cell? ⟨b, o + i, none⟩ = some (.int .i64 (gi ys i)) := by
            rcases hbo with ⟨_, h0, _⟩ | h
            · omega
            · exact h
          have ck := H.out.1.cell (hc k hlt)
          have ck' := H.out.1.cell (hc' k hlt)
          have k0 : (0 : Int) ≤ (k : Int) := by omega
          have k1 : (k : Int) < (n1 : Int) := by omega
          have hF2 := fun hne => HF.out ⟨k, hlt, hne⟩
          have HF2 := Lib.hid hF2
          have hnx : gi xs k = gi ys k → ∀ j, j < k + 1 → gi xs j = gi ys j := fun he j hj => by
            by_cases e : j = k
            · rw [e]; exact he
            · exact H.out.2 j (by omega)
          have HNX := Lib.hid hnx
          obtain ⟨x, hx⟩ : ∃ x, x = gi xs k := ⟨_, rfl⟩
          obtain ⟨y, hy⟩ : ∃ x, x = gi ys k := ⟨_, rfl⟩
          rw [← hx] at ck HF2 HNX
          rw [← hy] at ck' HF2 HNX
          clear hc hc' hao hbo hx hy hF2 hnx
          by_cases g : x = y
          · have HG := Lib.hid g
            have g1 : (x != y) = false := by simpa using g
            clear g
            go_wp2
            go_quiet (fail)
            go_wp2
            go_roundw
            case rel => exact ⟨k + 1, by omega, by go_num, Lib.hid ⟨H.out.1.drewN _, HNX.out HG.out⟩⟩
            case measure => simp [intOf]; omega
          · have HG := Lib.hid g
            have g1 : (x != y) = true := by simpa using g
            clear g
            go_wp2
            go_quiet (fail)
            go_wp2
            go_ret
            exact ⟨ret_bool (HF2.out HG.out).symm, H.out.1.drewN _⟩
        · obtain rfl : k = n1 := by omega
          go_wp2
          go_ret
          exact ⟨ret_bool (HT.out H.out.2).symm, H.out.1⟩
    · have HF : Hid (R = false) := Lib.hid (by rw [HR.out]; unfold sameB; exact decide_eq_false fun e => hc e.2)
      obtain ⟨n1, hn1⟩ : ∃ s, s = xs.length := ⟨_, rfl⟩
      rw [← hl, ← hn1] at hbo ⊢
      rw [← hn1] at hc
      have g1 : ((c1 : Int) != (n1 : Int)) = true := by simp; omega
      clear HR hl hn1 h h' hao hbo hc q1
      go_enter Try.func16, Try.ntmps16
      go_wp2
      go_ret
      exact ⟨ret_bool HF.out.symm, Ext.refl _⟩
  · have HF : Hid (R = false) := Lib.hid (by rw [HR.out]; unfold sameB; exact decide_eq_false fun e => hl (by rw [e.1]))
    obtain ⟨n1, hn1⟩ : ∃ s, s = xs.length := ⟨_, rfl⟩
    obtain ⟨n2, hn2⟩ : ∃ s, s = ys.length := ⟨_, rfl⟩
    rw [← hn1] at hl ⊢
    rw [← hn2] at hl ⊢
    have g1 : ((n1 : Int) != (n2 : Int)) = true := by simp; omega
    clear HR hl hn1 hn2 h h' hao hbo q1
    go_enter Try.func16, Try.ntmps16
    go_wp2
    go_ret
    exact ⟨ret_bool HF.out.symm, Ext.refl _⟩
end Go.Proofs.Ytpcbadagffeehaa
