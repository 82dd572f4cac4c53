/- Contracts of the law's own functions: As, within. -/
import Derived.Test.YtpcbadagffeehaaSb
namespace Go.Proofs.Ytpcbadagffeehaa
set_option linter.unusedVariables false
set_option linter.unusedSimpArgs false
open Go Go.RowKit

def lenW : Value → Nat | .slice _ n _ => n | _ => 0

set_option maxHeartbeats 2000000 in
theorem As_calls (v : Value) (c : Nat) (xs : List Int) (n : Nat) (w : World) (h : IS .u8 w v c xs) (hb : U8L xs) (hbig : xs.length ≤ 140737488351232) (n1 : 1 ≤ n) (n8 : n ≤ 8) :
    Calls Try.prog 18 #[v, .int .i64 (n : Int)] w (RetX .u8 w (mof (masL xs n))) := by
  obtain ⟨h1, h2, ao, rfl, hao⟩ := h.open
  have hofc := fun v' c' w' (hh : IS .u8 w' v' c' (masL xs n)) => Of_calls v' c' (masL xs n) w' hh (masL_bd hb)
  have hmas : masL xs n = (xs ++ List.replicate (n - xs.length) 0).take n := rfl
  obtain ⟨L, hL⟩ : ∃ L, L = masL xs n := ⟨_, rfl⟩
  rw [← hL] at hofc hmas ⊢
  obtain ⟨N, hN⟩ : ∃ N, N = xs.length := ⟨_, rfl⟩
  rw [← hN] at h1 hao hbig hmas ⊢
  have HIS := Lib.hid h; have HOF := Lib.hid hofc; have HMS := Lib.hid hmas; have HN := Lib.hid hN
  clear h hb hofc hmas hN hL hao
  have hx0 : Ext w (w.alloc (.cells #[] 5)) := (Ext.refl w).alloc _
  have HX0 := Lib.hid hx0
  have hown0 := World.ownsRow_made (base := w.heap.size) (size := 1) (e := 5) w #[] 0 (Nat.le_refl _) (by unfold maxLen; omega) (by simp)
  have HO0 := Lib.hid hown0
  clear hx0 hown0
  go_enter Try.func18, Try.ntmps18
  go_wp2_with (at_builtin; refine app_own eiM rfl _ _ rfl w.heap.size _ 0 [] rfl HO0.out _ c (xs.map (Value.int .u8)) rfl (by have := HIS.out.ext HX0.out; rw [HN.out]; exact this) (onesI _) ?d1 ?d2 ?d3 ?_)
  case d1 => rw [List.length_map, ← HN.out]; omega
  case d2 => rw [List.length_map, ← HN.out]; omega
  case d3 => simp
  intro v1 w1 hown1 hb1
  have hlm : 0 + (xs.map (Value.int .u8)).length = N := by rw [List.length_map, ← HN.out]; omega
  have hown1 : w1.ownsRow w.heap.size 5 1 v1 N (xs.map (Value.int .u8)) := by
    have h := hown1
    (try simp only [List.length_map, Nat.zero_add, List.nil_append] at h)
    (try rw [← HN.out] at h)
    exact h
  have HS1 := Lib.hid (And.intro hown1 (Below.trans HX0.out hb1))
  clear hown1 hb1 hlm
  go_wp2
  go_loopw [5] (fun vy wr => ∃ j : Nat, (N + j ≤ n ∨ j = 0) ∧ lenW vy = N + j ∧ Hid (wr.ownsRow w.heap.size 5 1 vy (N + j) ((xs ++ List.replicate j 0).map (Value.int .u8)) ∧ Ext w wr)) (fun vy _ => n - lenW vy)
  case atStart =>
    refine ⟨0, .inr rfl, ?_, Lib.hid ⟨by simpa using HS1.out.1, HS1.out.2⟩⟩
    obtain ⟨c1, hc1⟩ := IS.of_own (k := .u8) (xs := xs) (by have := HS1.out.1; rw [HN.out] at this; exact this)
    obtain ⟨_, _, a1, rfl, _⟩ := hc1.open
    rw [HN.out]; rfl
  case round =>
    obtain ⟨j, hj, hlen, H⟩ := hrel
    have hsl : ∃ a1 c1, u5 = .slice a1 (N + j) c1 ∧ IS .u8 wr u5 c1 (xs ++ List.replicate j 0) := by
      have e : (xs ++ List.replicate j 0).length = N + j := by simp [← HN.out]
      obtain ⟨c1, hc1⟩ := IS.of_own (k := .u8) (xs := xs ++ List.replicate j 0) (by have := H.out.1; rw [← e] at this; exact this)
      obtain ⟨_, _, a1, he, _⟩ := hc1.open
      rw [e] at he
      exact ⟨a1, c1, he, hc1⟩
    obtain ⟨a1, c1, rfl, his⟩ := hsl
    have HSL := Lib.hid his
    clear his hlen
    by_cases hlt : N + j < n
    · have hlt' : ((N + j : Nat) : Int) < (n : Int) := by omega
      have hsz := H.out.2.size
      go_wp2_with (at_builtin; refine app_own eiM rfl _ _ rfl w.heap.size _ (N + j) _ rfl (H.out.1.alloc _) _ _ _ rfl (VS.one _ _ _) (one1 _) ?e1 ?e2 ?e3 ?_)
      case e1 => simp only [List.length_cons, List.length_nil]; omega
      case e2 => simp only [List.length_cons, List.length_nil]; omega
      case e3 => simp; omega
      intro v2 w2 hown2 hb2
      have HS2 := Lib.hid (And.intro hown2 (Below.trans (H.out.2.alloc _) hb2))
      clear hown2 hb2
      go_wp2
      go_roundw
      case rel =>
        have hl : (xs ++ List.replicate (j + 1) 0).length = N + (j + 1) := by simp [← HN.out]
        have ho : w2.ownsRow w.heap.size 5 1 v2 (N + (j + 1)) ((xs ++ List.replicate (j + 1) 0).map (Value.int .u8)) := by
          have := HS2.out.1
          simpa [List.replicate_succ', List.map_append, Nat.add_assoc] using this
        refine ⟨j + 1, .inl (by omega), ?_, Lib.hid ⟨ho, HS2.out.2⟩⟩
        obtain ⟨c1, hc1⟩ := IS.of_own (k := .u8) (xs := xs ++ List.replicate (j + 1) 0) (by have := ho; rw [← hl] at this; exact this)
        obtain ⟨_, _, a1, rfl, _⟩ := hc1.open
        rw [hl]; rfl
      case measure =>
        have hl : (xs ++ List.replicate (j + 1) 0).length = N + (j + 1) := by simp [← HN.out]
        have ho : w2.ownsRow w.heap.size 5 1 v2 (N + (j + 1)) ((xs ++ List.replicate (j + 1) 0).map (Value.int .u8)) := by
          have := HS2.out.1
          simpa [List.replicate_succ', List.map_append, Nat.add_assoc] using this
        obtain ⟨c1, hc1⟩ := IS.of_own (k := .u8) (xs := xs ++ List.replicate (j + 1) 0) (by have := ho; rw [← hl] at this; exact this)
        obtain ⟨_, _, a1, rfl, _⟩ := hc1.open
        rw [hl]; simp only [lenW]; omega
    · have hlt' : ¬ ((N + j : Nat) : Int) < (n : Int) := by omega
      have e : (xs ++ List.replicate j 0).length = N + j := by simp [← HN.out]
      obtain ⟨b, o, hv, hc⟩ := HSL.out.cellsN (by rw [e]; omega)
      rw [e] at hv
      simp only [Value.slice.injEq, true_and] at hv
      obtain ⟨rfl, _⟩ := hv
      have hle : N + j ≤ c1 := by have := HSL.out.len; omega
      have hcm : c1 ≤ maxLen := HSL.out.open.2.1
      unfold maxLen at hcm
      have hjn : j = n - N := by omega
      have hcut := cutTo HSL.out n (by omega)
      rw [hjn, ← HMS.out] at hcut
      have HCL := Lib.hid (HOF.out _ _ wr hcut)
      have f1 : (n : Int) ≤ (c1 : Int) := by omega
      clear hcut hc e hjn
      go_wp2_with fail
      refine HCL.out.mono ?_
      rintro e w2 hret
      obtain ⟨a2, n2, c2, rfl, rfl, r1, r2⟩ := RetX.open hret
      have HR := Lib.hid (And.intro r1 (H.out.2.trans r2))
      clear r1 r2
      go_wp2
      go_ret
      exact ⟨_, _, rfl, HR.out.1, HR.out.2⟩

/-! ### within -/
/-- All pairs that cross in the one cross in the other. -/
noncomputable def leB (n : Nat) (xs ys : List Int) : Bool := @decide (leP n xs ys) (Classical.propDecidable _)
theorem leB_iff {n : Nat} {xs ys : List Int} : leB n xs ys = true ↔ leP n xs ys := by unfold leB; exact @decide_eq_true_iff _ (Classical.propDecidable _)
theorem leB_false {n : Nat} {xs ys : List Int} (h : ¬ leP n xs ys) : leB n xs ys = false := by unfold leB; exact @decide_eq_false _ (Classical.propDecidable _) h

set_option maxHeartbeats 2000000 in
theorem within_calls (v1 v2 : Value) (c1 c2 : Nat) (xs ys : List Int) (w : World) (h : IS .u8 w v1 c1 xs) (h' : IS .u8 w v2 c2 ys) (h8 : xs.length ≤ 8) (hl : ys.length = xs.length) :
    Calls Try.prog 22 #[v1, v2] w fun e w' => e = .returned (.bool (leB xs.length xs ys)) ∧ Ext w w' := by
  have hcx := fun (a b : Nat) (w' : World) (hx : Ext w w') (ha : a < xs.length) (hb : b < xs.length) => crosses_calls v1 c1 xs a b w' (h.ext hx) ha hb h8
  have hcy := fun (a b : Nat) (w' : World) (hx : Ext w w') (ha : a < xs.length) (hb : b < xs.length) => crosses_calls v2 c2 ys a b w' (h'.ext hx) (by omega) (by omega) (by omega)
  have hF : (∃ a b, a < b ∧ b < xs.length ∧ crossesB xs a b = true ∧ crossesB ys a b = false) → leB xs.length xs ys = false := fun ⟨a, b, ab, bn, c1, c2⟩ => leB_false fun hle => by
    rw [crossesB_cr ab] at c1 c2
    have := hle (a + 1) (b + 1) (by omega) (by omega) (by omega) c1
    rw [this] at c2; cases c2
  have hT : (∀ a b, a < b → b < xs.length → crossesB xs a b = true → crossesB ys a b = true) → leB xs.length xs ys = true := fun hh => leB_iff.2 fun a b a1 ab bn c => by
    have := hh (a - 1) (b - 1) (by omega) (by omega)
    rw [crossesB_cr (by omega), crossesB_cr (by omega), Nat.sub_add_cancel a1, Nat.sub_add_cancel (by omega)] at this
    exact this c
  obtain ⟨_, _, ao, rfl, _⟩ := h.open
  obtain ⟨_, _, bo, rfl, _⟩ := h'.open
  obtain ⟨R, hR⟩ : ∃ R, R = leB xs.length xs ys := ⟨_, rfl⟩
  rw [← hR] at hF hT ⊢
  obtain ⟨N, hN⟩ : ∃ N, N = xs.length := ⟨_, rfl⟩
  rw [hl, ← hN] at hcy
  rw [← hN] at hcx hF hT h8 ⊢
  obtain ⟨M2, hM2⟩ : ∃ N, N = ys.length := ⟨_, rfl⟩
  rw [← hM2] at hl ⊢
  rw [hl, ← hN]
  have HX := Lib.hid hcx; have HY := Lib.hid hcy; have HF := Lib.hid hF; have HT := Lib.hid hT
  clear hcx hcy hF hT hN hR h h' hl hM2
  go_enter Try.func22, Try.ntmps22
  go_wp2
  go_loopw [5] (fun i wr => ∃ a : Nat, a ≤ N ∧ i = .int .i64 a ∧ Hid (Ext w wr ∧ ∀ a' b, a' < a → a' < b → b < N → crossesB xs a' b = true → crossesB ys a' b = true)) (fun i _ => N - (intOf i).toNat)
  case atStart => exact ⟨0, Nat.zero_le _, rfl, Lib.hid ⟨Ext.refl _, fun a' b h => by omega⟩⟩
  case round =>
    obtain ⟨a, ha, rfl, H⟩ := hrel
    by_cases hlt : a < N
    · obtain ⟨wo, rfl⟩ : ∃ wo : World, wo = wr := ⟨_, rfl⟩
      go_wp2
      go_loopw [6] (fun i wr => ∃ b : Nat, a < b ∧ b ≤ N ∧ i = .int .i64 b ∧ Hid (Ext w wr ∧ ∀ b', a < b' → b' < b → crossesB xs a b' = true → crossesB ys a b' = true)) (fun i _ => N - (intOf i).toNat)
      case atStart => exact ⟨a + 1, by omega, by omega, by go_num, Lib.hid ⟨H.out.1, fun b' h1 h2 => by omega⟩⟩
      case round =>
        obtain ⟨b, hab, hb, rfl, H2⟩ := hrel
        by_cases hlb : b < N
        · have hc1 := HX.out a b wr H2.out.1 hlt hlb
          have hcy2 : ∀ m, Calls Try.prog 15 #[.slice bo N c2, .int .i64 (a : Int), .int .i64 (b : Int)] (wr.drewN m) fun e w' => e = .returned (.bool (crossesB ys a b)) ∧ ∃ m', w' = (wr.drewN m).drewN m' := fun m => HY.out a b (wr.drewN m) (H2.out.1.drewN m) hlt hlb
          have hf := fun c1 c2 => HF.out ⟨a, b, hab, hlb, c1, c2⟩
          have hnx : (crossesB xs a b = true → crossesB ys a b = true) → ∀ b', a < b' → b' < b + 1 → crossesB xs a b' = true → crossesB ys a b' = true := fun hh b' h1 h2 => by
            by_cases e : b' = b
            · rw [e]; exact hh
            · exact H2.out.2 b' h1 (by omega)
          obtain ⟨p, hp⟩ : ∃ p, p = crossesB xs a b := ⟨_, rfl⟩
          obtain ⟨q, hq⟩ : ∃ p, p = crossesB ys a b := ⟨_, rfl⟩
          rw [← hp] at hc1 hf hnx
          rw [← hq] at hcy2 hf hnx
          have HC1 := Lib.hid hc1; have HC2 := Lib.hid hcy2; have HFF := Lib.hid hf; have HNX := Lib.hid hnx
          clear hc1 hcy2 hf hnx hp hq
          cases p with
          | false =>
            go_wp2_with fail
            refine HC1.out.mono ?_
            rintro e w' ⟨rfl, m1, rfl⟩
            go_wp2
            go_roundw
            case rel => exact ⟨b + 1, by omega, by omega, by go_num, Lib.hid ⟨H2.out.1.drewN _, HNX.out (fun h => by cases h)⟩⟩
            case measure => simp [intOf]; omega
          | true =>
            cases q with
            | true =>
              go_wp2_with fail
              refine HC1.out.mono ?_
              rintro e w' ⟨rfl, m1, rfl⟩
              have HC3 := Lib.hid (HC2.out m1)
              go_wp2_with fail
              refine HC3.out.mono ?_
              rintro e w' ⟨rfl, m2, rfl⟩
              go_wp2
              go_roundw
              case rel => exact ⟨b + 1, by omega, by omega, by go_num, Lib.hid ⟨H2.out.1.drewN _, HNX.out (fun h => h)⟩⟩
              case measure => simp [intOf]; omega
            | false =>
              go_wp2_with fail
              refine HC1.out.mono ?_
              rintro e w' ⟨rfl, m1, rfl⟩
              have HC3 := Lib.hid (HC2.out m1)
              go_wp2_with fail
              refine HC3.out.mono ?_
              rintro e w' ⟨rfl, m2, rfl⟩
              go_wp2
              go_ret
              exact ⟨ret_bool (HFF.out trivial trivial).symm, H2.out.1.drewN _⟩
        · obtain rfl : b = N := by omega
          go_wp2
          go_roundw
          case rel =>
            refine ⟨a + 1, by omega, by go_num, Lib.hid ⟨H2.out.1, fun a' b' h1 h2 h3 => ?_⟩⟩
            by_cases e : a' = a
            · subst e; exact H2.out.2 b' h2 h3
            · exact H.out.2 a' b' (by omega) h2 h3
          case measure => simp [intOf]; omega
    · obtain rfl : a = N := by omega
      go_wp2
      go_ret
      exact ⟨ret_bool (HT.out fun a' b' h1 h2 => H.out.2 a' b' (by omega) h1 h2).symm, H.out.1⟩
end Go.Proofs.Ytpcbadagffeehaa
