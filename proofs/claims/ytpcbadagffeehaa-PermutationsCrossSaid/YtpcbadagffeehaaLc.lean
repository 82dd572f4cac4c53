/- The law PermutationsCross, walked. -/
import Derived.Test.YtpcbadagffeehaaSf
namespace Go.Proofs.Ytpcbadagffeehaa
set_option linter.unusedVariables false
set_option linter.unusedSimpArgs false
open Go Go.RowKit

/-- How many pairs come ahead of the pair (a + 1, b + 1). -/
def atN (p : List Int) (a b : Nat) : Nat := (prows p.length (crossB p) (a + 1) ++ prow p.length (crossB p) (a + 1) (b + 1)).length
theorem atN_start (p : List Int) : (prows p.length (crossB p) 1).length = 0 := by rw [prows_one]; rfl
theorem atN_row (p : List Int) (a : Nat) : atN p a (a + 1) = (prows p.length (crossB p) (a + 1)).length := by
  unfold atN; rw [prow_nil (Nat.le_refl _), List.append_nil]
theorem atN_next (p : List Int) (a : Nat) : atN p a p.length = (prows p.length (crossB p) (a + 1 + 1)).length := by
  unfold atN; rw [← prows_succ]
theorem atN_end (p : List Int) : (prows p.length (crossB p) (p.length + 1)).length = (crossers p).length := by
  rw [prows_end _ _ _ (by omega)]; rfl
theorem atN_no {p : List Int} {a b : Nat} (h : crossB p (a + 1) (b + 1) = false) : atN p a (b + 1) = atN p a b := by
  unfold atN
  rw [show prow p.length (crossB p) (a + 1) (b + 1 + 1) = prow p.length (crossB p) (a + 1) (b + 1) by rw [prow_succ, pick_no h]; simp]
theorem atN_yes {p : List Int} {a b : Nat} (ab : a < b) (bn : b < p.length) (h : crossB p (a + 1) (b + 1) = true) :
    atN p a (b + 1) = atN p a b + 1 ∧ ∃ x : Pr p.length, (crossers p)[atN p a b]? = some x ∧ x.1 = (a + 1, b + 1) := by
  have hs : prow p.length (crossB p) (a + 1) (b + 1 + 1) = prow p.length (crossB p) (a + 1) (b + 1) ++ [⟨(a + 1, b + 1), by omega, by omega, by omega⟩] := by
    rw [prow_succ, pick_yes ⟨by omega, by omega, by omega⟩ h]; rfl
  refine ⟨by unfold atN; rw [hs, ← List.append_assoc, List.length_append]; rfl, ⟨(a + 1, b + 1), by omega, by omega, by omega⟩, ?_, rfl⟩
  have hp := at_prefix p.length (crossB p) (a := a + 1) (b := b + 1) (by omega) (by omega)
  rw [hs, ← List.append_assoc] at hp
  obtain ⟨t, ht⟩ := hp
  unfold crossers prsAll
  rw [← ht]
  unfold atN
  rw [List.append_assoc, List.getElem?_append_right (Nat.le_refl _), Nat.sub_self]
  rfl
theorem crossesB_cross {p : List Int} {a b : Nat} (h : a < b) : crossesB p a b = crossB p (a + 1) (b + 1) := crossesB_cr h

/-- Two rows of numbers that grow. -/
def TwoR (w wr : World) (s t : Value) (xs ys : List Int) : Prop :=
  wr.ownsRow w.heap.size 3 1 s xs.length (xs.map (Value.int .i64)) ∧ wr.ownsRow w.heap.size 3 1 t ys.length (ys.map (Value.int .i64)) ∧ (∀ g, s.ownBlock = some g → some g ≠ t.ownBlock) ∧ Ext w wr
theorem TwoR.ext {w wr w' : World} {s t : Value} {xs ys : List Int} (h : TwoR w wr s t xs ys) (x : Ext wr w') : TwoR w w' s t xs ys := ⟨own_ext h.1 x, own_ext h.2.1 x, h.2.2.1, h.2.2.2.trans x⟩
theorem TwoR.grow {w wr : World} {s t : Value} {xs ys : List Int} (h : TwoR w wr s t xs ys) {k : Int} {g cap : Nat} {w' : World}
    (hown : w'.ownsRow w.heap.size 3 1 (.slice (some ⟨g, 0, none⟩) (xs.length + 1) cap) (xs.length + 1) (xs.map (Value.int .i64) ++ [.int .i64 k])) (hgr : (wr.alloc (.cells #[.int .i64 k] 3)).grownBy w' s.ownBlock) (hat : s.ownBlock = some g ∨ g = (wr.alloc (.cells #[.int .i64 k] 3)).heap.size) :
    TwoR w w' (.slice (some ⟨g, 0, none⟩) (xs.length + 1) cap) t (xs ++ [k]) ys := by
  obtain ⟨h1, h2, h3, h4⟩ := h
  refine ⟨?_, grown_own (h2.alloc _) hgr fun g' hg' e => h3 g' e.symm hg'.symm, fun g' hg' e => ?_, Below.trans (h4.alloc _) (below_of_grown (h1.alloc _) (by have := h4.size; simp; omega) hgr)⟩
  · rw [List.length_append, List.map_append]; exact hown
  · obtain rfl : g = g' := by simpa [Value.ownBlock] using hg'
    rcases hat with hat | hat
    · exact h3 g hat e
    · obtain ⟨_, _, hlt⟩ := own_block h2 e.symm
      simp at hat; omega
theorem TwoR.growR {w wr : World} {s t : Value} {xs ys : List Int} (h : TwoR w wr s t xs ys) {k : Int} {g cap : Nat} {w' : World}
    (hown : w'.ownsRow w.heap.size 3 1 (.slice (some ⟨g, 0, none⟩) (ys.length + 1) cap) (ys.length + 1) (ys.map (Value.int .i64) ++ [.int .i64 k])) (hgr : (wr.alloc (.cells #[.int .i64 k] 3)).grownBy w' t.ownBlock) (hat : t.ownBlock = some g ∨ g = (wr.alloc (.cells #[.int .i64 k] 3)).heap.size) :
    TwoR w w' s (.slice (some ⟨g, 0, none⟩) (ys.length + 1) cap) xs (ys ++ [k]) := by
  obtain ⟨h1, h2, h3, h4⟩ := h
  have h' : TwoR w wr t s ys xs := ⟨h2, h1, fun g hg e => h3 g e.symm hg.symm, h4⟩
  obtain ⟨k1, k2, k3, k4⟩ := h'.grow hown hgr hat
  exact ⟨k2, k1, fun g hg e => k3 g e.symm hg.symm, k4⟩

/-- Where a number stands. -/
theorem pok_idx {p : List Int} (h : pok p) {v : Nat} (h1 : 1 ≤ v) (h2 : v ≤ p.length) : ∃ A, A < p.length ∧ gi p A = (v : Int) ∧ gi (invL p) (v - 1) = (A : Int) + 1 ∧ ∀ i, i < p.length → gi p i = (v : Int) → i = A := by
  obtain ⟨A, hA, e⟩ := pok_hit h (u := v - 1) (by omega)
  refine ⟨A, hA, by omega, ?_, fun i hi he => ?_⟩
  · have := invL_at h hA
    rw [e, show (((v - 1 : Nat) : Int) + 1 - 1).toNat = v - 1 by omega] at this
    exact this
  · have := pok_inj h (i := i + 1) (j := A + 1) (by omega) (by omega) (by omega) (by omega) (by simp only [Nat.add_sub_cancel]; omega)
    omega

set_option maxRecDepth 100000 in
set_option maxHeartbeats 8000000 in
theorem PermutationsCross_walk (v1 : Value) (c1 : Nat) (xs : List Int) (w : World) (h : IS .u8 w v1 c1 xs) (hb : U8L xs) :
    Calls Try.prog 3 #[v1] w fun e w' => e = .returned (.bool true) ∧ Below w.heap.size w w' := by
  have hof := Of_calls v1 c1 xs w h hb
  have hp := PM.ofM hb
  obtain ⟨N, hN⟩ : ∃ N, N = mN xs := ⟨_, rfl⟩
  rw [← hN] at hp
  obtain ⟨p, hpp⟩ : ∃ p, p = mof xs := ⟨_, rfl⟩
  rw [← hpp] at hof hp
  obtain ⟨_, _, ao, rfl, _⟩ := h.open
  obtain ⟨l1, hl1⟩ : ∃ l, l = xs.length := ⟨_, rfl⟩
  rw [← hl1] at hof ⊢
  have n1 := hp.pos
  have n8 := hp.le
  obtain ⟨M, hM⟩ : ∃ M, M = (crossers p).length := ⟨_, rfl⟩
  have hM72 : M ≤ 72 := by rw [hM]; exact prsAll_len (by rw [hp.len]; exact n8) _
  obtain ⟨S, hS⟩ : ∃ S, S = fallsL p := ⟨_, rfl⟩
  obtain ⟨T, hT⟩ : ∃ T, T = fallsL (invL p) := ⟨_, rfl⟩
  have HOF := Lib.hid hof; have HP := Lib.hid hp; have HM := Lib.hid hM; have HS := Lib.hid hS; have HT := Lib.hid hT
  clear hof hp hN hpp h hb hl1 hM hS hT
  go_enter Try.func3, Try.ntmps3
  go_wp2_with fail
  refine HOF.out.mono ?_
  rintro e w1 hret
  obtain ⟨a3, c3, rfl, r, x⟩ := hret.lit HP.out.len
  have I3 := Lib.hid r; have HX := Lib.hid x; clear r x
  have HC := Lib.hid (Inversions_calls 5 (by omega) _ _ p w1 I3.out HP.out.u8)
  go_wp2_with fail
  refine HC.out.mono ?_
  clear HC
  rintro e w2 hret
  rw [HP.out.chk, if_pos rfl, if_pos rfl, ← HM.out] at hret
  obtain ⟨v4, rfl, q4, x⟩ := hret
  obtain ⟨a4, rfl⟩ : ∃ a4, v4 = .slice a4 M M := by
    rcases q4 with ⟨rfl, h1, h2⟩ | ⟨b, rfl, _⟩
    · exact ⟨none, by rw [h1]⟩
    · exact ⟨_, by rw [← HM.out]⟩
  replace I3 := Lib.hid (I3.out.ext x); have I4 := Lib.hid q4; replace HX := Lib.hid (HX.out.trans x); clear q4 x
  have HC := Lib.hid (ok_len (m := M) HP.out I3.out (by rw [HM.out]; exact crossers_len p))
  go_wp2_with fail
  refine HC.out.mono ?_
  clear HC
  rintro e w3 ⟨rfl, x⟩
  replace I3 := Lib.hid (I3.out.ext x); replace I4 := Lib.hid (I4.out.ext x); replace HX := Lib.hid (HX.out.trans x); clear x
  have HC := Lib.hid (ok_starts HP.out I3.out)
  go_wp2_with fail
  refine HC.out.mono ?_
  clear HC
  rintro e w4 hret
  rw [← HS.out] at hret
  obtain ⟨a8, rfl, r, x⟩ := hret.lit (n := S.length) rfl
  replace I3 := Lib.hid (I3.out.ext x); replace I4 := Lib.hid (I4.out.ext x); have I8 := Lib.hid r; replace HX := Lib.hid (HX.out.trans x); clear r x
  have HC := Lib.hid (ok_ends HP.out I3.out)
  go_wp2_with fail
  refine HC.out.mono ?_
  clear HC
  rintro e w5 hret
  rw [← HT.out] at hret
  obtain ⟨a10, rfl, r, x⟩ := hret.lit (n := T.length) rfl
  replace I3 := Lib.hid (I3.out.ext x); replace I4 := Lib.hid (I4.out.ext x); replace I8 := Lib.hid (I8.out.ext x); have I10 := Lib.hid r; replace HX := Lib.hid (HX.out.trans x); clear r x
  obtain ⟨b3, o3, rfl, k3⟩ := I3.out.at (i := 0) n1
  have K3 := Lib.hid k3
  clear k3
  go_wp2
  go_loopw [12, 13] (fun t i wr => ∃ a : Nat, a ≤ N ∧ i = .int .i64 a ∧ t = .int .i64 ((prows p.length (crossB p) (a + 1)).length : Int) ∧ Hid (Ext w5 wr)) (fun _ i _ => N - (intOf i).toNat)
  case atStart => exact ⟨0, Nat.zero_le _, rfl, by rw [atN_start]; rfl, Lib.hid (Ext.refl _)⟩
  case round =>
    obtain ⟨a, ha, rfl, rfl, H⟩ := hrel
    by_cases hlt : a < N
    · obtain ⟨wo, rfl⟩ : ∃ wo : World, wo = wr := ⟨_, rfl⟩
      have hrow := atN_row p a
      obtain ⟨R0, hR0⟩ : ∃ R, R = (prows p.length (crossB p) (a + 1)).length := ⟨_, rfl⟩
      rw [← hR0] at hrow ⊢
      have HROW := Lib.hid hrow
      clear hrow hR0
      go_wp2
      go_loopw [12, 14] (fun t i wr => ∃ b : Nat, a < b ∧ b ≤ N ∧ i = .int .i64 b ∧ (∃ t0 : Nat, t = .int .i64 t0 ∧ Hid (t0 = atN p a b)) ∧ Hid (Ext w5 wr)) (fun _ i _ => N - (intOf i).toNat)
      case atStart => exact ⟨a + 1, by omega, by omega, by go_num, ⟨R0, rfl, Lib.hid HROW.out.symm⟩, H⟩
      case round =>
        obtain ⟨b, hab, hb, rfl, ⟨t0, rfl, HT0⟩, H2⟩ := hrel
        by_cases hlb : b < N
        · have hc := crosses_calls _ _ p a b wr (I3.out.ext H2.out) (by rw [HP.out.len]; exact hlt) (by rw [HP.out.len]; exact hlb) (by rw [HP.out.len]; exact n8)
          rw [crossesB_cross hab] at hc
          cases hcb : crossB p (a + 1) (b + 1) with
          | false =>
            rw [hcb] at hc
            have HC := Lib.hid hc; have HN := Lib.hid (atN_no hcb)
            clear hc hcb
            go_wp2_with fail
            refine HC.out.mono ?_
            rintro e w' ⟨rfl, m, rfl⟩
            go_wp2
            go_roundw
            case rel => exact ⟨b + 1, by omega, by omega, by go_num, ⟨t0, rfl, Lib.hid (by rw [HN.out]; exact HT0.out)⟩, Lib.hid (H2.out.drewN _)⟩
            case measure => simp [intOf]; omega
          | true =>
            rw [hcb] at hc
            have hy := atN_yes hab (by rw [HP.out.len]; exact hlb) hcb
            obtain ⟨hy1, x, hy2, hy3⟩ := hy
            rw [← HT0.out] at hy1 hy2
            have ht0 : t0 < M := by rw [HM.out]; exact (List.getElem?_eq_some_iff.1 hy2).1
            obtain ⟨b4, rfl, hcells⟩ : ∃ b4, a4 = some ⟨b4, 0, none⟩ ∧ ∀ i x, (crossers p)[i]? = some x → w5.cell? ⟨b4, i * 2, none⟩ = some (.int .u8 (x.1.1 : Int)) ∧ w5.cell? ⟨b4, i * 2 + 1, none⟩ = some (.int .u8 (x.1.2 : Int)) := by
              rcases I4.out with ⟨_, h1, h2⟩ | ⟨b, he, _, h3⟩
              · omega
              · simp only [Value.slice.injEq] at he
                exact ⟨b, he.1, h3⟩
            have hce := hcells t0 x hy2
            rw [hy3] at hce
            have q1 := H2.out.cell hce.1
            have q2 := H2.out.cell hce.2
            simp only [Int.natCast_add, Int.cast_ofNat_Int] at q1 q2
            have g1 : ¬ (M : Int) ≤ (t0 : Int) := by omega
            have g2 : (t0 : Int) < (M : Int) := by omega
            have HC := Lib.hid hc; have HN := Lib.hid hy1
            clear hc hcb hy1 hy2 hy3 hce hcells
            go_wp2_with fail
            refine HC.out.mono ?_
            rintro e w' ⟨rfl, m, rfl⟩
            go_wp2
            go_roundw
            case rel => exact ⟨b + 1, by omega, by omega, by go_num, ⟨t0 + 1, by go_num, Lib.hid HN.out.symm⟩, Lib.hid (H2.out.drewN _)⟩
            case measure => simp [intOf]; omega
        · obtain rfl : b = N := by omega
          go_wp2
          go_roundw
          case rel => exact ⟨a + 1, by omega, by go_num, by rw [← atN_next, HP.out.len, ← HT0.out], H2⟩
          case measure => simp [intOf]; omega
    · obtain rfl : a = N := by omega
      have hat : (prows p.length (crossB p) (a + 1)).length = M := by rw [HM.out, ← atN_end, HP.out.len]
      rw [hat]
      obtain ⟨w6, rfl⟩ : ∃ w6 : World, w6 = wr := ⟨_, rfl⟩
      replace I3 := Lib.hid (I3.out.ext H.out); replace I8 := Lib.hid (I8.out.ext H.out); replace I10 := Lib.hid (I10.out.ext H.out); replace HX := Lib.hid (HX.out.trans H.out)
      have k3' : ∀ j, j < a → w6.cell? ⟨b3, o3 + j, none⟩ = some (.int .u8 (gi p j)) := fun j hj => H.out.cell (K3.out j hj)
      have K3' := Lib.hid k3'
      clear hat k3' hlt ha
      obtain ⟨N, rfl⟩ : ∃ N : Nat, N = a := ⟨_, rfl⟩
      go_wp2

      go_loopw [15, 16, 17] (fun s t i wr => ∃ k : Nat, k + 1 ≤ N ∧ i = .int .i64 ((k : Int) + 1) ∧ Hid (TwoR w6 wr s t (fallsTo p (k + 1)) (fallsTo (invL p) (k + 1)))) (fun _ _ i _ => N - (intOf i).toNat)
      case atStart => exact ⟨0, by omega, by go_num, Lib.hid ⟨World.ownsRow_nil _ _ _ _, World.ownsRow_nil _ _ _ _, (fun g hg => by simp [Value.ownBlock] at hg), Ext.refl _⟩⟩
      case round =>
        obtain ⟨k, hk, rfl, HR⟩ := hrel
        by_cases hlk : k + 1 < N
        · have hlk' : (k : Int) + 1 < (N : Int) := by omega
          have hpl := HP.out.len
          obtain ⟨A, hA1, hA2, hA3, hA4⟩ := pok_idx HP.out.ok (v := k + 1) (by omega) (by omega)
          obtain ⟨B, hB1, hB2, hB3, hB4⟩ := pok_idx HP.out.ok (v := k + 2) (by omega) (by omega)
          rw [hpl] at hA1 hB1 hA4 hB4
          rw [show k + 1 - 1 = k by omega] at hA3
          rw [show k + 2 - 1 = k + 1 by omega] at hB3
          have hf1 : crossesB p k (k + 1) = fallB p (k + 1) := by rw [crossesB_cr (Nat.lt_succ_self k), fallB_cr p (by omega)]
          have hf2 : crossesB p A B = fallB (invL p) (k + 1) := by
            unfold crossesB fallB
            rw [hA2, hB2, Nat.add_sub_cancel, hA3, hB3, Bool.eq_iff_iff]
            simp only [Bool.or_eq_true, Bool.and_eq_true, decide_eq_true_eq]
            omega
          have hA4' : ∀ i, i < N → i ≠ A → gi p i ≠ (k : Int) + 1 := fun i h1 h2 e => h2 (hA4 i h1 (by omega))
          have hB4' : ∀ i, i < N → i ≠ B → gi p i ≠ (k : Int) + 1 + 1 := fun i h1 h2 e => h2 (hB4 i h1 (by omega))
          have hAB : A ≠ B := fun e => by rw [e] at hA2; omega
          have hL1 := fallsTo_len p (k + 1)
          have hL2 := fallsTo_len (invL p) (k + 1)
          have HF1 := Lib.hid hf1; have HF2 := Lib.hid hf2; have HA2 := Lib.hid hA2; have HB2 := Lib.hid hB2; have HA4 := Lib.hid hA4'; have HB4 := Lib.hid hB4'; have HPL := Lib.hid hpl
          clear hf1 hf2 hA2 hB2 hA3 hB3 hA4 hB4 hA4' hB4' hpl
          have hc := crosses_calls _ _ p k (k + 1) wr (I3.out.ext HR.out.2.2.2) (by rw [HPL.out]; omega) (by rw [HPL.out]; omega) (by rw [HPL.out]; exact n8)
          rw [HF1.out] at hc
          simp only [Int.natCast_add, Int.cast_ofNat_Int] at hc
          cases hv1 : fallB p (k + 1) with
          | false =>
            rw [hv1] at hc
            have HC := Lib.hid hc; have HV1 := Lib.hid (fallsTo_no hv1); clear hc hv1
            go_wp2_with fail
            refine HC.out.mono ?_
            clear HC
            rintro e w7 ⟨rfl, m, rfl⟩
            have HR2 : Hid (TwoR w6 (wr.drewN m) u15 u16 (fallsTo p (k + 1 + 1)) (fallsTo (invL p) (k + 1))) := Lib.hid (by rw [HV1.out]; exact HR.out.ext ((Ext.refl _).drewN _))
            obtain ⟨W7, hW7⟩ : ∃ W7, W7 = wr.drewN m := ⟨_, rfl⟩
            rw [← hW7] at HR2 ⊢
            clear hW7
            go_wp2
            go_loop [18, 19, 20] (fun x y i => ∃ i0 : Nat, i0 ≤ N ∧ i = .int .i64 i0 ∧ (∃ x0 : Nat, x = .int .i64 x0 ∧ Hid (x0 = if A < i0 then A else 0)) ∧ (∃ y0 : Nat, y = .int .i64 y0 ∧ Hid (y0 = if B < i0 then B else 0))) (fun _ _ i => N - (intOf i).toNat)
            case atStart => exact ⟨0, Nat.zero_le _, rfl, ⟨0, rfl, Lib.hid (by simp)⟩, ⟨0, rfl, Lib.hid (by simp)⟩⟩
            case round =>
              obtain ⟨i0, hi0, rfl, ⟨x0, rfl, X0⟩, ⟨y0, rfl, Y0⟩⟩ := hrel
              by_cases hli : i0 < N
              · have ck := HR2.out.2.2.2.cell (K3'.out i0 hli)
                have hna := HA4.out i0 hli; have hnb := HB4.out i0 hli
                obtain ⟨z, hz⟩ : ∃ z, z = gi p i0 := ⟨_, rfl⟩
                have hza : i0 = A → z = (k : Int) + 1 := fun e => by rw [hz, e, HA2.out]; omega
                have hzb : i0 = B → z = (k : Int) + 1 + 1 := fun e => by rw [hz, e, HB2.out]; omega
                have hzbd := pok_bd HP.out.ok (i := i0 + 1) (by omega) (by rw [HPL.out]; omega)
                rw [Nat.add_sub_cancel, HPL.out] at hzbd
                rw [← hz] at ck hna hnb hzbd
                obtain ⟨hz0, hz9⟩ := hzbd
                clear hz
                by_cases eA : i0 = A
                · have e1 : (z == (k : Int) + 1) = true := by simp [hza eA]
                  have e2 : (z == (k : Int) + 1 + 1) = false := by rw [hza eA]; simp; omega
                  have EA := Lib.hid eA
                  clear hna hnb hza hzb eA
                  go_wp2
                  go_round
                  case rel => exact ⟨i0 + 1, by omega, by go_num, ⟨i0, rfl, Lib.hid (by have := EA.out; rw [if_pos (by omega)]; omega)⟩, ⟨y0, rfl, Lib.hid (by have := EA.out; rw [Y0.out]; by_cases hh : B < i0 + 1 <;> by_cases hh2 : B < i0 <;> simp [hh, hh2] <;> omega)⟩⟩
                  case measure => simp [intOf]; omega
                · by_cases eB : i0 = B
                  · have e1 : (z == (k : Int) + 1) = false := by rw [hzb eB]; simp; omega
                    have e2 : (z == (k : Int) + 1 + 1) = true := by simp [hzb eB]
                    have EA := Lib.hid eA; have EB := Lib.hid eB
                    clear hna hnb hza hzb eA eB
                    go_wp2
                    go_round
                    case rel => exact ⟨i0 + 1, by omega, by go_num, ⟨x0, rfl, Lib.hid (by have := EA.out; rw [X0.out]; by_cases hh : A < i0 + 1 <;> by_cases hh2 : A < i0 <;> simp [hh, hh2] <;> omega)⟩, ⟨i0, rfl, Lib.hid (by have := EB.out; rw [if_pos (by omega)]; omega)⟩⟩
                    case measure => simp [intOf]; omega
                  · have e1 : (z == (k : Int) + 1) = false := by simpa using hna eA
                    have e2 : (z == (k : Int) + 1 + 1) = false := by simpa using hnb eB
                    have EA := Lib.hid eA; have EB := Lib.hid eB
                    clear hna hnb hza hzb eA eB
                    go_wp2
                    go_round
                    case rel => exact ⟨i0 + 1, by omega, by go_num, ⟨x0, rfl, Lib.hid (by have := EA.out; rw [X0.out]; by_cases hh : A < i0 + 1 <;> by_cases hh2 : A < i0 <;> simp [hh, hh2] <;> omega)⟩, ⟨y0, rfl, Lib.hid (by have := EB.out; rw [Y0.out]; by_cases hh : B < i0 + 1 <;> by_cases hh2 : B < i0 <;> simp [hh, hh2] <;> omega)⟩⟩
                    case measure => simp [intOf]; omega
              · obtain rfl : x0 = A := by rw [X0.out, if_pos (by omega)]
                obtain rfl : y0 = B := by rw [Y0.out, if_pos (by omega)]
                have hc2 := crosses_calls _ _ p x0 y0 _ (I3.out.ext HR2.out.2.2.2) (by rw [HPL.out]; exact hA1) (by rw [HPL.out]; exact hB1) (by rw [HPL.out]; exact n8)
                rw [HF2.out] at hc2
                have hli2 : ¬ (i0 : Int) < (N : Int) := by omega
                cases hv2 : fallB (invL p) (k + 1) with
                | false =>
                  rw [hv2] at hc2
                  have HC2 := Lib.hid hc2; have HV2 := Lib.hid (fallsTo_no hv2); clear hc2 hv2
                  go_wp2_with fail
                  refine HC2.out.mono ?_
                  rintro e w' ⟨rfl, m2, rfl⟩
                  go_wp2
                  go_roundw
                  case rel => exact ⟨k + 1, by omega, by go_num, Lib.hid (by rw [HV2.out]; exact HR2.out.ext ((Ext.refl _).drewN _))⟩
                  case measure => simp [intOf]; omega
                | true =>
                  rw [hv2] at hc2
                  have HC2 := Lib.hid hc2; have HV2 := Lib.hid (fallsTo_yes (by omega) hv2); clear hc2 hv2
                  go_wp2_with fail
                  refine HC2.out.mono ?_
                  rintro e w' ⟨rfl, m2, rfl⟩
                  have HR3 := Lib.hid (HR2.out.ext ((Ext.refl _).drewN m2))
                  obtain ⟨W9, hW9⟩ : ∃ W9, W9 = W7.drewN m2 := ⟨_, rfl⟩
                  rw [← hW9] at HR3 ⊢
                  clear hW9
                  have hsz3 := HR3.out.2.2.2.size
                  go_wp2_with (at_builtin; refine app_lies eiInt rfl _ _ rfl w6.heap.size _ _ _ rfl (HR3.out.2.1.alloc _) _ _ _ rfl (VS.one _ _ _) (one1 _) ?f1 ?f2 ?f3 ?f4 ?_)
                  any_goals (first | omega | (simp; done) | (simp only [List.length_cons, List.length_nil]; omega) | (simp; omega) | (simp at hsz3 ⊢; omega))
                  intro g cap w' hown hgr hat
                  have HT2 := Lib.hid (TwoR.growR (k := (k : Int) + 1) HR3.out hown hgr (by simpa using hat))
                  clear hown hgr hat
                  go_wp2
                  go_roundw
                  case rel => exact ⟨k + 1, by omega, by go_num, Lib.hid (by rw [HV2.out]; exact HT2.out)⟩
                  case measure => simp [intOf]; omega
          | true =>
            rw [hv1] at hc
            have HC := Lib.hid hc; have HV1 := Lib.hid (fallsTo_yes (by omega) hv1); clear hc hv1
            go_wp2_with fail
            refine HC.out.mono ?_
            clear HC
            rintro e w7 ⟨rfl, m, rfl⟩
            have HR1 := Lib.hid (HR.out.ext ((Ext.refl wr).drewN m))
            obtain ⟨W7, hW7⟩ : ∃ W7, W7 = wr.drewN m := ⟨_, rfl⟩
            rw [← hW7] at HR1 ⊢
            clear hW7
            have hsz1 := HR1.out.2.2.2.size
            go_wp2_with (at_builtin; refine app_lies eiInt rfl _ _ rfl w6.heap.size _ _ _ rfl (HR1.out.1.alloc _) _ _ _ rfl (VS.one _ _ _) (one1 _) ?d1 ?d2 ?d3 ?d4 ?_)
            any_goals (first | omega | (simp; done) | (simp only [List.length_cons, List.length_nil]; omega) | (simp; omega))
            intro g cap W8 hown hgr hat
            have HR2 : Hid (TwoR w6 W8 (.slice (some ⟨g, 0, none⟩) ((fallsTo p (k + 1)).length + 1) cap) u16 (fallsTo p (k + 1 + 1)) (fallsTo (invL p) (k + 1))) := Lib.hid (by
              rw [HV1.out]
              have := TwoR.grow (k := (k : Int) + 1) HR1.out hown hgr (by simpa using hat)
              simpa using this)
            clear hown hgr hat
            go_wp2
            go_loop [18, 19, 20] (fun x y i => ∃ i0 : Nat, i0 ≤ N ∧ i = .int .i64 i0 ∧ (∃ x0 : Nat, x = .int .i64 x0 ∧ Hid (x0 = if A < i0 then A else 0)) ∧ (∃ y0 : Nat, y = .int .i64 y0 ∧ Hid (y0 = if B < i0 then B else 0))) (fun _ _ i => N - (intOf i).toNat)
            case atStart => exact ⟨0, Nat.zero_le _, rfl, ⟨0, rfl, Lib.hid (by simp)⟩, ⟨0, rfl, Lib.hid (by simp)⟩⟩
            case round =>
              obtain ⟨i0, hi0, rfl, ⟨x0, rfl, X0⟩, ⟨y0, rfl, Y0⟩⟩ := hrel
              by_cases hli : i0 < N
              · have ck := HR2.out.2.2.2.cell (K3'.out i0 hli)
                have hna := HA4.out i0 hli; have hnb := HB4.out i0 hli
                obtain ⟨z, hz⟩ : ∃ z, z = gi p i0 := ⟨_, rfl⟩
                have hza : i0 = A → z = (k : Int) + 1 := fun e => by rw [hz, e, HA2.out]; omega
                have hzb : i0 = B → z = (k : Int) + 1 + 1 := fun e => by rw [hz, e, HB2.out]; omega
                have hzbd := pok_bd HP.out.ok (i := i0 + 1) (by omega) (by rw [HPL.out]; omega)
                rw [Nat.add_sub_cancel, HPL.out] at hzbd
                rw [← hz] at ck hna hnb hzbd
                obtain ⟨hz0, hz9⟩ := hzbd
                clear hz
                by_cases eA : i0 = A
                · have e1 : (z == (k : Int) + 1) = true := by simp [hza eA]
                  have e2 : (z == (k : Int) + 1 + 1) = false := by rw [hza eA]; simp; omega
                  have EA := Lib.hid eA
                  clear hna hnb hza hzb eA
                  go_wp2
                  go_round
                  case rel => exact ⟨i0 + 1, by omega, by go_num, ⟨i0, rfl, Lib.hid (by have := EA.out; rw [if_pos (by omega)]; omega)⟩, ⟨y0, rfl, Lib.hid (by have := EA.out; rw [Y0.out]; by_cases hh : B < i0 + 1 <;> by_cases hh2 : B < i0 <;> simp [hh, hh2] <;> omega)⟩⟩
                  case measure => simp [intOf]; omega
                · by_cases eB : i0 = B
                  · have e1 : (z == (k : Int) + 1) = false := by rw [hzb eB]; simp; omega
                    have e2 : (z == (k : Int) + 1 + 1) = true := by simp [hzb eB]
                    have EA := Lib.hid eA; have EB := Lib.hid eB
                    clear hna hnb hza hzb eA eB
                    go_wp2
                    go_round
                    case rel => exact ⟨i0 + 1, by omega, by go_num, ⟨x0, rfl, Lib.hid (by have := EA.out; rw [X0.out]; by_cases hh : A < i0 + 1 <;> by_cases hh2 : A < i0 <;> simp [hh, hh2] <;> omega)⟩, ⟨i0, rfl, Lib.hid (by have := EB.out; rw [if_pos (by omega)]; omega)⟩⟩
                    case measure => simp [intOf]; omega
                  · have e1 : (z == (k : Int) + 1) = false := by simpa using hna eA
                    have e2 : (z == (k : Int) + 1 + 1) = false := by simpa using hnb eB
                    have EA := Lib.hid eA; have EB := Lib.hid eB
                    clear hna hnb hza hzb eA eB
                    go_wp2
                    go_round
                    case rel => exact ⟨i0 + 1, by omega, by go_num, ⟨x0, rfl, Lib.hid (by have := EA.out; rw [X0.out]; by_cases hh : A < i0 + 1 <;> by_cases hh2 : A < i0 <;> simp [hh, hh2] <;> omega)⟩, ⟨y0, rfl, Lib.hid (by have := EB.out; rw [Y0.out]; by_cases hh : B < i0 + 1 <;> by_cases hh2 : B < i0 <;> simp [hh, hh2] <;> omega)⟩⟩
                    case measure => simp [intOf]; omega
              · obtain rfl : x0 = A := by rw [X0.out, if_pos (by omega)]
                obtain rfl : y0 = B := by rw [Y0.out, if_pos (by omega)]
                have hc2 := crosses_calls _ _ p x0 y0 _ (I3.out.ext HR2.out.2.2.2) (by rw [HPL.out]; exact hA1) (by rw [HPL.out]; exact hB1) (by rw [HPL.out]; exact n8)
                rw [HF2.out] at hc2
                have hli2 : ¬ (i0 : Int) < (N : Int) := by omega
                cases hv2 : fallB (invL p) (k + 1) with
                | false =>
                  rw [hv2] at hc2
                  have HC2 := Lib.hid hc2; have HV2 := Lib.hid (fallsTo_no hv2); clear hc2 hv2
                  go_wp2_with fail
                  refine HC2.out.mono ?_
                  rintro e w' ⟨rfl, m2, rfl⟩
                  go_wp2
                  go_roundw
                  case rel => exact ⟨k + 1, by omega, by go_num, Lib.hid (by rw [HV2.out]; exact HR2.out.ext ((Ext.refl _).drewN _))⟩
                  case measure => simp [intOf]; omega
                | true =>
                  rw [hv2] at hc2
                  have HC2 := Lib.hid hc2; have HV2 := Lib.hid (fallsTo_yes (by omega) hv2); clear hc2 hv2
                  go_wp2_with fail
                  refine HC2.out.mono ?_
                  rintro e w' ⟨rfl, m2, rfl⟩
                  have HR3 := Lib.hid (HR2.out.ext ((Ext.refl _).drewN m2))
                  obtain ⟨W9, hW9⟩ : ∃ W9, W9 = W8.drewN m2 := ⟨_, rfl⟩
                  rw [← hW9] at HR3 ⊢
                  clear hW9
                  have hsz3 := HR3.out.2.2.2.size
                  go_wp2_with (at_builtin; refine app_lies eiInt rfl _ _ rfl w6.heap.size _ _ _ rfl (HR3.out.2.1.alloc _) _ _ _ rfl (VS.one _ _ _) (one1 _) ?g1 ?g2 ?g3 ?g4 ?_)
                  any_goals (first | omega | (simp; done) | (simp only [List.length_cons, List.length_nil]; omega) | (simp; omega) | (simp at hsz3 ⊢; omega))
                  intro g cap w' hown hgr hat
                  have HT2 := Lib.hid (TwoR.growR (k := (k : Int) + 1) HR3.out hown hgr (by simpa using hat))
                  clear hown hgr hat
                  go_wp2
                  go_roundw
                  case rel => exact ⟨k + 1, by omega, by go_num, Lib.hid (by rw [HV2.out]; exact HT2.out)⟩
                  case measure => simp [intOf]; omega
        · have hlk' : ¬ (k : Int) + 1 < (N : Int) := by omega
          have hk1 : k + 1 = N := by omega
          obtain ⟨cs, hs⟩ := IS.of_own HR.out.1
          obtain ⟨ct, ht⟩ := IS.of_own HR.out.2.1
          have e1 : fallsTo p (k + 1) = S := by rw [HS.out, hk1, ← HP.out.len]; rfl
          have e2 : fallsTo (invL p) (k + 1) = T := by rw [HT.out, hk1, ← HP.out.inv.len]; rfl
          rw [e1] at hs
          rw [e2] at ht
          have HLs := Lib.hid hs; have HLt := Lib.hid ht
          clear e1 e2 hs ht
          have hx := HR.out.2.2.2
          replace I8 := Lib.hid (I8.out.ext hx); replace I10 := Lib.hid (I10.out.ext hx); replace HX := Lib.hid (HX.out.trans hx)
          clear hx
          have HC := Lib.hid (lv_list S _ _ _ _ _ rfl I8.out HLs.out)
          go_wp2_with fail
          refine HC.out.mono ?_
          clear HC
          rintro e w7 ⟨rfl, x⟩
          replace I10 := Lib.hid (I10.out.ext x); replace HLt := Lib.hid (HLt.out.ext x); replace HX := Lib.hid (HX.out.trans x)
          clear x
          have HC := Lib.hid (lv_list T _ _ _ _ _ rfl I10.out HLt.out)
          go_wp2_with fail
          refine HC.out.mono ?_
          clear HC
          rintro e w8 ⟨rfl, x⟩
          replace HX := Lib.hid (HX.out.trans x)
          clear x
          have HC := Lib.hid (lives_calls w8)
          go_wp2_with fail
          refine HC.out.mono ?_
          clear HC
          rintro e w9 ⟨rfl, x⟩
          replace HX := Lib.hid (HX.out.trans x)
          clear x
          go_wp2
          go_ret
          exact ⟨rfl, HX.out⟩
end Go.Proofs.Ytpcbadagffeehaa
