/- Texts of this claim in one file: libraries and walks. -/
import Derived.Deep.RegionHeld3
import Derived.Test.YthllbcjglcplhaaDoorL4
/- charts.same, Same. -/
namespace Go.Proofs.YthllbcjglcplhaaDoor
set_option linter.unusedVariables false
set_option linter.unusedSimpArgs false
set_option maxRecDepth 8000
open Go Go.RowKit

theorem eqb_true {s t : St} (h : St.eqb s t = true) : s = t := of_decide_eq_true h
theorem eqb_false {s t : St} (h : St.eqb s t = false) : s ≠ t := of_decide_eq_false h

set_option maxHeartbeats 2000000 in
theorem sameS_calls (v1 v2 : Value) (c1 c2 : Nat) (l m : List St) (w : World) (h1 : RS w v1 c1 l) (h2 : RS w v2 c2 m) :
    Calls Tryd.prog 67 #[v1, v2, .func (Fn.func 68) #[] #[]] w fun e w' => e = .returned (.bool (decide (l = m))) ∧ Ext w w' := by
  obtain ⟨ao, n, rfl, hn, hc, hcm, hat⟩ := h1.open
  obtain ⟨ao2, n2, rfl, hn2, hc2, hcm2, hat2⟩ := h2.open
  have hT : n = n2 → (∀ i, i < n → si l i = si m i) → decide (l = m) = true := fun e h => decide_eq_true (si_ext (by omega) (fun i hi => h i (by omega)))
  have hF : (n ≠ n2 ∨ ∃ i, i < n ∧ si l i ≠ si m i) → decide (l = m) = false := fun h => decide_eq_false (fun e => by
    rcases h with h | ⟨i, _, h⟩
    · rw [e] at hn; omega
    · rw [e] at h; exact h rfl)
  generalize decide (l = m) = R at hT hF ⊢
  have HA := Lib.hid hat; have HA2 := Lib.hid hat2; have HT := Lib.hid hT; have HF := Lib.hid hF
  clear hat hat2 hT hF hn hn2 h1 h2
  unfold maxLen at hcm hcm2
  go_enter Tryd.func67, Tryd.ntmps67
  by_cases hl : n = n2
  · subst hl
    go_wp2
    go_loopw [7, 8, 16] (fun _ _ i wr => ∃ k : Nat, k ≤ n ∧ i = .int .i64 k ∧ Hid (Ext w wr) ∧ Hid (∀ i, i < k → si l i = si m i)) (fun _ _ i _ => n - (intOf i).toNat)
    case atStart => exact ⟨0, Nat.zero_le _, rfl, Lib.hid (Ext.refl w), Lib.hid (fun i hi => by omega)⟩
    case round =>
      obtain ⟨k, hk, rfl, Hx, HS⟩ := hrel
      by_cases hlt : k < n
      · obtain ⟨b, o, rfl, a5⟩ := HA.out k hlt
        obtain ⟨b2, o2, rfl, b5⟩ := HA2.out k hlt
        obtain ⟨p0, p1, p2, p3, p4⟩ := a5.ext Hx.out
        have q5 := b5.ext Hx.out
        have hq5 := q5.ext ((Ext.refl wr).alloc (.cells #[.int .u8 (si l k).k, .int .u8 (si l k).y, .int .i64 (si l k).a, .int .i64 (si l k).b, .bool (si l k).f] 49))
        obtain ⟨r0, r1, r2, r3, r4⟩ := hq5
        have hnew := B5.new wr (si l k) 49
        obtain ⟨s0, s1, s2, s3, s4⟩ := hnew.at
        have hcall := fun w => Same1_calls (si l k) (si m k) w
        have hR1 : St.eqb (si l k) (si m k) = false → R = false := fun h => HF.out (.inr ⟨k, hlt, eqb_false h⟩)
        have hR2 : St.eqb (si l k) (si m k) = true → ∀ i, i < k + 1 → si l i = si m i := fun h i hi => by
          by_cases e : i = k
          · rw [e]; exact eqb_true h
          · exact HS.out i (by omega)
        obtain ⟨s, hs⟩ : ∃ s, s = si l k := ⟨_, rfl⟩
        obtain ⟨t, ht⟩ : ∃ t, t = si m k := ⟨_, rfl⟩
        rw [← hs] at p0 p1 p2 p3 p4 hR1 hR2 hcall r0 r1 r2 r3 r4 s0 s1 s2 s3 s4
        rw [← ht] at r0 r1 r2 r3 r4 hR1 hR2 hcall
        unfold St.val at hcall
        simp only [Nat.zero_add] at s0 s1 s2 s3 s4
        generalize St.eqb s t = q at hR1 hR2 hcall
        have HC := Lib.hid hcall; have H1 := Lib.hid hR1; have H2 := Lib.hid hR2
        clear hcall hR1 hR2 hs ht a5 b5 q5 hnew
        go_wp2
        have X1 := Lib.hid (Hx.out.trans ((Ext.refl wr).alloc (.cells #[.int .u8 s.k, .int .u8 s.y, .int .i64 s.a, .int .i64 s.b, .bool s.f] 49)))
        obtain ⟨w1, hw1⟩ : ∃ w1, w1 = wr.alloc (.cells #[.int .u8 s.k, .int .u8 s.y, .int .i64 s.a, .int .i64 s.b, .bool s.f] 49) := ⟨_, rfl⟩
        rw [← hw1] at r0 r1 r2 r3 r4 s0 s1 s2 s3 s4 X1 ⊢
        clear hw1 p0 p1 p2 p3 p4
        go_region_held3 (fun w' => w'.cell? ⟨wr.heap.size, 0, none⟩ = some (.int .u8 s.k) ∧ w'.cell? ⟨wr.heap.size, 1, none⟩ = some (.int .u8 s.y) ∧ w'.cell? ⟨wr.heap.size, 2, none⟩ = some (.int .i64 s.a) ∧ w'.cell? ⟨wr.heap.size, 3, none⟩ = some (.int .i64 s.b) ∧ w'.cell? ⟨wr.heap.size, 4, none⟩ = some (.bool s.f) ∧
          w'.cell? ⟨b2, o2 + k * 5, none⟩ = some (.int .u8 t.k) ∧ w'.cell? ⟨b2, o2 + k * 5 + 1, none⟩ = some (.int .u8 t.y) ∧ w'.cell? ⟨b2, o2 + k * 5 + 2, none⟩ = some (.int .i64 t.a) ∧ w'.cell? ⟨b2, o2 + k * 5 + 3, none⟩ = some (.int .i64 t.b) ∧ w'.cell? ⟨b2, o2 + k * 5 + 4, none⟩ = some (.bool t.f))
          (first | exact ⟨s0, s1, s2, s3, s4, r0, r1, r2, r3, r4⟩ | exact ⟨z0, z1, z2, z3, z4, z5, z6, z7, z8, z9⟩ | go_keep) (first
          | (go_at_call 68; refine (HC.out _).mono ?_; rintro e w2 ⟨rfl, x2⟩; have X2 := Lib.hid (((Ext.refl w1).drewN _).trans x2); have z0 := X2.out.cell s0; have z1 := X2.out.cell s1; have z2 := X2.out.cell s2; have z3 := X2.out.cell s3; have z4 := X2.out.cell s4; have z5 := X2.out.cell r0; have z6 := X2.out.cell r1; have z7 := X2.out.cell r2; have z8 := X2.out.cell r3; have z9 := X2.out.cell r4; clear x2))
        have X3 := Lib.hid (X1.out.trans X2.out)
        cases q
        · have hR := H1.out rfl
          subst hR
          clear H1 H2 HC
          go_wp2
          go_ret
          exact ⟨rfl, X3.out⟩
        · have HS2 := Lib.hid (H2.out rfl)
          clear H1 H2 HC
          go_wp2
          go_roundw
          case rel => exact ⟨k + 1, by omega, by go_num, X3, HS2⟩
          case measure => simp [intOf]; omega
      · obtain rfl : n = k := by omega
        have hR := HT.out trivial HS.out
        subst hR
        go_wp2
        go_ret
        exact ⟨rfl, Hx.out⟩
  · have hR := HF.out (.inl hl)
    subst hR
    have t1 : ¬ ((n : Int) = n2) := by omega
    go_wp2
    go_ret
    exact ⟨rfl, Ext.refl w⟩

theorem SameR_calls (v1 v2 : Value) (c1 c2 : Nat) (l m : List St) (w : World) (h1 : RS w v1 c1 l) (h2 : RS w v2 c2 m) :
    Calls Tryd.prog 66 #[v1, v2] w fun e w' => e = .returned (.bool (decide (l = m))) ∧ Ext w w' := by
  have HC := Lib.hid (sameS_calls v1 v2 c1 c2 l m w h1 h2)
  obtain ⟨ao, n, rfl, q1⟩ := h1.open
  obtain ⟨ao2, n2, rfl, q2⟩ := h2.open
  clear h1 h2 q1 q2
  go_enter Tryd.func66, Tryd.ntmps66
  go_wp2_with fail
  refine HC.out.mono ?_
  rintro e w1 ⟨rfl, x1⟩
  have X1 := Lib.hid x1
  clear x1 HC
  go_wp2
  go_ret
  exact ⟨rfl, X1.out⟩

theorem sw_ext {l m : List (List St)} (hl : l.length = m.length) (h : ∀ i, i < l.length → sw l i = sw m i) : l = m := by
  apply List.ext_getElem hl
  intro i h1 h2
  have := h i h1
  rwa [sw_of_lt h1, sw_of_lt h2] at this
set_option maxHeartbeats 2000000 in
theorem sameR_calls (v1 v2 : Value) (c1 c2 : Nat) (l m : List (List St)) (w : World) (h1 : RR w v1 c1 l) (h2 : RR w v2 c2 m) :
    Calls Tryd.prog 65 #[v1, v2, .func (Fn.func 66) #[] #[]] w fun e w' => e = .returned (.bool (decide (l = m))) ∧ Ext w w' := by
  obtain ⟨ao, n, rfl, hn, hc, hcm, hat⟩ := h1.open
  obtain ⟨ao2, n2, rfl, hn2, hc2, hcm2, hat2⟩ := h2.open
  have hT : n = n2 → (∀ i, i < n → sw l i = sw m i) → decide (l = m) = true := fun e h => decide_eq_true (sw_ext (by omega) (fun i hi => h i (by omega)))
  have hF : (n ≠ n2 ∨ ∃ i, i < n ∧ sw l i ≠ sw m i) → decide (l = m) = false := fun h => decide_eq_false (fun e => by
    rcases h with h | ⟨i, _, h⟩
    · rw [e] at hn; omega
    · rw [e] at h; exact h rfl)
  generalize decide (l = m) = R at hT hF ⊢
  have HA := Lib.hid hat; have HA2 := Lib.hid hat2; have HT := Lib.hid hT; have HF := Lib.hid hF
  clear hat hat2 hT hF hn hn2 h1 h2
  unfold maxLen at hcm hcm2
  go_enter Tryd.func65, Tryd.ntmps65
  by_cases hl : n = n2
  · subst hl
    go_wp2
    go_loopw [7, 8, 16] (fun _ _ i wr => ∃ k : Nat, k ≤ n ∧ i = .int .i64 k ∧ Hid (Ext w wr) ∧ Hid (∀ i, i < k → sw l i = sw m i)) (fun _ _ i _ => n - (intOf i).toNat)
    case atStart => exact ⟨0, Nat.zero_le _, rfl, Lib.hid (Ext.refl w), Lib.hid (fun i hi => by omega)⟩
    case round =>
      obtain ⟨k, hk, rfl, Hx, HS⟩ := hrel
      by_cases hlt : k < n
      · obtain ⟨b, o, a, p, d, rfl, p0, r1⟩ := HA.out k hlt
        obtain ⟨b2, o2, a2, p2, d2, rfl, q0, r2⟩ := HA2.out k hlt
        replace p0 := Hx.out.cell p0
        replace q0 := Hx.out.cell q0
        have hcall := SameR_calls _ _ _ _ _ _ wr (r1.ext Hx.out) (r2.ext Hx.out)
        have hR1 : decide (sw l k = sw m k) = false → R = false := fun h => HF.out (.inr ⟨k, hlt, of_decide_eq_false h⟩)
        have hR2 : decide (sw l k = sw m k) = true → ∀ i, i < k + 1 → sw l i = sw m i := fun h i hi => by
          by_cases e : i = k
          · rw [e]; exact of_decide_eq_true h
          · exact HS.out i (by omega)
        generalize decide (sw l k = sw m k) = q at hR1 hR2 hcall
        have HC := Lib.hid hcall; have H1 := Lib.hid hR1; have H2 := Lib.hid hR2
        clear hcall hR1 hR2 r1 r2
        go_wp2_with fail
        refine HC.out.mono ?_
        rintro e w2 ⟨rfl, x2⟩
        have X3 := Lib.hid (Hx.out.trans x2)
        clear x2
        cases q
        · have hR := H1.out rfl
          subst hR
          clear H1 H2 HC
          go_wp2
          go_ret
          exact ⟨rfl, X3.out⟩
        · have HS2 := Lib.hid (H2.out rfl)
          clear H1 H2 HC
          go_wp2
          go_roundw
          case rel => exact ⟨k + 1, by omega, by go_num, X3, HS2⟩
          case measure => simp [intOf]; omega
      · obtain rfl : n = k := by omega
        have hR := HT.out trivial HS.out
        subst hR
        go_wp2
        go_ret
        exact ⟨rfl, Hx.out⟩
  · have hR := HF.out (.inl hl)
    subst hR
    have t1 : ¬ ((n : Int) = n2) := by omega
    go_wp2
    go_ret
    exact ⟨rfl, Ext.refl w⟩

theorem CSame_calls (v1 v2 : Value) (c1 c2 : Nat) (l m : List (List St)) (w : World) (h1 : RR w v1 c1 l) (h2 : RR w v2 c2 m) :
    Calls Tryd.prog 43 #[.agg #[v1], .agg #[v2]] w fun e w' => e = .returned (.bool (decide (l = m))) ∧ Ext w w' := by
  have HC := Lib.hid (fun w' (x : Ext w w') => sameR_calls v1 v2 c1 c2 l m w' (h1.ext x) (h2.ext x))
  obtain ⟨ao, n, rfl, q1⟩ := h1.open
  obtain ⟨ao2, n2, rfl, q2⟩ := h2.open
  clear h1 h2 q1 q2
  go_enter Tryd.func43, Tryd.ntmps43
  go_wp2_with fail
  refine (HC.out _ (((Ext.refl w).alloc _).alloc _)).mono ?_
  rintro e w1 ⟨rfl, x1⟩
  have X1 := Lib.hid ((((Ext.refl w).alloc _).alloc _).trans x1)
  clear x1 HC
  go_wp2
  go_ret
  exact ⟨rfl, X1.out⟩
end Go.Proofs.YthllbcjglcplhaaDoor
