/- Texts of this claim in one file: libraries and walks. -/
import Derived.Deep.RegionHeld3
import Derived.Deep.QuietTactic
import Derived.BigQuiet
import Derived.Outline
import Derived.Test.YtlmkcojimhbmiaaL1
/- Contract of charts.checkRows. -/
namespace Go.Proofs.Ytlmkcojimhbmiaa
set_option linter.unusedVariables false
set_option linter.unusedSimpArgs false
set_option maxRecDepth 8000
open Go Go.RowKit

theorem cerr_long {rows : List (List St)} (h : 31 < rows.length) : cerr rows = 3 := by unfold cerr; rw [if_pos h]
theorem cerr_even {rows : List (List St)} (h : rows.length ≤ 31) (h2 : rows.length % 2 = 0) : cerr rows = 1 := by unfold cerr; rw [if_neg (by omega), if_pos h2]
theorem cerr_row {rows : List (List St)} (h : rows.length ≤ 31) (h2 : rows.length % 2 = 1) {k : Nat} (hk : k < rows.length) (hg : ∀ i, i < k → rchk (sw rows i) = 0) (hb : rchk (sw rows k) ≠ 0) : cerr rows = rchk (sw rows k) := by
  have := ferr_at rows k hk hg hb
  unfold cerr; rw [if_neg (by omega), if_neg (by omega), this, if_pos hb]
theorem cerr_fit {rows : List (List St)} (h : rows.length ≤ 31) (h2 : rows.length % 2 = 1) (hg : ∀ i, i < rows.length → rchk (sw rows i) = 0) {k : Nat} (hk : k + 1 < rows.length) (hb : rneed (sw rows (k + 1)) ≠ rmake (sw rows k)) : cerr rows = 14 := by
  unfold cerr
  rw [if_neg (by omega), if_neg (by omega), ferr_ok rows hg, if_neg (by omega), if_neg]
  unfold fitB
  rw [List.all_eq_true]
  intro hh
  have := hh k (List.mem_range.2 (by omega))
  exact hb (by simpa using this)
theorem cerr_ok {rows : List (List St)} (h : rows.length ≤ 31) (h2 : rows.length % 2 = 1) (hg : ∀ i, i < rows.length → rchk (sw rows i) = 0) (hf : ∀ k, k + 1 < rows.length → rneed (sw rows (k + 1)) = rmake (sw rows k)) : cerr rows = 0 := by
  unfold cerr
  rw [if_neg (by omega), if_neg (by omega), ferr_ok rows hg, if_neg (by omega), if_pos]
  unfold fitB
  rw [List.all_eq_true]
  intro k hk
  have := List.mem_range.1 hk
  simpa using hf k (by omega)

set_option maxHeartbeats 4000000 in
theorem checkRows_calls (v : Value) (c : Nat) (rows : List (List St)) (w : World) (h : RR w v c rows) : Calls Try.prog 58 #[v] w fun e w' => e = .returned (.int .i64 (cerr rows)) ∧ Ext w w' := by
  obtain ⟨ao, n, rfl, hn, hc, hcm, hat⟩ := h.open
  unfold maxLen at hcm
  clear h
  by_cases h31 : 31 < n
  · have hr := Lib.hid (cerr_long (rows := rows) (by omega))
    have h31' : (31 : Int) < (n : Int) := by omega
    clear hn hat h31
    go_enter Try.func58, Try.ntmps58
    go_wp2
    go_ret
    exact ⟨ret_int hr.out.symm, Ext.refl _⟩
  have h31' : ¬ (31 : Int) < (n : Int) := by omega
  by_cases h2 : n % 2 = 0
  · have hr := Lib.hid (cerr_even (rows := rows) (by omega) (by omega))
    have h2' : ((n : Int) % 2 == 0) = true := by rw [beq_iff_eq]; omega
    clear hn hat h31 h2
    go_enter Try.func58, Try.ntmps58
    go_wp2
    go_ret
    exact ⟨ret_int hr.out.symm, Ext.refl _⟩
  have h2' : ((n : Int) % 2 == 0) = false := by rw [beq_eq_false_iff_ne]; omega
  have hrow : ∀ k, k < n → (∀ i, i < k → rchk (sw rows i) = 0) → rchk (sw rows k) ≠ 0 → cerr rows = rchk (sw rows k) := fun k hk hg hb => cerr_row (by omega) (by omega) (by omega) hg hb
  have hfit : (∀ i, i < n → rchk (sw rows i) = 0) → ∀ k, k + 1 < n → rneed (sw rows (k + 1)) ≠ rmake (sw rows k) → cerr rows = 14 := fun hg k hk hb => cerr_fit (by omega) (by omega) (fun i hi => hg i (by omega)) (by omega) hb
  have hok : (∀ i, i < n → rchk (sw rows i) = 0) → (∀ k, k + 1 < n → rneed (sw rows (k + 1)) = rmake (sw rows k)) → cerr rows = 0 := fun hg hf => cerr_ok (by omega) (by omega) (fun i hi => hg i (by omega)) (fun k hk => hf k (by omega))
  obtain ⟨R, hR⟩ : ∃ R, R = cerr rows := ⟨_, rfl⟩
  rw [← hR] at hrow hfit hok ⊢
  have HA := Lib.hid hat; have HRow := Lib.hid hrow; have HFit := Lib.hid hfit; have HOk := Lib.hid hok
  have hn31 : n ≤ 31 := by omega
  have hn1 : 1 ≤ n := by omega
  clear hat hrow hfit hok hn hR h31 h2
  go_enter Try.func58, Try.ntmps58
  go_wp2
  go_loopw [4, 5, 16] (fun _ _ i wr => ∃ k : Nat, k ≤ n ∧ i = .int .i64 k ∧ Hid (Ext w wr) ∧ Hid (∀ i, i < k → rchk (sw rows i) = 0)) (fun _ _ i _ => n - (intOf i).toNat)
  case atStart => exact ⟨0, Nat.zero_le _, rfl, Lib.hid (Ext.refl w), Lib.hid (fun i hi => by omega)⟩
  case round =>
    obtain ⟨k, hk, rfl, Hx, HG⟩ := hrel
    by_cases hlt : k < n
    · obtain ⟨b, o, a, m, d, rfl, hcl, hrs⟩ := HA.out k hlt
      replace hcl := Hx.out.cell hcl
      have hcall := CheckRow_calls _ d (sw rows k) wr (hrs.ext Hx.out)
      have hbk := HRow.out k hlt HG.out
      have hnx : rchk (sw rows k) = 0 → ∀ i, i < k + 1 → rchk (sw rows i) = 0 := fun h0 i hi => by
        by_cases e : i = k
        · rw [e]; exact h0
        · exact HG.out i (by omega)
      obtain ⟨q, hq⟩ : ∃ q, q = rchk (sw rows k) := ⟨_, rfl⟩
      rw [← hq] at hcall hbk hnx
      have HCL := Lib.hid hcall; have HBk := Lib.hid hbk; have HNx := Lib.hid hnx
      clear hcall hbk hq hrs hnx
      go_wp2_with fail
      refine HCL.out.mono ?_
      rintro e w1 ⟨rfl, x1⟩
      have HX := Lib.hid (Hx.out.trans x1)
      clear x1 hcl HCL
      by_cases hq0 : q = 0
      · have hq' : (q != 0) = false := by rw [bne, beq_iff_eq.2 hq0]; rfl
        have HN2 := Lib.hid (HNx.out hq0)
        clear hq0 HNx
        go_wp2
        go_roundw
        case rel => exact ⟨k + 1, by omega, by go_num, HX, HN2⟩
        case measure => simp [intOf]; omega
      · have hq' : (q != 0) = true := by rw [bne, beq_eq_false_iff_ne.2 hq0]; rfl
        have HB2 := Lib.hid (HBk.out hq0)
        clear hq0 HBk
        go_wp2
        go_ret
        exact ⟨ret_int HB2.out.symm, HX.out⟩
    · obtain rfl : n = k := by omega
      obtain ⟨wo, rfl⟩ : ∃ wo : World, wo = wr := ⟨_, rfl⟩
      clear hlt hk HRow
      go_wp2
      go_loopw [6] (fun i wr => ∃ k : Nat, k + 1 ≤ n ∧ i = .int .i64 ((k : Int) + 1) ∧ Hid (Ext w wr) ∧ Hid (∀ j, j < k → rneed (sw rows (j + 1)) = rmake (sw rows j))) (fun i _ => n - (intOf i).toNat)
      case atStart => exact ⟨0, by omega, rfl, Hx, Lib.hid (fun j hj => by omega)⟩
      case round =>
        obtain ⟨k, hk, rfl, Hy, HF⟩ := hrel
        by_cases hlt : k + 1 < n
        · obtain ⟨b, o, a, m, d, rfl, hcl, hrs⟩ := HA.out (k + 1) hlt
          obtain ⟨b', o', a', m', d', hbo, hcl', hrs'⟩ := HA.out k (by omega)
          obtain ⟨rfl, rfl⟩ : b = b' ∧ o = o' := by simpa using hbo
          replace hcl := Hy.out.cell hcl; replace hcl' := Hy.out.cell hcl'
          have hg1 := rchk_zero (HG.out (k + 1) hlt)
          have hg2 := rchk_zero (HG.out k (by omega))
          have hN := fun w' (x : Ext wr w') => CNeeds_calls _ d (sw rows (k + 1)) w' ((hrs.ext Hy.out).ext x) (by omega)
          have hM := fun w' (x : Ext wr w') => CMakes_calls _ d' (sw rows k) w' ((hrs'.ext Hy.out).ext x) (by omega)
          have hbk := HFit.out HG.out k hlt
          have hnx : rneed (sw rows (k + 1)) = rmake (sw rows k) → ∀ j, j < k + 1 → rneed (sw rows (j + 1)) = rmake (sw rows j) := fun h0 i hi => by
            by_cases e : i = k
            · rw [e]; exact h0
            · exact HF.out i (by omega)
          generalize rneed (sw rows (k + 1)) = A at hN hbk hnx
          generalize rmake (sw rows k) = B at hM hbk hnx
          have HN := Lib.hid hN; have HM := Lib.hid hM; have HBk := Lib.hid hbk; have HNx := Lib.hid hnx
          clear hN hM hbk hnx hg1 hg2 hrs hrs' hbo
          have t1 : (0 : Int) ≤ (k : Int) + 1 := by omega
          have t2 : ((k : Int) + 1).toNat = k + 1 := by omega
          have t3 : (k : Int) + 1 < n := by omega
          have t4 : IntKind.i64.wrap ((k : Int) + 1 - 1) = (k : Int) := by rw [show (k : Int) + 1 - 1 = k by omega]; exact IntWalk.i64_in _ ⟨by omega, by omega⟩
          have t5 : (k : Int) < n := by omega
          have t6 : IntKind.i64.wrap (k : Int) = (k : Int) := IntWalk.i64_in _ ⟨by omega, by omega⟩
          have t7 : (0 : Int) ≤ (k : Int) := by omega
          go_wp2
          go_region_held3 (fun w' => w'.cell? ⟨b, o + (k + 1), none⟩ = some (.slice a m d) ∧ w'.cell? ⟨b, o + k, none⟩ = some (.slice a' m' d')) (first | exact ⟨hcl, hcl'⟩ | exact ⟨q0, q1⟩ | exact ⟨p0, p1⟩ | go_keep) (first
            | (go_at_call 36; (refine (HN.out _ ?_).mono ?_); (focus (repeat (first | (with_reducible exact Ext.refl _) | (with_reducible exact X5.out) | (with_reducible apply Ext.drew) | (with_reducible apply Ext.drewN)))); rintro e w4 ⟨rfl, x4⟩; have X4 : Hid (Ext wr w4) := Lib.hid (Ext.trans (by (repeat (first | (with_reducible exact Ext.refl _) | (with_reducible exact X5.out) | (with_reducible apply Ext.drew) | (with_reducible apply Ext.drewN)))) x4); have q0 := X4.out.cell hcl; have q1 := X4.out.cell hcl'; clear x4)
            | (go_at_call 42; (refine (HM.out _ ?_).mono ?_); (focus (repeat (first | (with_reducible exact Ext.refl _) | (with_reducible exact X4.out) | (with_reducible apply Ext.drew) | (with_reducible apply Ext.drewN)))); rintro e w5 ⟨rfl, x5⟩; have X5 : Hid (Ext wr w5) := Lib.hid (Ext.trans (by (repeat (first | (with_reducible exact Ext.refl _) | (with_reducible exact X4.out) | (with_reducible apply Ext.drew) | (with_reducible apply Ext.drewN)))) x5); have p0 := X5.out.cell hcl; have p1 := X5.out.cell hcl'; clear x5))
          have HX := Lib.hid (Hy.out.trans X5.out)
          clear q0 q1 p0 p1 X4 X5 hcl hcl' HN HM t1 t2 t3 t4 t5 t6 t7
          by_cases hq : A = B
          · have hq' : (A != B) = false := by rw [bne, beq_iff_eq.2 hq]; rfl
            have HN2 := Lib.hid (HNx.out hq)
            clear hq HNx HBk
            go_wp2
            go_roundw
            case rel => exact ⟨k + 1, by omega, by go_num, HX, HN2⟩
            case measure => simp [intOf]; omega
          · have hq' : (A != B) = true := by rw [bne, beq_eq_false_iff_ne.2 hq]; rfl
            have HB2 := Lib.hid (HBk.out hq)
            clear hq HNx HBk
            go_wp2
            go_ret
            exact ⟨ret_int HB2.out.symm, HX.out⟩
        · obtain rfl : n = k + 1 := by omega
          have hr := Lib.hid (HOk.out HG.out (fun j hj => HF.out j (by omega)))
          go_wp2
          go_ret
          exact ⟨ret_int hr.out.symm, Hy.out⟩
end Go.Proofs.Ytlmkcojimhbmiaa
/- Contract of stitches.Loads. -/
namespace Go.Proofs.Ytlmkcojimhbmiaa
set_option linter.unusedVariables false
set_option linter.unusedSimpArgs false
set_option maxRecDepth 8000
open Go Go.RowKit

/-- The error of a stitch on some slots. -/
def St.lerr (s : St) (xs : List Int) : Int :=
  if s.chk ≠ 0 then 1 else if (xs.length : Int) ≠ s.need then 5 else if xs.any (fun n => decide (n < 1) || decide (3 < n)) then 1
  else if s.k = 4 ∨ s.k = 5 then (if 4 < gi xs 0 + gi xs 1 then 9 else 0)
  else if s.k = 6 ∧ gi xs 0 = 3 then 9 else 0
/-- The numbers of loops that it makes. -/
def St.lmade (s : St) (xs : List Int) : List Int :=
  if s.lerr xs ≠ 0 then [] else if s.k = 6 then [gi xs 0 + 1] else if s.k = 7 then [gi xs 0] else List.replicate s.make.toNat 1

theorem lerr_chk {s : St} {xs : List Int} (h : s.chk ≠ 0) : s.lerr xs = 1 := by unfold St.lerr; rw [if_pos h]
theorem lerr_len {s : St} {xs : List Int} (h : s.chk = 0) (hl : (xs.length : Int) ≠ s.need) : s.lerr xs = 5 := by unfold St.lerr; rw [if_neg (by omega), if_pos hl]
theorem lerr_bad {s : St} {xs : List Int} (h : s.chk = 0) (hl : (xs.length : Int) = s.need) {i : Nat} (hi : i < xs.length) (hb : gi xs i < 1 ∨ 3 < gi xs i) : s.lerr xs = 1 := by
  unfold St.lerr; rw [if_neg (by omega), if_neg (by omega), if_pos]
  rw [List.any_eq_true]
  exact ⟨_, gi_mem hi, by simpa using hb⟩
theorem lerr_in {s : St} {xs : List Int} (h : s.chk = 0) (hl : (xs.length : Int) = s.need) (hg : ∀ i, i < xs.length → 1 ≤ gi xs i ∧ gi xs i ≤ 3) :
    s.lerr xs = if s.k = 4 ∨ s.k = 5 then (if 4 < gi xs 0 + gi xs 1 then 9 else 0) else if s.k = 6 ∧ gi xs 0 = 3 then 9 else 0 := by
  unfold St.lerr; rw [if_neg (by omega), if_neg (by omega), if_neg]
  rw [List.any_eq_true]
  rintro ⟨x, hx, hb⟩
  have := gi_all (P := fun x => 1 ≤ x ∧ x ≤ 3) hg x hx
  simp at hb; omega
theorem lmade_err {s : St} {xs : List Int} (h : s.lerr xs ≠ 0) : s.lmade xs = [] := by unfold St.lmade; rw [if_pos h]

/-- A row of ones of the call's own: the first k are laid. -/
def Ones (w wr : World) (R N k : Nat) : Prop := Ext w wr ∧ ∃ f, wr.rowIs R 3 N f ∧ (∀ i, i < k → f i = .int .i64 1)

set_option maxHeartbeats 4000000 in
theorem SLoads_calls (s : St) (v : Value) (c : Nat) (xs : List Int) (w : World) (h : IS .i64 w v c xs) :
    Calls Try.prog 59 #[s.val, v] w (RetIE .i64 w (s.lmade xs).length (s.lmade xs) (s.lerr xs)) := by
  obtain ⟨a1, n, c1, rfl, hn, rfl, h1⟩ := h.out
  have hcm : c1 ≤ maxLen := by obtain ⟨_, h2, _⟩ := h1.open; exact h2
  have hnc := h1.len.2.2
  rw [← hn] at hnc
  unfold maxLen at hcm
  have hc := SCheck_calls s
  have hN := SNeeds_calls s
  have hM := SMakes_calls s
  have hcc := St.chk_cases s
  have hok := St.chk_ok (s := s)
  have hnb := St.need_bd s
  have hmb := St.make_bd s
  have hB := fun (_ : Nat) => B5.new w s 67
  have Hc := Lib.hid hc; have HN := Lib.hid hN; have HM := Lib.hid hM; have HB := Lib.hid hB; have H1 := Lib.hid h1; have Hn := Lib.hid hn
  clear hc hN hM hB h h1 hn
  rcases hcc with hc0 | hc1
  · have herr : ∀ r : Int, r ≠ 0 → s.lerr xs = r → ∀ w', Ext w w' → RetIE .i64 w (s.lmade xs).length (s.lmade xs) (s.lerr xs) (.returned (.tuple #[.slice none 0 0, .int .i64 r])) w' := fun r h0 hr w' x => by
      rw [lmade_err (by rw [hr]; exact h0), hr]; exact ⟨_, rfl, IS.nil _ _, x⟩
    have Herr := Lib.hid herr
    have hchk := Lib.hid hc0
    clear herr
    obtain ⟨k1, k2, k3⟩ := hok hc0
    clear hok
    have hlen : (n : Int) ≠ s.need → s.lerr xs = 5 := fun hl => lerr_len hc0 (by rw [← Hn.out]; exact hl)
    have hbad : (n : Int) = s.need → ∀ i, i < n → (gi xs i < 1 ∨ 3 < gi xs i) → s.lerr xs = 1 := fun hl i hi hb => lerr_bad hc0 (by rw [← Hn.out]; exact hl) (by rw [← Hn.out]; exact hi) hb
    have hin : (n : Int) = s.need → (∀ i, i < n → 1 ≤ gi xs i ∧ gi xs i ≤ 3) → s.lerr xs = if s.k = 4 ∨ s.k = 5 then (if 4 < gi xs 0 + gi xs 1 then 9 else 0) else if s.k = 6 ∧ gi xs 0 = 3 then 9 else 0 := fun hl hg => lerr_in hc0 (by rw [← Hn.out]; exact hl) (fun i hi => hg i (by rw [Hn.out]; exact hi))
    have hneed : s.need = if s.k = 3 then 0 else if s.k = 4 ∨ s.k = 5 then 2 else if s.k = 8 then s.a + s.b else 1 := by unfold St.need; rw [if_neg (by omega)]
    have hmake : s.make = if s.k = 8 then s.a + s.b else 1 := by unfold St.make; rw [if_neg (by omega)]
    have hmd : s.lerr xs = 0 → s.lmade xs = if s.k = 6 then [gi xs 0 + 1] else if s.k = 7 then [gi xs 0] else List.replicate s.make.toNat 1 := fun h0 => by unfold St.lmade; rw [if_neg (by omega)]
    obtain ⟨M, hMM⟩ : ∃ M : Nat, s.make = M := ⟨s.make.toNat, by omega⟩
    have Hneed := Lib.hid hneed; have Hmake := Lib.hid hmake; have Hlen := Lib.hid hlen; have Hbad := Lib.hid hbad; have Hin := Lib.hid hin; have Hmd := Lib.hid hmd; have HMM := Lib.hid hMM
    clear hneed hmake hlen hbad hin hmd
    rw [hMM] at hmb
    replace Hc := Lib.hid (show ∀ w, Calls Try.prog 44 #[s.val] w fun e w' => e = .returned (.int .i64 0) ∧ Ext w w' from fun w => by have := Hc.out w; rw [hc0] at this; exact this)
    replace HM := Lib.hid (show ∀ w, Calls Try.prog 55 #[s.val] w fun e w' => e = .returned (.int .i64 M) ∧ Ext w w' from fun w => by have := HM.out w; rw [hMM] at this; exact this)
    clear hc0 hMM
    obtain ⟨D, hD⟩ : ∃ D, D = s.need := ⟨_, rfl⟩
    rw [← hD] at hnb HN Hlen Hbad Hin Hneed
    clear hD
    have hmk := run_make_row' (P := Try.prog) 55 3 (.int .i64 0) 8 Try.underlying55 (by kernel_rfl) rfl .i64 .i64 M (by omega) (by omega)
    have hB5 : ∀ w', Ext (w.alloc (.cells #[.int .u8 s.k, .int .u8 s.y, .int .i64 s.a, .int .i64 s.b, .bool s.f] 67)) w' → At5 w' w.heap.size 0 s := fun w' x => ((HB.out 0).ext x).at
    have HB5 := Lib.hid hB5
    clear hB5 HB
    unfold St.val at *
    go_enter Try.func59, Try.ntmps59
    go_wp2_with fail
    refine (Hc.out _).mono ?_
    rintro e w1 ⟨rfl, x1⟩
    have X1 := Lib.hid x1
    obtain ⟨c0, c1', c2, c3, c4⟩ := HB5.out _ x1
    simp only [Nat.zero_add] at c1' c2 c3 c4
    clear x1 Hc
    go_wp2_with fail
    refine (HN.out _).mono ?_
    rintro e w2 ⟨rfl, x2⟩
    replace X1 := Lib.hid (X1.out.trans x2)
    clear x2 c0 c1' c2 c3 c4 HN
    by_cases hl : (n : Int) = D
    · have hl' : ((n : Int) != D) = false := by rw [bne, beq_iff_eq.2 hl]; rfl
      have Hb2 := Lib.hid (Hbad.out hl)
      have Hi2 := Lib.hid (Hin.out hl)
      have Hl := Lib.hid hl
      clear hl Hlen Hbad Hin
      go_wp2
      clear hl'
      go_loop [7, 20] (fun _ i => ∃ k : Nat, k ≤ n ∧ i = .int .i64 k ∧ Hid (∀ i, i < k → 1 ≤ gi xs i ∧ gi xs i ≤ 3)) (fun _ i => n - (intOf i).toNat)
      case atStart => exact ⟨0, Nat.zero_le _, rfl, Lib.hid (fun i hi => by omega)⟩
      case round =>
        obtain ⟨j, hj, rfl, HG⟩ := hrel
        by_cases hlt : j < n
        · obtain ⟨b, o, rfl, hcl⟩ := (H1.out.ext (((Ext.refl w).alloc _).trans X1.out)).at hlt
          have hck := hcl j hlt
          have hbk := Hb2.out j hlt
          have hnx : 1 ≤ gi xs j → gi xs j ≤ 3 → ∀ i, i < j + 1 → 1 ≤ gi xs i ∧ gi xs i ≤ 3 := fun h1 h2 i hi => by
            by_cases e : i = j
            · rw [e]; exact ⟨h1, h2⟩
            · exact HG.out i (by omega)
          generalize gi xs j = x at hck hbk hnx
          have HBk := Lib.hid hbk; have HNx := Lib.hid hnx
          clear hcl hbk hnx
          by_cases y1 : x < 1
          · have hf := Lib.hid (HBk.out (.inl y1))
            go_wp2
            go_ret2
            exact Herr.out 1 (by decide) hf.out _ (((Ext.refl w).alloc _).trans X1.out)
          · by_cases y2 : 3 < x
            · have hf := Lib.hid (HBk.out (.inr y2))
              go_wp2
              go_ret2
              exact Herr.out 1 (by decide) hf.out _ (((Ext.refl w).alloc _).trans X1.out)
            · have HN2 := Lib.hid (HNx.out (by omega) (by omega))
              go_wp2
              go_round
              case rel => exact ⟨j + 1, by omega, by go_num, HN2⟩
              case measure => simp [intOf]; omega
        · obtain rfl : n = j := by omega
          have Hi3 := Lib.hid (Hi2.out HG.out)
          obtain ⟨c0, c1', c2, c3, c4⟩ := HB5.out _ X1.out
          simp only [Nat.zero_add] at c1' c2 c3 c4
          clear Hb2 Hi2 hlt
          go_wp2_with fail
          refine (HM.out _).mono ?_
          rintro e w3 ⟨rfl, x3⟩
          replace X1 := Lib.hid (X1.out.trans x3)
          clear x3 c0 c1' c2 c3 c4 HM
          obtain ⟨w0, hw0⟩ : ∃ w0 : World, w0 = w3 := ⟨_, rfl⟩
          go_wp2
          go_loopw [9, 36] (fun _ i wr => ∃ j : Nat, j ≤ M ∧ i = .int .i64 j ∧ Hid (Ones w3 wr w3.heap.size M j)) (fun _ i _ => M - (intOf i).toNat)
          case atStart => exact ⟨0, Nat.zero_le _, rfl, Lib.hid ⟨(Ext.refl w3).alloc _, _, World.rowIs_made _ _ _ _, fun i hi => by omega⟩⟩
          case round =>
            obtain ⟨j, hj, rfl, HO⟩ := hrel
            by_cases hlt : j < M
            · obtain ⟨f, hrow, hf⟩ := HO.out.2
              have hst := hrow.cell (i := j) (by omega)
              have hfz := hrow.frozen j
              have hnx : Ones w3 (wr.setCell ⟨w3.heap.size, j, none⟩ (.int .i64 1)) w3.heap.size M (j + 1) := ⟨HO.out.1.setCell (Nat.le_refl _) _, _, hrow.set j _, fun i hi => by
                by_cases e : i = j
                · rw [if_pos e]
                · rw [if_neg e]; exact hf i (by omega)⟩
              have HNx := Lib.hid hnx
              clear hrow hf hnx
              go_wp2
              go_roundw
              case rel => exact ⟨j + 1, by omega, by go_num, HNx⟩
              case measure => simp [intOf]; omega
            · obtain rfl : M = j := by omega
              clear hlt hj
              obtain ⟨c0, _, _, _, _⟩ := HB5.out _ (X1.out.trans HO.out.1)
              have Xw := Lib.hid (((Ext.refl w).alloc _).trans (X1.out.trans HO.out.1))
              have hI := H1.out.ext Xw.out
              have Hgi := Lib.hid (fun i (hi : i < n) => HG.out i hi)
              obtain ⟨_, f, hrow, hf⟩ := HO.out
              have hfin : ∀ (w' : World) (g : Nat → Value) (ys : List Int), w'.rowIs w3.heap.size 3 M g → ys.length = M → (∀ i, i < M → g i = .int .i64 (gi ys i)) → s.lerr xs = 0 → s.lmade xs = ys → Ext w w' → RetIE .i64 w (s.lmade xs).length (s.lmade xs) (s.lerr xs) (.returned (.tuple #[.slice (some ⟨w3.heap.size, 0, none⟩) M M, .int .i64 0])) w' := fun w' g ys hr hy hg he hm hx => by
                rw [hm, he, hy]
                exact ⟨_, rfl, IS.of_row hr hy.symm (by unfold maxLen; omega) hg, hx⟩
              have Hfin := Lib.hid hfin; have Hrow := Lib.hid hrow; have Hf := Lib.hid hf; have HI := Lib.hid hI
              have hones : s.lerr xs = 0 → s.k ≠ 6 → s.k ≠ 7 → RetIE .i64 w (s.lmade xs).length (s.lmade xs) (s.lerr xs) (.returned (.tuple #[.slice (some ⟨w3.heap.size, 0, none⟩) M M, .int .i64 0])) wr := fun he h6 h7 => by
                refine Hfin.out wr f (List.replicate M 1) Hrow.out (by simp) (fun i hi => ?_) he ?_ Xw.out
                · rw [Hf.out i hi, gi_of_lt (by simpa using hi)]; simp
                · rw [Hmd.out he, if_neg h6, if_neg h7, HMM.out]; rfl
              have Hones := Lib.hid hones
              clear hfin hrow hf hI hones HG HO hw0
              by_cases k4 : s.k = 4 ∨ s.k = 5
              · have hD2 : n = 2 := by
                  have := Hneed.out
                  rw [if_neg (by omega), if_pos k4] at this
                  have := Hl.out
                  omega
                subst hD2
                obtain ⟨b, o, rfl, hcl⟩ := HI.out.at (i := 0) (by omega)
                have e0 := hcl 0 (by omega)
                have e1 := hcl 1 (by omega)
                rw [Nat.add_zero] at e0
                obtain ⟨g1, g2⟩ := Hgi.out 0 (by omega)
                obtain ⟨g3, g4⟩ := Hgi.out 1 (by omega)
                have hr := Hi3.out
                rw [if_pos k4] at hr
                generalize gi xs 0 = x at *
                generalize gi xs 1 = z at *
                have t1 : IntKind.i64.wrap (x + z) = x + z := IntWalk.i64_in _ ⟨by omega, by omega⟩
                have Hr := Lib.hid hr
                have n6 : s.k ≠ 6 := by omega
                have n7 : s.k ≠ 7 := by omega
                have N67 := Lib.hid (And.intro n6 n7)
                clear hcl hr n6 n7
                by_cases hz : 4 < x + z
                · have hf9 := Lib.hid (show s.lerr xs = 9 by rw [Hr.out, if_pos hz])
                  rcases k4 with k4 | k4
                  · rw [k4] at c0
                    clear k4 k1 k3
                    go_wp2
                    go_quiet (fail)
                    go_wp2
                    go_ret2
                    exact Herr.out 9 (by decide) hf9.out _ (Xw.out.drewN _)
                  · rw [k4] at c0
                    clear k4 k1 k3
                    go_wp2
                    go_quiet (fail)
                    go_wp2
                    go_ret2
                    exact Herr.out 9 (by decide) hf9.out _ (Xw.out.drewN _)
                · have hf0 := Lib.hid (show s.lerr xs = 0 by rw [Hr.out, if_neg hz])
                  have hmm : M = 1 := by have := HMM.out; rw [Hmake.out, if_neg (by omega)] at this; omega
                  have hlast := Lib.hid (show ∀ q, RetIE .i64 w (s.lmade xs).length (s.lmade xs) (s.lerr xs) (.returned (.tuple #[.slice (some ⟨w3.heap.size, 0, none⟩) M M, .int .i64 0])) (wr.drewN q) from fun q => by
                    obtain ⟨v, he, hi, hx⟩ := Hones.out hf0.out N67.out.1 N67.out.2
                    exact ⟨v, he, hi.ext ((Ext.refl wr).drewN q), hx.drewN q⟩)
                  clear hmm
                  rcases k4 with k4 | k4
                  · rw [k4] at c0
                    clear k4 k1 k3
                    go_wp2
                    go_quiet (fail)
                    go_wp2
                    go_ret2
                    exact hlast.out _
                  · rw [k4] at c0
                    clear k4 k1 k3
                    go_wp2
                    go_quiet (fail)
                    go_wp2
                    go_ret2
                    exact hlast.out _
              · have hr := Hi3.out
                rw [if_neg k4] at hr
                by_cases k6 : s.k = 6
                · have hD1 : n = 1 := by
                    have := Hneed.out
                    rw [if_neg (by omega), if_neg k4, if_neg (by omega)] at this
                    have := Hl.out
                    omega
                  subst hD1
                  have hM1 : M = 1 := by have := HMM.out; rw [Hmake.out, if_neg (by omega)] at this; omega
                  subst hM1
                  obtain ⟨b, o, rfl, hcl⟩ := HI.out.at (i := 0) (by omega)
                  have e0 := hcl 0 (by omega)
                  rw [Nat.add_zero] at e0
                  obtain ⟨g1, g2⟩ := Hgi.out 0 (by omega)
                  have hst := Hrow.out.cell (i := 0) (by omega)
                  have hfz := Hrow.out.frozen 0
                  have hmd := fun h0 => by have := Hmd.out h0; rw [if_pos k6] at this; exact this
                  generalize gi xs 0 = x at *
                  have hfin2 := Hfin.out (wr.setCell ⟨w3.heap.size, 0, none⟩ (.int .i64 (x + 1))) _ [x + 1] (Hrow.out.set 0 (.int .i64 (x + 1))) rfl (fun i hi => by
                    obtain rfl : i = 0 := by omega
                    rw [if_pos rfl]; rfl)
                  have Hr := Lib.hid hr; have Hmd6 := Lib.hid hmd; have Hfin2 := Lib.hid hfin2
                  clear hr hmd hfin2 hcl
                  by_cases x3 : x = 3
                  · have hf9 := Lib.hid (show s.lerr xs = 9 by rw [Hr.out, if_pos ⟨k6, x3⟩])
                    have x3' : (x == 3) = true := beq_iff_eq.2 x3
                    rw [k6] at c0
                    clear k6 k4 k1 k3 x3
                    go_wp2
                    go_ret2
                    exact Herr.out 9 (by decide) hf9.out _ Xw.out
                  · have hf0 := show s.lerr xs = 0 by rw [Hr.out, if_neg (fun h => x3 h.2)]
                    have HL := Lib.hid (Hfin2.out hf0 (Hmd6.out hf0) (Xw.out.setCell (by have := X1.out.size; simp at this ⊢; omega) _))
                    have x3' : (x == 3) = false := beq_eq_false_iff_ne.2 x3
                    rw [k6] at c0
                    clear k6 k4 k1 k3 x3 hf0
                    go_wp2
                    go_ret2
                    exact HL.out
                · rw [if_neg (fun h => k6 h.1)] at hr
                  by_cases k7 : s.k = 7
                  · have hD1 : n = 1 := by
                      have := Hneed.out
                      rw [if_neg (by omega), if_neg k4, if_neg (by omega)] at this
                      have := Hl.out
                      omega
                    subst hD1
                    have hM1 : M = 1 := by have := HMM.out; rw [Hmake.out, if_neg (by omega)] at this; omega
                    subst hM1
                    obtain ⟨b, o, rfl, hcl⟩ := HI.out.at (i := 0) (by omega)
                    have e0 := hcl 0 (by omega)
                    rw [Nat.add_zero] at e0
                    have hst := Hrow.out.cell (i := 0) (by omega)
                    have hfz := Hrow.out.frozen 0
                    have hmd := Hmd.out hr
                    rw [if_neg k6, if_pos k7] at hmd
                    generalize gi xs 0 = x at *
                    have HL := Lib.hid (Hfin.out (wr.setCell ⟨w3.heap.size, 0, none⟩ (.int .i64 x)) _ [x] (Hrow.out.set 0 (.int .i64 x)) rfl (fun i hi => by
                      obtain rfl : i = 0 := by omega
                      rw [if_pos rfl]; rfl) hr hmd (Xw.out.setCell (by have := X1.out.size; simp at this ⊢; omega) _))
                    rw [k7] at c0
                    clear k7 k6 k4 k1 k3 hcl hmd hr
                    go_wp2
                    go_ret2
                    exact HL.out
                  · have HL := Lib.hid (Hones.out hr k6 k7)
                    have e4 : (s.k == 4) = false := beq_eq_false_iff_ne.2 (fun e => k4 (.inl e))
                    have e5 : (s.k == 5) = false := beq_eq_false_iff_ne.2 (fun e => k4 (.inr e))
                    have e6 : (s.k == 6) = false := beq_eq_false_iff_ne.2 k6
                    have e7 : (s.k == 7) = false := beq_eq_false_iff_ne.2 k7
                    clear k4 k6 k7 k3 hr
                    go_wp2
                    go_ret2
                    exact HL.out
    · have hl' : ((n : Int) != D) = true := by rw [bne, beq_eq_false_iff_ne.2 hl]; rfl
      have hf := Lib.hid (Hlen.out hl)
      clear hl
      go_wp2
      go_ret2
      exact Herr.out 5 (by decide) hf.out _ (((Ext.refl w).alloc _).trans X1.out)
  · have hr := lerr_chk (s := s) (xs := xs) (by omega)
    have Hr := Lib.hid hr
    have hq : (s.chk != 0) = true := by rw [hc1]; rfl
    have HR := Lib.hid (show ∀ w', Ext w w' → RetIE .i64 w (s.lmade xs).length (s.lmade xs) (s.lerr xs) (.returned (.tuple #[.slice none 0 0, .int .i64 1])) w' from fun w' x => by
      rw [lmade_err (by rw [hr]; decide), hr]; exact ⟨_, rfl, IS.nil _ _, x⟩)
    generalize s.chk = q at Hc hq
    clear hr hc1 hok hnb hmb
    unfold St.val at *
    go_enter Try.func59, Try.ntmps59
    go_wp2_with fail
    refine (Hc.out _).mono ?_
    rintro e w1 ⟨rfl, x1⟩
    have X1 := Lib.hid (((Ext.refl w).alloc _).trans x1)
    clear x1
    go_wp2
    go_ret2
    exact HR.out _ X1.out
end Go.Proofs.Ytlmkcojimhbmiaa
/- What charts.Loads computes, in plain Lean, and the list of rows that it builds in memory. -/
namespace Go.Proofs.Ytlmkcojimhbmiaa
set_option linter.unusedVariables false
set_option linter.unusedSimpArgs false
open Go Go.RowKit

/-- A row's stitches on the slots before it: the error, and the slots behind it. -/
def ldRow : List St → List Int → List Int → Int × List Int
  | [], _, acc => (0, acc)
  | s :: r, bf, acc => if s.lerr (bf.take s.need.toNat) ≠ 0 then (s.lerr (bf.take s.need.toNat), []) else ldRow r (bf.drop s.need.toNat) (acc ++ s.lmade (bf.take s.need.toNat))
def ldRows : List (List St) → List Int → List (List Int) → Int × List (List Int)
  | [], _, acc => (0, acc)
  | r :: rs, bf, acc => if (ldRow r bf []).1 ≠ 0 then ((ldRow r bf []).1, []) else ldRows rs (ldRow r bf []).2 (acc ++ [(ldRow r bf []).2])
def first (rows : List (List St)) : List Int := List.replicate (rneed (sw rows 0)).toNat 1
/-- The error of a chart, and the numbers of loops of its slots. -/
def cloads (rows : List (List St)) : Int × List (List Int) := if cerr rows ≠ 0 then (cerr rows, []) else ldRows rows (first rows) [first rows]

theorem drop_si {r : List St} {k : Nat} (h : k < r.length) : r.drop k = si r k :: r.drop (k + 1) := by rw [si_of_lt h]; exact List.drop_eq_getElem_cons h
theorem drop_sw {r : List (List St)} {k : Nat} (h : k < r.length) : r.drop k = sw r k :: r.drop (k + 1) := by rw [sw_of_lt h]; exact List.drop_eq_getElem_cons h
theorem ldRow_bad {r : List St} {k : Nat} (h : k < r.length) {bf acc : List Int} (hb : (si r k).lerr (bf.take (si r k).need.toNat) ≠ 0) : ldRow (r.drop k) bf acc = ((si r k).lerr (bf.take (si r k).need.toNat), []) := by
  rw [drop_si h, ldRow, if_pos hb]
theorem ldRow_next {r : List St} {k : Nat} (h : k < r.length) {bf acc : List Int} (hb : (si r k).lerr (bf.take (si r k).need.toNat) = 0) : ldRow (r.drop k) bf acc = ldRow (r.drop (k + 1)) (bf.drop (si r k).need.toNat) (acc ++ (si r k).lmade (bf.take (si r k).need.toNat)) := by
  rw [drop_si h, ldRow, if_neg (by omega)]
theorem ldRow_end {r : List St} {k : Nat} (h : r.length ≤ k) {bf acc : List Int} : ldRow (r.drop k) bf acc = (0, acc) := by rw [List.drop_eq_nil_of_le h]; rfl
theorem ldRows_bad {r : List (List St)} {k : Nat} (h : k < r.length) {bf : List Int} {acc : List (List Int)} (hb : (ldRow (sw r k) bf []).1 ≠ 0) : ldRows (r.drop k) bf acc = ((ldRow (sw r k) bf []).1, []) := by
  rw [drop_sw h, ldRows, if_pos hb]
theorem ldRows_next {r : List (List St)} {k : Nat} (h : k < r.length) {bf : List Int} {acc : List (List Int)} (hb : (ldRow (sw r k) bf []).1 = 0) : ldRows (r.drop k) bf acc = ldRows (r.drop (k + 1)) (ldRow (sw r k) bf []).2 (acc ++ [(ldRow (sw r k) bf []).2]) := by
  rw [drop_sw h, ldRows, if_neg (by omega)]
theorem ldRows_end {r : List (List St)} {k : Nat} (h : r.length ≤ k) {bf : List Int} {acc : List (List Int)} : ldRows (r.drop k) bf acc = (0, acc) := by rw [List.drop_eq_nil_of_le h]; rfl
theorem rneed_drop {r : List St} {k : Nat} (h : k < r.length) : rneed (r.drop k) = (si r k).need + rneed (r.drop (k + 1)) := by rw [drop_si h, rneed_cons]
theorem rmake_drop {r : List St} {k : Nat} (h : k < r.length) : rmake (r.drop k) = (si r k).make + rmake (r.drop (k + 1)) := by rw [drop_si h, rmake_cons]
theorem lmade_len {s : St} {xs : List Int} (h : s.lerr xs = 0) : (s.lmade xs).length = s.make.toNat := by
  have hc : s.chk = 0 := by
    rcases St.chk_cases s with e | e
    · exact e
    · rw [lerr_chk (by omega)] at h; omega
  have hm : s.make = if s.k = 8 then s.a + s.b else 1 := by unfold St.make; rw [if_neg (by omega)]
  unfold St.lmade
  rw [if_neg (by omega)]
  by_cases h6 : s.k = 6
  · rw [if_pos h6, hm, if_neg (by omega)]; rfl
  · rw [if_neg h6]
    by_cases h7 : s.k = 7
    · rw [if_pos h7, hm, if_neg (by omega)]; rfl
    · rw [if_neg h7]; simp

/-! ### The list of rows in memory -/
/-- Block g holds the slices of the rows laid so far; each row lies in a block of its own. -/
structure LS (eI eR : TypeId) (w wr : World) (g n : Nat) (rows : List (List Int)) (q : Nat → Nat) : Prop where
  ext : Ext w wr
  own : wr.ownsRow g eR 1 (.slice (some ⟨g, 0, none⟩) rows.length n) rows.length ((List.range rows.length).map fun j => .slice (some ⟨q j, 0, none⟩) (ri rows j).length (ri rows j).length)
  cells : ∀ j, j < rows.length → q j ≠ g ∧ (ri rows j).length ≤ maxLen ∧ wr.rowIs (q j) eI (ri rows j).length (fun i => .int .i64 (gi (ri rows j) i))
theorem LS.later {eI eR : TypeId} {w wr wr' : World} {g n : Nat} {rows : List (List Int)} {q : Nat → Nat} (h : LS eI eR w wr g n rows q) (x : Ext wr wr') : LS eI eR w wr' g n rows q :=
  ⟨h.ext.trans x, own_ext h.own x, fun j hj => ⟨(h.cells j hj).1, (h.cells j hj).2.1, x.row (h.cells j hj).2.2⟩⟩
theorem LS.is {eI eR : TypeId} {w wr : World} {g n : Nat} {rows : List (List Int)} {q : Nat → Nat} (h : LS eI eR w wr g n rows q) {j : Nat} (hj : j < rows.length) : IS .i64 wr (.slice (some ⟨q j, 0, none⟩) (ri rows j).length (ri rows j).length) (ri rows j).length (ri rows j) :=
  IS.of_row (h.cells j hj).2.2 rfl (h.cells j hj).2.1 (fun i hi => rfl)
theorem LS.at {eI eR : TypeId} {w wr : World} {g n : Nat} {rows : List (List Int)} {q : Nat → Nat} (h : LS eI eR w wr g n rows q) {j : Nat} (hj : j < rows.length) : wr.cell? ⟨g, j, none⟩ = some (.slice (some ⟨q j, 0, none⟩) (ri rows j).length (ri rows j).length) := by
  obtain ⟨g', cap, f, hv, _, _, hnc, _, hrow, hf⟩ := own_open h.own (by omega)
  simp only [Value.slice.injEq, Option.some.injEq, Addr.mk.injEq, and_true, true_and] at hv
  obtain ⟨rfl, rfl⟩ := hv
  rw [hrow.cell (by omega), hf j (.slice (some ⟨q j, 0, none⟩) (ri rows j).length (ri rows j).length) (by simp [hj])]
theorem LS.lt {eI eR : TypeId} {w wr : World} {g n : Nat} {rows : List (List Int)} {q : Nat → Nat} (h : LS eI eR w wr g n rows q) (h0 : 0 < rows.length) : g < wr.heap.size ∧ rows.length ≤ n ∧ n ≤ maxLen := by
  obtain ⟨g', cap, f, hv, _, hlt, hnc, hcm, _, _⟩ := own_open h.own h0
  simp only [Value.slice.injEq, Option.some.injEq, Addr.mk.injEq, and_true, true_and] at hv
  obtain ⟨rfl, rfl⟩ := hv
  exact ⟨hlt, hnc, hcm⟩
theorem ri_app (a : List (List Int)) (x : List Int) {j : Nat} (h : j < a.length) : ri (a ++ [x]) j = ri a j := by unfold ri; simp [List.getD, List.getElem?_append_left h]
theorem ri_new (a : List (List Int)) (x : List Int) : ri (a ++ [x]) a.length = x := by unfold ri; simp [List.getD]
theorem LS.push {eI eR : TypeId} {w wr w' : World} {g n p : Nat} {rows : List (List Int)} {q : Nat → Nat} {new : List Int} (h : LS eI eR w wr g n rows q) (hg : w.heap.size ≤ g) (hp : p ≠ g) (hm : new.length ≤ maxLen)
    (hr : wr.rowIs p eI new.length (fun i => .int .i64 (gi new i)))
    (hown : w'.ownsRow g eR 1 (.slice (some ⟨g, 0, none⟩) (rows.length + 1) n) (rows.length + 1) (((List.range rows.length).map fun j => .slice (some ⟨q j, 0, none⟩) (ri rows j).length (ri rows j).length) ++ [.slice (some ⟨p, 0, none⟩) new.length new.length]))
    {o : Obj} (hgr : (wr.alloc o).grownBy w' (some g)) : LS eI eR w w' g n (rows ++ [new]) (fun j => if j = rows.length then p else q j) := by
  have keep : ∀ (b : Nat) (m : Nat) (f : Nat → Value), b ≠ g → wr.rowIs b eI m f → w'.rowIs b eI m f := fun b m f hb hr => by
    have h2 := ((Ext.refl wr).alloc o).row hr
    exact h2.of_block (hgr.block b h2.lt (fun e => hb (Option.some.inj e)))
  refine ⟨(h.ext.alloc o).grown hgr (fun k hk => by rw [← Option.some.inj hk]; exact hg), ?_, fun j hj => ?_⟩
  · rw [List.length_append, List.length_singleton]
    have e : ((List.range (rows.length + 1)).map fun j => Value.slice (some ⟨(if j = rows.length then p else q j), 0, none⟩) (ri (rows ++ [new]) j).length (ri (rows ++ [new]) j).length) = ((List.range rows.length).map fun j => .slice (some ⟨q j, 0, none⟩) (ri rows j).length (ri rows j).length) ++ [.slice (some ⟨p, 0, none⟩) new.length new.length] := by
      rw [List.range_succ, List.map_append]
      congr 1
      · refine List.map_congr_left fun j hj => ?_
        have hj := List.mem_range.1 hj
        rw [if_neg (by omega), ri_app _ _ hj]
      · simp [ri_new]
    rw [e]; exact hown
  · rw [List.length_append, List.length_singleton] at hj
    by_cases e : j = rows.length
    · subst e
      simp only [if_true, ri_new]
      exact ⟨hp, hm, keep _ _ _ hp hr⟩
    · simp only [if_neg e, ri_app rows new (show j < rows.length by omega)]
      have := h.cells j (by omega)
      exact ⟨this.1, this.2.1, keep _ _ _ this.1 this.2.2⟩
theorem LS.ret {eI eR : TypeId} {w wr : World} {g n : Nat} {rows : List (List Int)} {q : Nat → Nat} (h : LS eI eR w wr g n rows q) (hn : rows.length = n) (h0 : 0 < n) : ISX .i64 wr (.slice (some ⟨g, 0, none⟩) n n) n rows := by
  have hlt := h.lt (by omega)
  refine ⟨fun j => .slice (some ⟨q j, 0, none⟩) (ri rows j).length (ri rows j).length, ISV.mk' hn.symm (Nat.le_refl _) hlt.2.2 (fun j hj => ?_) (fun j hj => h.is (by omega))⟩
  rw [Nat.zero_add]; exact h.at (by omega)
end Go.Proofs.Ytlmkcojimhbmiaa
