/- Contracts of follow, once for each closure that it is handed. -/
import Derived.Test.YtbappfeojdehgaaWd
import Derived.Test.YtbappfeojdehgaaFm
import Derived.BigRegion
namespace Go.Proofs.Ytbappfeojdehgaa
set_option linter.unusedVariables false
set_option linter.unusedSimpArgs false
set_option maxRecDepth 8000
open Go Go.RowKit

/-- From block B on, and in the streams, w' is as w. -/
structure Above (B : Nat) (w w' : World) : Prop where
  os : w'.os = w.os
  tape : w'.tape = w.tape
  output : w'.output = w.output
  size : w'.heap.size = w.heap.size
  block : ∀ k, B ≤ k → w'.heap[k]? = w.heap[k]?
theorem Above.refl (B : Nat) (w : World) : Above B w w := ⟨rfl, rfl, rfl, rfl, fun _ _ => rfl⟩
theorem Above.drewN {B : Nat} {w w' : World} (h : Above B w w') (n : Nat) : Above B w (w'.drewN n) := ⟨h.os, h.tape, h.output, h.size, h.block⟩
theorem Above.drew {B : Nat} {w w' : World} (h : Above B w w') : Above B w w'.drew := ⟨h.os, h.tape, h.output, h.size, h.block⟩
theorem Above.setCell {B : Nat} {w w' : World} (h : Above B w w') {a : Addr} (ha : a.block < B) (u : Value) : Above B w (w'.setCell a u) :=
  ⟨h.os, h.tape, h.output, by simp [h.size], fun k hk => by rw [Below.heap_setCell _ _ _ _ (by omega)]; exact h.block k hk⟩
theorem Above.trans {B : Nat} {a b c : World} (h : Above B a b) (k : Above B b c) : Above B a c :=
  ⟨k.os.trans h.os, k.tape.trans h.tape, k.output.trans h.output, k.size.trans h.size, fun i hi => (k.block i hi).trans (h.block i hi)⟩

/-- What follow hands back. -/
def RetF (w : World) (R : Nat → World → Prop) (n : Nat) (xs : List Int) (e : Ending) (w' : World) : Prop :=
  e = .returned (.slice (some ⟨w.heap.size, 0, none⟩) n n) ∧ R xs.length w' ∧ w'.rowIs w.heap.size 3 n (fun i => .int .i64 (gi (fol n xs) i)) ∧ w.heap.size ≤ w'.heap.size ∧ w'.os = w.os ∧ w'.tape = w.tape ∧ w'.output = w.output

theorem swp_set (f : Nat → Value) (A : List Int) (n l : Nat) (hA : A.length = n) (hl : l + 1 < n) (hf : ∀ i, i < n → f i = .int .i64 (gi A i)) (i : Nat) (hi : i < n) :
    (if i = l + 1 then Value.int .i64 (gi A l) else if i = l then Value.int .i64 (gi A (l + 1)) else f i) = .int .i64 (gi (swp A l) i) := by
  rw [gi_swp A l i (by omega)]
  split
  · rfl
  · split
    · rfl
    · exact hf i hi

theorem follow_Permutation (n : Nat) (v : Value) (c : Nat) (xs : List Int)  (w : World) (R : Nat → World → Prop)
    (hIS : ∀ k wr, R k wr → IS .i64 wr v c xs) (hR0 : R 0 w) (hst : ∀ k wr w', R k wr → Below w.heap.size wr w' → R k w')
    (hstep : ∀ k wr, k < xs.length → R k wr → Calls Try.prog 36 #[.int .i64 (gi (fol n (xs.take k)) (lft (gi xs k))), .int .i64 (gi (fol n (xs.take k)) (lft (gi xs k) + 1)), .int .i64 (sgn (gi xs k))] wr
      fun e w' => e = .returned (.tuple #[]) ∧ R (k + 1) w' ∧ Above w.heap.size wr w')
    (hn1 : 1 ≤ n) (hn8 : n ≤ 8) (hl : xs.length ≤ 64) (hgood : ∀ i, i < xs.length → wbad n (gi xs i) = false) :
    Calls Try.prog 35 #[.int .i64 n, v, .func (Fn.func 36) #[] #[]] w (RetF w R n xs) := by
  obtain ⟨h1, h2, ao, rfl, hao0⟩ := (hIS 0 w hR0).open
  obtain ⟨F, hF⟩ : ∃ F : Nat → List Int, F = fun k => fol n (xs.take k) := ⟨_, rfl⟩
  obtain ⟨N, hN⟩ : ∃ N, N = xs.length := ⟨_, rfl⟩
  have hF0 : ∀ i, i < n → gi (F 0) i = (i : Int) := by rw [hF]; intro i hi; simp only [List.take_zero, fol, List.foldl_nil]; rw [gi_of_lt (by simpa using hi)]; simp
  have hFl : ∀ k, (F k).length = n := by rw [hF]; intro k; exact fol_len _ _
  have hFs : ∀ k, k < N → F (k + 1) = swp (F k) (lft (gi xs k)) := by rw [hF, hN]; intro k hk; simp only []; rw [take_succ_gi hk, fol_snoc]
  have hFN : F N = fol n xs := by rw [hF, hN]; simp
  have hbd : ∀ k i, k ≤ N → i < n → 0 ≤ gi (F k) i ∧ gi (F k) i < n := by rw [hF, hN]; intro k i hk hi; exact fol_bd hgood hn1 hn8 k hk i hi
  have hcells : ∀ k wr, R k wr → ∀ i, i < N → ∃ b o, ao = some ⟨b, o, none⟩ ∧ wr.cell? ⟨b, o + i, none⟩ = some (.int .i64 (gi xs i)) := by
    intro k wr hr i hi
    obtain ⟨_, _, ao', hv, hao⟩ := (hIS k wr hr).open
    simp only [Value.slice.injEq, and_true] at hv
    subst hv
    rcases hao with ⟨_, h0, _⟩ | ⟨b, o, he, hc⟩
    · omega
    · exact ⟨b, o, he, hc i (by omega)⟩
  have hstep' : ∀ k wr, k < N → R k wr → Calls Try.prog 36 #[.int .i64 (gi (F k) (lft (gi xs k))), .int .i64 (gi (F k) (lft (gi xs k) + 1)), .int .i64 (sgn (gi xs k))] wr fun e w' => e = .returned (.tuple #[]) ∧ R (k + 1) w' ∧ Above w.heap.size wr w' := by
    rw [hF, hN]; exact hstep
  have hlft : ∀ k, k < N → sgn (gi xs k) * gi xs k - 1 = (lft (gi xs k) : Int) ∧ (lft (gi xs k) : Int) + 1 < n ∧ -8 ≤ gi xs k ∧ gi xs k ≤ 8 ∧ 0 ≤ sgn (gi xs k) * gi xs k ∧ sgn (gi xs k) * gi xs k ≤ 8 := by
    rw [hN]; intro k hk; exact lft_bd (by omega) (by omega) (hgood k hk)
  have hend : ∀ e w', (e = .returned (.slice (some ⟨w.heap.size, 0, none⟩) n n) ∧ R N w' ∧ w'.rowIs w.heap.size 3 n (fun i => .int .i64 (gi (fol n xs) i)) ∧ w.heap.size ≤ w'.heap.size ∧ w'.os = w.os ∧ w'.tape = w.tape ∧ w'.output = w.output) → RetF w R n xs e w' := by rw [hN]; exact fun _ _ h => h
  rw [← hN] at h1 hl ⊢
  clear hao0 hF hN hstep hgood hIS
  have HF0 := Lib.hid hF0; have HFl := Lib.hid hFl; have HFs := Lib.hid hFs; have HFN := Lib.hid hFN; have Hbd := Lib.hid hbd; have Hcells := Lib.hid hcells; have Hstep := Lib.hid hstep'; have Hlft := Lib.hid hlft; have Hst := Lib.hid hst; have HR0 := Lib.hid hR0; have Hend := Lib.hid hend
  clear hF0 hFl hFs hFN hbd hcells hstep' hlft hst hR0 hend
  unfold maxLen at h2
  have hmk := run_make_row' (P := Try.prog) 25 3 (.int .i64 0) 8 Try.underlying25 (by kernel_rfl) rfl .i64 .i64 n (by omega) (by omega)
  go_enter Try.func35, Try.ntmps35
  go_wp2
  go_loopw [8, 17] (fun _ i wr => ∃ k : Nat, k ≤ n ∧ i = .int .i64 k ∧ Below w.heap.size w wr ∧ ∃ f, wr.rowIs w.heap.size 3 n f ∧ Hid (∀ i, i < k → f i = Value.int .i64 (i : Int))) (fun _ i _ => n - (intOf i).toNat)
  case atStart => exact ⟨0, Nat.zero_le _, rfl, (Below.refl _ _).alloc (Nat.le_refl _) _, _, World.rowIs_made _ _ _ _, fun i h1 => by omega⟩
  case round =>
    obtain ⟨k, hk, rfl, hbel, f, hrow, Hf⟩ := hrel
    by_cases hlt : k < n
    · have hst := hrow.cell (i := k) (by omega)
      have hfz := hrow.frozen k
      go_wp2
      go_roundw
      case rel => exact ⟨k + 1, by omega, by go_num, hbel.setCell (Nat.le_refl _) _, _, hrow.set _ _, fun i h1 => by
        by_cases e : i = k
        · rw [if_pos e, e]
        · rw [if_neg e]; exact Hf.out i (by omega)⟩
      case measure => simp [intOf]; omega
    · have hR := Lib.hid (Hst.out 0 _ _ HR0.out hbel)
      have Hrow := Lib.hid (show wr.rowIs w.heap.size 3 n (fun i => .int .i64 (gi (F 0) i)) from hrow.congr fun i hi => by rw [Hf.out i (by omega), HF0.out i hi])
      have Hsz := Lib.hid (show w.heap.size ≤ wr.heap.size ∧ wr.os = w.os ∧ wr.tape = w.tape ∧ wr.output = w.output from ⟨hbel.size, hbel.os, hbel.tape, hbel.output⟩)
      obtain ⟨wo, rfl⟩ : ∃ wo : World, wo = wr := ⟨_, rfl⟩
      clear Hf hrow hbel
      go_wp2
      go_loopw [10, 11, 12, 27] (fun _ _ _ i wr => ∃ k : Nat, k ≤ N ∧ i = .int .i64 k ∧ Hid (R k wr) ∧ Hid (wr.rowIs w.heap.size 3 n (fun i => .int .i64 (gi (F k) i))) ∧ Hid (w.heap.size ≤ wr.heap.size ∧ wr.os = w.os ∧ wr.tape = w.tape ∧ wr.output = w.output)) (fun _ _ _ i _ => N - (intOf i).toNat)
      case atStart => exact ⟨0, Nat.zero_le _, rfl, hR, Hrow, Hsz⟩
      case round =>
        obtain ⟨k, hk, rfl, HR, Hrow, Hsz⟩ := hrel
        by_cases hlt : k < N
        · obtain ⟨b, o, rfl, hck⟩ := Hcells.out k wr HR.out k hlt
          obtain ⟨g1, g2, g3, g4, g5, g6⟩ := Hlft.out k hlt
          obtain ⟨l, hl⟩ : ∃ l, l = lft (gi xs k) := ⟨_, rfl⟩
          rw [← hl] at g1 g2
          have g7 : wrap64 (sgn (gi xs k) * gi xs k) = sgn (gi xs k) * gi xs k := IntWalk.wrap64_in _ ⟨by omega, by omega⟩
          have hc1 : wr.cell? ⟨w.heap.size, l, none⟩ = some (.int .i64 (gi (F k) l)) := Hrow.out.cell (by omega)
          have hc2 : wr.cell? ⟨w.heap.size, l + 1, none⟩ = some (.int .i64 (gi (F k) (l + 1))) := Hrow.out.cell (by omega)
          have Hl := Lib.hid hl
          have Hcall := Lib.hid (Hstep.out k)
          clear hl
          go_wp2_with fail
          refine (sign_calls _ _).mono ?_
          rintro e w1 ⟨rfl, rfl⟩
          go_wp2
          clear g1
          have e1 : (l : Int) < n := by omega
          have e2 : (l : Int) + 1 < n := by omega
          have e3 : (0 : Int) ≤ (l : Int) := by omega
          have e4 : (0 : Int) ≤ (l : Int) + 1 := by omega
          have e5 : IntKind.i64.wrap ((l : Int) + 1) = (l : Int) + 1 := IntWalk.i64_in _ ⟨by omega, by omega⟩
          have e6 : ((l : Int) + 1).toNat = l + 1 := by omega
          go_still_tail 11, (by kernel_rfl)
          change wpList _ _ _ _ _ (wr.drew)
          clear e5 e6
          obtain ⟨w2, hw2⟩ : ∃ w2, w2 = wr.drew := ⟨_, rfl⟩
          have hR2 : R k w2 := by rw [hw2]; exact Hst.out _ _ _ HR.out (Below.refl _ _).drew
          have hrow2 : w2.rowIs w.heap.size 3 n (fun i => .int .i64 (gi (F k) i)) := by rw [hw2]; exact Hrow.out
          have hsz2 : w.heap.size ≤ w2.heap.size ∧ w2.os = w.os ∧ w2.tape = w.tape ∧ w2.output = w.output := by rw [hw2]; exact Hsz.out
          rw [← hw2]
          clear hw2
          have HR2 := Lib.hid hR2; have Hrow2 := Lib.hid hrow2; have Hsz2 := Lib.hid hsz2
          clear hR2 hrow2 hsz2 hc1 hc2 hck
          have hcall := Hcall.out w2 hlt HR2.out
          rw [← Hl.out] at hcall
          have HC := Lib.hid hcall
          clear hcall
          go_wp2_with fail
          refine HC.out.mono ?_
          rintro e w3 ⟨rfl, hR3, hab⟩
          have hrow3 : w3.rowIs w.heap.size 3 n (fun i => .int .i64 (gi (F k) i)) := Hrow2.out.of_block (hab.block _ (Nat.le_refl _))
          have hsz3 : w.heap.size ≤ w3.heap.size ∧ w3.os = w.os ∧ w3.tape = w.tape ∧ w3.output = w.output := by
            obtain ⟨z1, z2, z3, z4⟩ := Hsz2.out
            exact ⟨by rw [hab.size]; exact z1, hab.os.trans z2, hab.tape.trans z3, hab.output.trans z4⟩
          have HR3 := Lib.hid hR3; have Hrow3 := Lib.hid hrow3; have Hsz3 := Lib.hid hsz3
          clear hR3 hrow3 hsz3 hab HC
          have hc1 : w3.cell? ⟨w.heap.size, l, none⟩ = some (.int .i64 (gi (F k) l)) := Hrow3.out.cell (by omega)
          have hc2 : w3.cell? ⟨w.heap.size, l + 1, none⟩ = some (.int .i64 (gi (F k) (l + 1))) := Hrow3.out.cell (by omega)
          have hf1 : w3.frozen? ⟨w.heap.size, l, none⟩ = false := Hrow3.out.frozen _
          have hf2 : w3.frozen? ⟨w.heap.size, l + 1, none⟩ = false := Hrow3.out.frozen _
          go_wp2
          go_region
          all_goals
            go_wp2
            go_roundw
            case rel => exact ⟨k + 1, by omega, by go_num, Hst.out _ _ _ HR3.out (((Below.refl w.heap.size w3).setCell (p := ⟨w.heap.size, l, none⟩) (Nat.le_refl _) _).setCell (p := ⟨w.heap.size, l + 1, none⟩) (Nat.le_refl _) _).drew, (((Hrow3.out.set _ _).set _ _).drew).congr (fun i hi => by
              rw [HFs.out k hlt, ← Hl.out]
              exact swp_set _ _ n l (HFl.out k) (by omega) (fun _ _ => rfl) i hi), by
                obtain ⟨z1, z2, z3, z4⟩ := Hsz3.out
                exact ⟨by show _ ≤ ((w3.setCell _ _).setCell _ _).heap.size; rw [World.size_setCell, World.size_setCell]; exact z1, z2, z3, z4⟩⟩
            case measure => simp [intOf]; omega
        · obtain rfl : k = N := by omega
          go_wp2
          go_ret
          obtain ⟨z1, z2, z3, z4⟩ := Hsz.out
          refine Hend.out _ _ ⟨rfl, HR.out, ?_, z1, z2, z3, z4⟩
          rw [← HFN.out]
          exact Hrow.out

theorem follow_Sum (n : Nat) (v : Value) (c : Nat) (xs : List Int) (B : Nat) (w : World) (R : Nat → World → Prop)
    (hIS : ∀ k wr, R k wr → IS .i64 wr v c xs) (hR0 : R 0 w) (hst : ∀ k wr w', R k wr → Below w.heap.size wr w' → R k w')
    (hstep : ∀ k wr, k < xs.length → R k wr → Calls Try.prog 37 #[.int .i64 (gi (fol n (xs.take k)) (lft (gi xs k))), .int .i64 (gi (fol n (xs.take k)) (lft (gi xs k) + 1)), .int .i64 (sgn (gi xs k)), .pointer (some ⟨B, 0, none⟩)] wr
      fun e w' => e = .returned (.tuple #[]) ∧ R (k + 1) w' ∧ Above w.heap.size wr w')
    (hn1 : 1 ≤ n) (hn8 : n ≤ 8) (hl : xs.length ≤ 64) (hgood : ∀ i, i < xs.length → wbad n (gi xs i) = false) :
    Calls Try.prog 35 #[.int .i64 n, v, .func (Fn.func 37) #[] #[.pointer (some ⟨B, 0, none⟩)]] w (RetF w R n xs) := by
  obtain ⟨h1, h2, ao, rfl, hao0⟩ := (hIS 0 w hR0).open
  obtain ⟨F, hF⟩ : ∃ F : Nat → List Int, F = fun k => fol n (xs.take k) := ⟨_, rfl⟩
  obtain ⟨N, hN⟩ : ∃ N, N = xs.length := ⟨_, rfl⟩
  have hF0 : ∀ i, i < n → gi (F 0) i = (i : Int) := by rw [hF]; intro i hi; simp only [List.take_zero, fol, List.foldl_nil]; rw [gi_of_lt (by simpa using hi)]; simp
  have hFl : ∀ k, (F k).length = n := by rw [hF]; intro k; exact fol_len _ _
  have hFs : ∀ k, k < N → F (k + 1) = swp (F k) (lft (gi xs k)) := by rw [hF, hN]; intro k hk; simp only []; rw [take_succ_gi hk, fol_snoc]
  have hFN : F N = fol n xs := by rw [hF, hN]; simp
  have hbd : ∀ k i, k ≤ N → i < n → 0 ≤ gi (F k) i ∧ gi (F k) i < n := by rw [hF, hN]; intro k i hk hi; exact fol_bd hgood hn1 hn8 k hk i hi
  have hcells : ∀ k wr, R k wr → ∀ i, i < N → ∃ b o, ao = some ⟨b, o, none⟩ ∧ wr.cell? ⟨b, o + i, none⟩ = some (.int .i64 (gi xs i)) := by
    intro k wr hr i hi
    obtain ⟨_, _, ao', hv, hao⟩ := (hIS k wr hr).open
    simp only [Value.slice.injEq, and_true] at hv
    subst hv
    rcases hao with ⟨_, h0, _⟩ | ⟨b, o, he, hc⟩
    · omega
    · exact ⟨b, o, he, hc i (by omega)⟩
  have hstep' : ∀ k wr, k < N → R k wr → Calls Try.prog 37 #[.int .i64 (gi (F k) (lft (gi xs k))), .int .i64 (gi (F k) (lft (gi xs k) + 1)), .int .i64 (sgn (gi xs k)), .pointer (some ⟨B, 0, none⟩)] wr fun e w' => e = .returned (.tuple #[]) ∧ R (k + 1) w' ∧ Above w.heap.size wr w' := by
    rw [hF, hN]; exact hstep
  have hlft : ∀ k, k < N → sgn (gi xs k) * gi xs k - 1 = (lft (gi xs k) : Int) ∧ (lft (gi xs k) : Int) + 1 < n ∧ -8 ≤ gi xs k ∧ gi xs k ≤ 8 ∧ 0 ≤ sgn (gi xs k) * gi xs k ∧ sgn (gi xs k) * gi xs k ≤ 8 := by
    rw [hN]; intro k hk; exact lft_bd (by omega) (by omega) (hgood k hk)
  have hend : ∀ e w', (e = .returned (.slice (some ⟨w.heap.size, 0, none⟩) n n) ∧ R N w' ∧ w'.rowIs w.heap.size 3 n (fun i => .int .i64 (gi (fol n xs) i)) ∧ w.heap.size ≤ w'.heap.size ∧ w'.os = w.os ∧ w'.tape = w.tape ∧ w'.output = w.output) → RetF w R n xs e w' := by rw [hN]; exact fun _ _ h => h
  rw [← hN] at h1 hl ⊢
  clear hao0 hF hN hstep hgood hIS
  have HF0 := Lib.hid hF0; have HFl := Lib.hid hFl; have HFs := Lib.hid hFs; have HFN := Lib.hid hFN; have Hbd := Lib.hid hbd; have Hcells := Lib.hid hcells; have Hstep := Lib.hid hstep'; have Hlft := Lib.hid hlft; have Hst := Lib.hid hst; have HR0 := Lib.hid hR0; have Hend := Lib.hid hend
  clear hF0 hFl hFs hFN hbd hcells hstep' hlft hst hR0 hend
  unfold maxLen at h2
  have hmk := run_make_row' (P := Try.prog) 25 3 (.int .i64 0) 8 Try.underlying25 (by kernel_rfl) rfl .i64 .i64 n (by omega) (by omega)
  go_enter Try.func35, Try.ntmps35
  go_wp2
  go_loopw [8, 17] (fun _ i wr => ∃ k : Nat, k ≤ n ∧ i = .int .i64 k ∧ Below w.heap.size w wr ∧ ∃ f, wr.rowIs w.heap.size 3 n f ∧ Hid (∀ i, i < k → f i = Value.int .i64 (i : Int))) (fun _ i _ => n - (intOf i).toNat)
  case atStart => exact ⟨0, Nat.zero_le _, rfl, (Below.refl _ _).alloc (Nat.le_refl _) _, _, World.rowIs_made _ _ _ _, fun i h1 => by omega⟩
  case round =>
    obtain ⟨k, hk, rfl, hbel, f, hrow, Hf⟩ := hrel
    by_cases hlt : k < n
    · have hst := hrow.cell (i := k) (by omega)
      have hfz := hrow.frozen k
      go_wp2
      go_roundw
      case rel => exact ⟨k + 1, by omega, by go_num, hbel.setCell (Nat.le_refl _) _, _, hrow.set _ _, fun i h1 => by
        by_cases e : i = k
        · rw [if_pos e, e]
        · rw [if_neg e]; exact Hf.out i (by omega)⟩
      case measure => simp [intOf]; omega
    · have hR := Lib.hid (Hst.out 0 _ _ HR0.out hbel)
      have Hrow := Lib.hid (show wr.rowIs w.heap.size 3 n (fun i => .int .i64 (gi (F 0) i)) from hrow.congr fun i hi => by rw [Hf.out i (by omega), HF0.out i hi])
      have Hsz := Lib.hid (show w.heap.size ≤ wr.heap.size ∧ wr.os = w.os ∧ wr.tape = w.tape ∧ wr.output = w.output from ⟨hbel.size, hbel.os, hbel.tape, hbel.output⟩)
      obtain ⟨wo, rfl⟩ : ∃ wo : World, wo = wr := ⟨_, rfl⟩
      clear Hf hrow hbel
      go_wp2
      go_loopw [10, 11, 12, 27] (fun _ _ _ i wr => ∃ k : Nat, k ≤ N ∧ i = .int .i64 k ∧ Hid (R k wr) ∧ Hid (wr.rowIs w.heap.size 3 n (fun i => .int .i64 (gi (F k) i))) ∧ Hid (w.heap.size ≤ wr.heap.size ∧ wr.os = w.os ∧ wr.tape = w.tape ∧ wr.output = w.output)) (fun _ _ _ i _ => N - (intOf i).toNat)
      case atStart => exact ⟨0, Nat.zero_le _, rfl, hR, Hrow, Hsz⟩
      case round =>
        obtain ⟨k, hk, rfl, HR, Hrow, Hsz⟩ := hrel
        by_cases hlt : k < N
        · obtain ⟨b, o, rfl, hck⟩ := Hcells.out k wr HR.out k hlt
          obtain ⟨g1, g2, g3, g4, g5, g6⟩ := Hlft.out k hlt
          obtain ⟨l, hl⟩ : ∃ l, l = lft (gi xs k) := ⟨_, rfl⟩
          rw [← hl] at g1 g2
          have g7 : wrap64 (sgn (gi xs k) * gi xs k) = sgn (gi xs k) * gi xs k := IntWalk.wrap64_in _ ⟨by omega, by omega⟩
          have hc1 : wr.cell? ⟨w.heap.size, l, none⟩ = some (.int .i64 (gi (F k) l)) := Hrow.out.cell (by omega)
          have hc2 : wr.cell? ⟨w.heap.size, l + 1, none⟩ = some (.int .i64 (gi (F k) (l + 1))) := Hrow.out.cell (by omega)
          have Hl := Lib.hid hl
          have Hcall := Lib.hid (Hstep.out k)
          clear hl
          go_wp2_with fail
          refine (sign_calls _ _).mono ?_
          rintro e w1 ⟨rfl, rfl⟩
          go_wp2
          clear g1
          have e1 : (l : Int) < n := by omega
          have e2 : (l : Int) + 1 < n := by omega
          have e3 : (0 : Int) ≤ (l : Int) := by omega
          have e4 : (0 : Int) ≤ (l : Int) + 1 := by omega
          have e5 : IntKind.i64.wrap ((l : Int) + 1) = (l : Int) + 1 := IntWalk.i64_in _ ⟨by omega, by omega⟩
          have e6 : ((l : Int) + 1).toNat = l + 1 := by omega
          go_still_tail 11, (by kernel_rfl)
          change wpList _ _ _ _ _ (wr.drew)
          clear e5 e6
          obtain ⟨w2, hw2⟩ : ∃ w2, w2 = wr.drew := ⟨_, rfl⟩
          have hR2 : R k w2 := by rw [hw2]; exact Hst.out _ _ _ HR.out (Below.refl _ _).drew
          have hrow2 : w2.rowIs w.heap.size 3 n (fun i => .int .i64 (gi (F k) i)) := by rw [hw2]; exact Hrow.out
          have hsz2 : w.heap.size ≤ w2.heap.size ∧ w2.os = w.os ∧ w2.tape = w.tape ∧ w2.output = w.output := by rw [hw2]; exact Hsz.out
          rw [← hw2]
          clear hw2
          have HR2 := Lib.hid hR2; have Hrow2 := Lib.hid hrow2; have Hsz2 := Lib.hid hsz2
          clear hR2 hrow2 hsz2 hc1 hc2 hck
          have hcall := Hcall.out w2 hlt HR2.out
          rw [← Hl.out] at hcall
          have HC := Lib.hid hcall
          clear hcall
          go_wp2_with fail
          refine HC.out.mono ?_
          rintro e w3 ⟨rfl, hR3, hab⟩
          have hrow3 : w3.rowIs w.heap.size 3 n (fun i => .int .i64 (gi (F k) i)) := Hrow2.out.of_block (hab.block _ (Nat.le_refl _))
          have hsz3 : w.heap.size ≤ w3.heap.size ∧ w3.os = w.os ∧ w3.tape = w.tape ∧ w3.output = w.output := by
            obtain ⟨z1, z2, z3, z4⟩ := Hsz2.out
            exact ⟨by rw [hab.size]; exact z1, hab.os.trans z2, hab.tape.trans z3, hab.output.trans z4⟩
          have HR3 := Lib.hid hR3; have Hrow3 := Lib.hid hrow3; have Hsz3 := Lib.hid hsz3
          clear hR3 hrow3 hsz3 hab HC
          have hc1 : w3.cell? ⟨w.heap.size, l, none⟩ = some (.int .i64 (gi (F k) l)) := Hrow3.out.cell (by omega)
          have hc2 : w3.cell? ⟨w.heap.size, l + 1, none⟩ = some (.int .i64 (gi (F k) (l + 1))) := Hrow3.out.cell (by omega)
          have hf1 : w3.frozen? ⟨w.heap.size, l, none⟩ = false := Hrow3.out.frozen _
          have hf2 : w3.frozen? ⟨w.heap.size, l + 1, none⟩ = false := Hrow3.out.frozen _
          go_wp2
          go_region
          all_goals
            go_wp2
            go_roundw
            case rel => exact ⟨k + 1, by omega, by go_num, Hst.out _ _ _ HR3.out (((Below.refl w.heap.size w3).setCell (p := ⟨w.heap.size, l, none⟩) (Nat.le_refl _) _).setCell (p := ⟨w.heap.size, l + 1, none⟩) (Nat.le_refl _) _).drew, (((Hrow3.out.set _ _).set _ _).drew).congr (fun i hi => by
              rw [HFs.out k hlt, ← Hl.out]
              exact swp_set _ _ n l (HFl.out k) (by omega) (fun _ _ => rfl) i hi), by
                obtain ⟨z1, z2, z3, z4⟩ := Hsz3.out
                exact ⟨by show _ ≤ ((w3.setCell _ _).setCell _ _).heap.size; rw [World.size_setCell, World.size_setCell]; exact z1, z2, z3, z4⟩⟩
            case measure => simp [intOf]; omega
        · obtain rfl : k = N := by omega
          go_wp2
          go_ret
          obtain ⟨z1, z2, z3, z4⟩ := Hsz.out
          refine Hend.out _ _ ⟨rfl, HR.out, ?_, z1, z2, z3, z4⟩
          rw [← HFN.out]
          exact Hrow.out

theorem follow_Links (n : Nat) (v : Value) (c : Nat) (xs : List Int) (B : Nat) (w : World) (R : Nat → World → Prop)
    (hIS : ∀ k wr, R k wr → IS .i64 wr v c xs) (hR0 : R 0 w) (hst : ∀ k wr w', R k wr → Below w.heap.size wr w' → R k w')
    (hstep : ∀ k wr, k < xs.length → R k wr → Calls Try.prog 38 #[.int .i64 (gi (fol n (xs.take k)) (lft (gi xs k))), .int .i64 (gi (fol n (xs.take k)) (lft (gi xs k) + 1)), .int .i64 (sgn (gi xs k)), .pointer (some ⟨B, 0, none⟩)] wr
      fun e w' => e = .returned (.tuple #[]) ∧ R (k + 1) w' ∧ Above w.heap.size wr w')
    (hn1 : 1 ≤ n) (hn8 : n ≤ 8) (hl : xs.length ≤ 64) (hgood : ∀ i, i < xs.length → wbad n (gi xs i) = false) :
    Calls Try.prog 35 #[.int .i64 n, v, .func (Fn.func 38) #[] #[.pointer (some ⟨B, 0, none⟩)]] w (RetF w R n xs) := by
  obtain ⟨h1, h2, ao, rfl, hao0⟩ := (hIS 0 w hR0).open
  obtain ⟨F, hF⟩ : ∃ F : Nat → List Int, F = fun k => fol n (xs.take k) := ⟨_, rfl⟩
  obtain ⟨N, hN⟩ : ∃ N, N = xs.length := ⟨_, rfl⟩
  have hF0 : ∀ i, i < n → gi (F 0) i = (i : Int) := by rw [hF]; intro i hi; simp only [List.take_zero, fol, List.foldl_nil]; rw [gi_of_lt (by simpa using hi)]; simp
  have hFl : ∀ k, (F k).length = n := by rw [hF]; intro k; exact fol_len _ _
  have hFs : ∀ k, k < N → F (k + 1) = swp (F k) (lft (gi xs k)) := by rw [hF, hN]; intro k hk; simp only []; rw [take_succ_gi hk, fol_snoc]
  have hFN : F N = fol n xs := by rw [hF, hN]; simp
  have hbd : ∀ k i, k ≤ N → i < n → 0 ≤ gi (F k) i ∧ gi (F k) i < n := by rw [hF, hN]; intro k i hk hi; exact fol_bd hgood hn1 hn8 k hk i hi
  have hcells : ∀ k wr, R k wr → ∀ i, i < N → ∃ b o, ao = some ⟨b, o, none⟩ ∧ wr.cell? ⟨b, o + i, none⟩ = some (.int .i64 (gi xs i)) := by
    intro k wr hr i hi
    obtain ⟨_, _, ao', hv, hao⟩ := (hIS k wr hr).open
    simp only [Value.slice.injEq, and_true] at hv
    subst hv
    rcases hao with ⟨_, h0, _⟩ | ⟨b, o, he, hc⟩
    · omega
    · exact ⟨b, o, he, hc i (by omega)⟩
  have hstep' : ∀ k wr, k < N → R k wr → Calls Try.prog 38 #[.int .i64 (gi (F k) (lft (gi xs k))), .int .i64 (gi (F k) (lft (gi xs k) + 1)), .int .i64 (sgn (gi xs k)), .pointer (some ⟨B, 0, none⟩)] wr fun e w' => e = .returned (.tuple #[]) ∧ R (k + 1) w' ∧ Above w.heap.size wr w' := by
    rw [hF, hN]; exact hstep
  have hlft : ∀ k, k < N → sgn (gi xs k) * gi xs k - 1 = (lft (gi xs k) : Int) ∧ (lft (gi xs k) : Int) + 1 < n ∧ -8 ≤ gi xs k ∧ gi xs k ≤ 8 ∧ 0 ≤ sgn (gi xs k) * gi xs k ∧ sgn (gi xs k) * gi xs k ≤ 8 := by
    rw [hN]; intro k hk; exact lft_bd (by omega) (by omega) (hgood k hk)
  have hend : ∀ e w', (e = .returned (.slice (some ⟨w.heap.size, 0, none⟩) n n) ∧ R N w' ∧ w'.rowIs w.heap.size 3 n (fun i => .int .i64 (gi (fol n xs) i)) ∧ w.heap.size ≤ w'.heap.size ∧ w'.os = w.os ∧ w'.tape = w.tape ∧ w'.output = w.output) → RetF w R n xs e w' := by rw [hN]; exact fun _ _ h => h
  rw [← hN] at h1 hl ⊢
  clear hao0 hF hN hstep hgood hIS
  have HF0 := Lib.hid hF0; have HFl := Lib.hid hFl; have HFs := Lib.hid hFs; have HFN := Lib.hid hFN; have Hbd := Lib.hid hbd; have Hcells := Lib.hid hcells; have Hstep := Lib.hid hstep'; have Hlft := Lib.hid hlft; have Hst := Lib.hid hst; have HR0 := Lib.hid hR0; have Hend := Lib.hid hend
  clear hF0 hFl hFs hFN hbd hcells hstep' hlft hst hR0 hend
  unfold maxLen at h2
  have hmk := run_make_row' (P := Try.prog) 25 3 (.int .i64 0) 8 Try.underlying25 (by kernel_rfl) rfl .i64 .i64 n (by omega) (by omega)
  go_enter Try.func35, Try.ntmps35
  go_wp2
  go_loopw [8, 17] (fun _ i wr => ∃ k : Nat, k ≤ n ∧ i = .int .i64 k ∧ Below w.heap.size w wr ∧ ∃ f, wr.rowIs w.heap.size 3 n f ∧ Hid (∀ i, i < k → f i = Value.int .i64 (i : Int))) (fun _ i _ => n - (intOf i).toNat)
  case atStart => exact ⟨0, Nat.zero_le _, rfl, (Below.refl _ _).alloc (Nat.le_refl _) _, _, World.rowIs_made _ _ _ _, fun i h1 => by omega⟩
  case round =>
    obtain ⟨k, hk, rfl, hbel, f, hrow, Hf⟩ := hrel
    by_cases hlt : k < n
    · have hst := hrow.cell (i := k) (by omega)
      have hfz := hrow.frozen k
      go_wp2
      go_roundw
      case rel => exact ⟨k + 1, by omega, by go_num, hbel.setCell (Nat.le_refl _) _, _, hrow.set _ _, fun i h1 => by
        by_cases e : i = k
        · rw [if_pos e, e]
        · rw [if_neg e]; exact Hf.out i (by omega)⟩
      case measure => simp [intOf]; omega
    · have hR := Lib.hid (Hst.out 0 _ _ HR0.out hbel)
      have Hrow := Lib.hid (show wr.rowIs w.heap.size 3 n (fun i => .int .i64 (gi (F 0) i)) from hrow.congr fun i hi => by rw [Hf.out i (by omega), HF0.out i hi])
      have Hsz := Lib.hid (show w.heap.size ≤ wr.heap.size ∧ wr.os = w.os ∧ wr.tape = w.tape ∧ wr.output = w.output from ⟨hbel.size, hbel.os, hbel.tape, hbel.output⟩)
      obtain ⟨wo, rfl⟩ : ∃ wo : World, wo = wr := ⟨_, rfl⟩
      clear Hf hrow hbel
      go_wp2
      go_loopw [10, 11, 12, 27] (fun _ _ _ i wr => ∃ k : Nat, k ≤ N ∧ i = .int .i64 k ∧ Hid (R k wr) ∧ Hid (wr.rowIs w.heap.size 3 n (fun i => .int .i64 (gi (F k) i))) ∧ Hid (w.heap.size ≤ wr.heap.size ∧ wr.os = w.os ∧ wr.tape = w.tape ∧ wr.output = w.output)) (fun _ _ _ i _ => N - (intOf i).toNat)
      case atStart => exact ⟨0, Nat.zero_le _, rfl, hR, Hrow, Hsz⟩
      case round =>
        obtain ⟨k, hk, rfl, HR, Hrow, Hsz⟩ := hrel
        by_cases hlt : k < N
        · obtain ⟨b, o, rfl, hck⟩ := Hcells.out k wr HR.out k hlt
          obtain ⟨g1, g2, g3, g4, g5, g6⟩ := Hlft.out k hlt
          obtain ⟨l, hl⟩ : ∃ l, l = lft (gi xs k) := ⟨_, rfl⟩
          rw [← hl] at g1 g2
          have g7 : wrap64 (sgn (gi xs k) * gi xs k) = sgn (gi xs k) * gi xs k := IntWalk.wrap64_in _ ⟨by omega, by omega⟩
          have hc1 : wr.cell? ⟨w.heap.size, l, none⟩ = some (.int .i64 (gi (F k) l)) := Hrow.out.cell (by omega)
          have hc2 : wr.cell? ⟨w.heap.size, l + 1, none⟩ = some (.int .i64 (gi (F k) (l + 1))) := Hrow.out.cell (by omega)
          have Hl := Lib.hid hl
          have Hcall := Lib.hid (Hstep.out k)
          clear hl
          go_wp2_with fail
          refine (sign_calls _ _).mono ?_
          rintro e w1 ⟨rfl, rfl⟩
          go_wp2
          clear g1
          have e1 : (l : Int) < n := by omega
          have e2 : (l : Int) + 1 < n := by omega
          have e3 : (0 : Int) ≤ (l : Int) := by omega
          have e4 : (0 : Int) ≤ (l : Int) + 1 := by omega
          have e5 : IntKind.i64.wrap ((l : Int) + 1) = (l : Int) + 1 := IntWalk.i64_in _ ⟨by omega, by omega⟩
          have e6 : ((l : Int) + 1).toNat = l + 1 := by omega
          go_still_tail 11, (by kernel_rfl)
          change wpList _ _ _ _ _ (wr.drew)
          clear e5 e6
          obtain ⟨w2, hw2⟩ : ∃ w2, w2 = wr.drew := ⟨_, rfl⟩
          have hR2 : R k w2 := by rw [hw2]; exact Hst.out _ _ _ HR.out (Below.refl _ _).drew
          have hrow2 : w2.rowIs w.heap.size 3 n (fun i => .int .i64 (gi (F k) i)) := by rw [hw2]; exact Hrow.out
          have hsz2 : w.heap.size ≤ w2.heap.size ∧ w2.os = w.os ∧ w2.tape = w.tape ∧ w2.output = w.output := by rw [hw2]; exact Hsz.out
          rw [← hw2]
          clear hw2
          have HR2 := Lib.hid hR2; have Hrow2 := Lib.hid hrow2; have Hsz2 := Lib.hid hsz2
          clear hR2 hrow2 hsz2 hc1 hc2 hck
          have hcall := Hcall.out w2 hlt HR2.out
          rw [← Hl.out] at hcall
          have HC := Lib.hid hcall
          clear hcall
          go_wp2_with fail
          refine HC.out.mono ?_
          rintro e w3 ⟨rfl, hR3, hab⟩
          have hrow3 : w3.rowIs w.heap.size 3 n (fun i => .int .i64 (gi (F k) i)) := Hrow2.out.of_block (hab.block _ (Nat.le_refl _))
          have hsz3 : w.heap.size ≤ w3.heap.size ∧ w3.os = w.os ∧ w3.tape = w.tape ∧ w3.output = w.output := by
            obtain ⟨z1, z2, z3, z4⟩ := Hsz2.out
            exact ⟨by rw [hab.size]; exact z1, hab.os.trans z2, hab.tape.trans z3, hab.output.trans z4⟩
          have HR3 := Lib.hid hR3; have Hrow3 := Lib.hid hrow3; have Hsz3 := Lib.hid hsz3
          clear hR3 hrow3 hsz3 hab HC
          have hc1 : w3.cell? ⟨w.heap.size, l, none⟩ = some (.int .i64 (gi (F k) l)) := Hrow3.out.cell (by omega)
          have hc2 : w3.cell? ⟨w.heap.size, l + 1, none⟩ = some (.int .i64 (gi (F k) (l + 1))) := Hrow3.out.cell (by omega)
          have hf1 : w3.frozen? ⟨w.heap.size, l, none⟩ = false := Hrow3.out.frozen _
          have hf2 : w3.frozen? ⟨w.heap.size, l + 1, none⟩ = false := Hrow3.out.frozen _
          go_wp2
          go_region
          all_goals
            go_wp2
            go_roundw
            case rel => exact ⟨k + 1, by omega, by go_num, Hst.out _ _ _ HR3.out (((Below.refl w.heap.size w3).setCell (p := ⟨w.heap.size, l, none⟩) (Nat.le_refl _) _).setCell (p := ⟨w.heap.size, l + 1, none⟩) (Nat.le_refl _) _).drew, (((Hrow3.out.set _ _).set _ _).drew).congr (fun i hi => by
              rw [HFs.out k hlt, ← Hl.out]
              exact swp_set _ _ n l (HFl.out k) (by omega) (fun _ _ => rfl) i hi), by
                obtain ⟨z1, z2, z3, z4⟩ := Hsz3.out
                exact ⟨by show _ ≤ ((w3.setCell _ _).setCell _ _).heap.size; rw [World.size_setCell, World.size_setCell]; exact z1, z2, z3, z4⟩⟩
            case measure => simp [intOf]; omega
        · obtain rfl : k = N := by omega
          go_wp2
          go_ret
          obtain ⟨z1, z2, z3, z4⟩ := Hsz.out
          refine Hend.out _ _ ⟨rfl, HR.out, ?_, z1, z2, z3, z4⟩
          rw [← HFN.out]
          exact Hrow.out
end Go.Proofs.Ytbappfeojdehgaa
