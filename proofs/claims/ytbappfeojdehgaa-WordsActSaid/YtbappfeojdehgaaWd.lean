/- Contracts of Reduce, Inverse, Mirror, Flip. -/
import Derived.Test.YtbappfeojdehgaaWc
import Derived.Test.YtbappfeojdehgaaRd
namespace Go.Proofs.Ytbappfeojdehgaa
set_option linter.unusedVariables false
set_option linter.unusedSimpArgs false
set_option maxRecDepth 8000
open Go Go.RowKit

/-! ### Reduce -/
theorem Reduce_bad (n : Int) (v : Value) (c : Nat) (xs : List Int) (w : World) (h : IS .i64 w v c xs) (hw : wcheck n xs ≠ 0) :
    Calls Try.prog 10 #[.int .i64 n, v] w (RetIE .i64 w 0 [] (wcheck n xs)) := by
  have hne : (wcheck n xs != 0) = true := by simpa using hw
  go_enter Try.func10, Try.ntmps10
  go_wp2_with fail
  refine (Check_calls _ _ _ _ _ h).mono ?_
  rintro e w1 ⟨rfl, rfl⟩
  go_wp2
  go_ret2
  exact ⟨_, rfl, IS.nil _ _, Ext.refl _⟩

theorem Reduce_calls (n : Int) (v : Value) (c : Nat) (xs : List Int) (w : World) (h : IS .i64 w v c xs) (hw : wcheck n xs = 0) (hb : ∀ i, i < xs.length → -100 ≤ gi xs i ∧ gi xs i ≤ 100) (hl : xs.length ≤ 64) :
    Calls Try.prog 10 #[.int .i64 n, v] w (RetIE .i64 w (red xs).length (red xs) 0) := by
  have hne : (wcheck n xs != 0) = false := by simpa using hw
  have hcall := Check_calls n v c xs w h
  rw [hw] at hcall
  obtain ⟨h1, h2, ao, rfl, hao⟩ := h.open
  obtain ⟨S, hS⟩ : ∃ S : Nat → List Int, S = fun k => red (xs.take k) := ⟨_, rfl⟩
  obtain ⟨N, hN⟩ : ∃ N, N = xs.length := ⟨_, rfl⟩
  have hS0 : S 0 = [] := by rw [hS]; simp [red]
  have hSs : ∀ k, k < N → S (k + 1) = redStep (S k) (gi xs k) := by rw [hS, hN]; intro k hk; simp only []; rw [take_succ_gi hk, red_snoc]
  have hSN : S N = red xs := by rw [hS, hN]; simp
  have hSl : ∀ k, (S k).length ≤ k := by rw [hS]; intro k; have := red_len (xs.take k); simp at this; simp only []; omega
  have Hcall := Lib.hid hcall; clear hcall
  rw [← hN] at hao h1 hl hb ⊢
  rw [← hN] at Hcall
  clear h hN hS hw
  have HS0 := Lib.hid hS0; clear hS0
  have HSs := Lib.hid hSs; clear hSs
  have HSN := Lib.hid hSN; clear hSN
  have HSl := Lib.hid hSl; clear hSl
  have Hb := Lib.hid hb; clear hb
  unfold maxLen at h2
  obtain ⟨i0, hi, hz0, hz1, hz2⟩ := info_parts eiInt.info
  have Hi := Lib.hid hi; have Hz0 := Lib.hid hz0; have Hz1 := Lib.hid hz1; have Hz2 := Lib.hid hz2
  clear hi hz0 hz1 hz2
  go_enter Try.func10, Try.ntmps10
  go_wp2_with fail
  refine Hcall.out.mono ?_
  rintro e w1 ⟨rfl, rfl⟩
  go_wp2_with (at_make; refine wpList_make_own _ rfl _ _ 25 rfl w.heap.size 3 i0 (.int .i64 0) 1 Try.underlying25 Hi.out Hz0.out Hz1.out .i64 .i64 _ N rfl rfl rfl ?c1 ?c2 (Nat.le_refl _) ?_)
  case c1 => rw [Hz2.out]; omega
  case c2 => unfold maxLen; omega
  intro w1 hown hg
  have hext : Ext w w1 := (Ext.refl w).grown hg (fun k h => by cases h)
  clear hg
  go_wp2
  go_loopw [7, 9, 10, 22] (fun l _ _ i wr => ∃ k m : Nat, k ≤ N ∧ m ≤ k ∧ i = .int .i64 k ∧ l = .slice (some ⟨w.heap.size, 0, none⟩) m N ∧ Hid (m = (S k).length) ∧ Ext w wr ∧ wr.ownsRow w.heap.size 3 1 (.slice (some ⟨w.heap.size, 0, none⟩) m N) m ((S k).map (Value.int .i64))) (fun _ _ _ i _ => N - (intOf i).toNat)
  case atStart => exact ⟨0, 0, Nat.zero_le _, Nat.zero_le _, rfl, rfl, by rw [HS0.out]; rfl, hext, by rw [HS0.out]; exact hown⟩
  case round =>
    obtain ⟨k, m, hk, hmk, rfl, rfl, Hm, hext, hown⟩ := hrel
    by_cases hlt : k < N
    · obtain ⟨b, o, rfl, hc⟩ : ∃ b o, ao = some ⟨b, o, none⟩ ∧ ∀ i, i < N → w.cell? ⟨b, o + i, none⟩ = some (.int .i64 (gi xs i)) := by
        rcases hao with ⟨_, h0, _⟩ | h
        · omega
        · exact h
      have hck : wr.cell? ⟨b, o + k, none⟩ = some (.int .i64 (gi xs k)) := hext.cell (hc k hlt)
      obtain ⟨hb1, hb2⟩ := Hb.out k hlt
      clear hc hao
      have hpush : (0 < m → gi (S k) (m - 1) ≠ -gi xs k) → S (k + 1) = S k ++ [gi xs k] := fun h => by
        rw [HSs.out k hlt]; exact redStep_push (by rw [← Hm.out]; exact h)
      have hpop : 0 < m → gi (S k) (m - 1) = -gi xs k → S (k + 1) = (S k).dropLast := fun h1 h2 => by
        rw [HSs.out k hlt]; exact redStep_pop (by rw [← Hm.out]; exact h1) (by rw [← Hm.out]; exact h2)
      have htop : 0 < m → wr.cell? ⟨w.heap.size, m - 1, none⟩ = some (.int .i64 (gi (S k) (m - 1))) := fun h => by
        rw [hown.cellAt (m - 1) (by omega), List.getElem?_map, gi_some (by rw [← Hm.out]; omega)]; rfl
      have Hpush := Lib.hid hpush; have Hpop := Lib.hid hpop
      clear hpush hpop
      by_cases hm0 : m = 0
      · subst hm0
        have Hp := Lib.hid (Hpush.out (fun h => by omega))
        clear htop
        go_wp2_with (at_builtin; refine app_fits eiInt rfl _ _ rfl w.heap.size w.heap.size 0 N _ rfl (hown.alloc _) _ _ _ rfl (VS.one _ _ _) (one1 _) ?c3 ?c4 ?_)
        case c3 => simp; omega
        case c4 => have := hext.size; simp; omega
        intro w1 hown' hb
        go_wp2
        go_roundw
        case rel => exact ⟨k + 1, 1, by omega, by omega, by go_num, rfl, by rw [Hp.out, List.length_append, ← Hm.out]; rfl, Below.trans (hext.alloc _) hb, by rw [Hp.out, List.map_append]; exact hown'⟩
        case measure => simp [intOf]; omega
      · have hmp : 0 < m := by omega
        have ht := htop hmp
        clear htop
        by_cases he : gi (S k) (m - 1) = -gi xs k
        · have he' : (gi (S k) (m - 1) == -gi xs k) = true := by simp [he]
          have Hp := Lib.hid (Hpop.out hmp he)
          clear he
          have hpo := own_pop hown
          go_wp2
          go_roundw
          case rel => exact ⟨k + 1, m - 1, by omega, by omega, by go_num, rfl, by rw [Hp.out, List.length_dropLast, ← Hm.out]; rfl, hext, by rw [Hp.out, List.map_dropLast]; exact hpo⟩
          case measure => simp [intOf]; omega
        · have he' : (gi (S k) (m - 1) == -gi xs k) = false := by simp [he]
          have Hp := Lib.hid (Hpush.out (fun _ => he))
          clear he
          go_wp2_with (at_builtin; refine app_fits eiInt rfl _ _ rfl w.heap.size w.heap.size m N _ rfl (hown.alloc _) _ _ _ rfl (VS.one _ _ _) (one1 _) ?d3 ?d4 ?_)
          case d3 => simp; omega
          case d4 => have := hext.size; simp; omega
          intro w1 hown' hb
          go_wp2
          go_roundw
          case rel => exact ⟨k + 1, m + 1, by omega, by omega, by go_num, rfl, by rw [Hp.out, List.length_append, ← Hm.out]; rfl, Below.trans (hext.alloc _) hb, by rw [Hp.out, List.map_append]; exact hown'⟩
          case measure => simp [intOf]; omega
    · obtain rfl : k = N := by omega
      obtain ⟨c', hIS⟩ : ∃ c, IS .i64 wr (.slice (some ⟨w.heap.size, 0, none⟩) m k) c (S k) := IS.of_own hown
      go_wp2_with fail
      refine (Clip_calls _ _ _ _ hIS).mono ?_
      rintro e w2 ⟨v', rfl, hv, rfl⟩
      go_wp2
      go_ret2
      rw [HSN.out] at hv
      exact ⟨_, rfl, hv, hext⟩


/-! ### Inverse, Mirror, Flip -/

theorem Inverse_bad (n : Int) (v : Value) (c : Nat) (xs : List Int) (w : World) (h : IS .i64 w v c xs) (hw : wcheck n xs ≠ 0) :
    Calls Try.prog 11 #[.int .i64 n, v] w (RetIE .i64 w 0 [] (wcheck n xs)) := by
  have hne : (wcheck n xs != 0) = true := by simpa using hw
  go_enter Try.func11, Try.ntmps11
  go_wp2_with fail
  refine (Check_calls _ _ _ _ _ h).mono ?_
  rintro e w1 ⟨rfl, rfl⟩
  go_wp2
  go_ret2
  exact ⟨_, rfl, IS.nil _ _, Ext.refl _⟩

theorem Inverse_calls (n : Int) (v : Value) (c : Nat) (xs : List Int) (w : World) (h : IS .i64 w v c xs) (hw : wcheck n xs = 0) (hb : ∀ i, i < xs.length → -100 ≤ gi xs i ∧ gi xs i ≤ 100) (hl : xs.length ≤ 64) :
    Calls Try.prog 11 #[.int .i64 n, v] w (RetIE .i64 w xs.length (xs.reverse.map (fun x => -x)) 0) := by
  have hcall := fun w h => Check_calls n v c xs w h
  rw [hw] at hcall
  have Hcall := Lib.hid hcall; clear hcall
  have Hb := Lib.hid hb; clear hb
  go_enter Try.func11, Try.ntmps11
  go_wp2_with fail
  refine (Hcall.out _ h).mono ?_
  rintro e w1 ⟨rfl, rfl⟩
  go_wp2_with fail
  refine (inverse_calls _ _ _ _ h (by omega) (fun i hi => by have := Hb.out i hi; omega)).mono ?_
  rintro e w2 ⟨v', rfl, hv, hx, _⟩
  go_wp2
  go_ret2
  exact ⟨_, rfl, hv, hx⟩

theorem Mirror_bad (n : Int) (v : Value) (c : Nat) (xs : List Int) (w : World) (h : IS .i64 w v c xs) (hw : wcheck n xs ≠ 0) :
    Calls Try.prog 12 #[.int .i64 n, v] w (RetIE .i64 w 0 [] (wcheck n xs)) := by
  have hne : (wcheck n xs != 0) = true := by simpa using hw
  go_enter Try.func12, Try.ntmps12
  go_wp2_with fail
  refine (Check_calls _ _ _ _ _ h).mono ?_
  rintro e w1 ⟨rfl, rfl⟩
  go_wp2
  go_ret2
  exact ⟨_, rfl, IS.nil _ _, Ext.refl _⟩

theorem Mirror_calls (n : Int) (v : Value) (c : Nat) (xs : List Int) (w : World) (h : IS .i64 w v c xs) (hw : wcheck n xs = 0) (hb : ∀ i, i < xs.length → -100 ≤ gi xs i ∧ gi xs i ≤ 100) (hl : xs.length ≤ 64) :
    Calls Try.prog 12 #[.int .i64 n, v] w (RetIE .i64 w xs.length (xs.map (fun k => -k)) 0) := by
  have hcall := fun w h => Check_calls n v c xs w h
  rw [hw] at hcall
  have Hcall := Lib.hid hcall; clear hcall
  have Hb := Lib.hid hb; clear hb
  go_enter Try.func12, Try.ntmps12
  go_wp2_with fail
  refine (Hcall.out _ h).mono ?_
  rintro e w1 ⟨rfl, rfl⟩
  go_wp2_with fail
  refine (each_Mirror_calls _ _ _ _ h (by omega) Hb.out).mono ?_
  rintro e w2 ⟨v', rfl, hv, hx, _⟩
  go_wp2
  go_ret2
  exact ⟨_, rfl, hv, hx⟩

theorem Flip_bad (n : Int) (v : Value) (c : Nat) (xs : List Int) (w : World) (h : IS .i64 w v c xs) (hw : wcheck n xs ≠ 0) :
    Calls Try.prog 13 #[.int .i64 n, v] w (RetIE .i64 w 0 [] (wcheck n xs)) := by
  have hne : (wcheck n xs != 0) = true := by simpa using hw
  go_enter Try.func13, Try.ntmps13
  go_wp2_with fail
  refine (Check_calls _ _ _ _ _ (h.ext ((Ext.refl _).alloc _))).mono ?_
  rintro e w1 ⟨rfl, rfl⟩
  go_wp2
  go_ret2
  exact ⟨_, rfl, IS.nil _ _, (Ext.refl _).alloc _⟩

theorem Flip_calls (n : Int) (v : Value) (c : Nat) (xs : List Int) (w : World) (h : IS .i64 w v c xs) (hw : wcheck n xs = 0) (hn : 1 ≤ n ∧ n ≤ 8) (hb : ∀ i, i < xs.length → -100 ≤ gi xs i ∧ gi xs i ≤ 100) (hl : xs.length ≤ 64) :
    Calls Try.prog 13 #[.int .i64 n, v] w (RetIE .i64 w xs.length (xs.map (flipk n)) 0) := by
  have hcall := fun w h => Check_calls n v c xs w h
  rw [hw] at hcall
  have Hcall := Lib.hid hcall; clear hcall
  have Hb := Lib.hid hb; clear hb
  go_enter Try.func13, Try.ntmps13
  go_wp2_with fail
  refine (Hcall.out _ (h.ext ((Ext.refl _).alloc _))).mono ?_
  rintro e w1 ⟨rfl, rfl⟩
  go_wp2_with fail
  refine (each_Flip_calls n _ _ _ _ _ (h.ext ((Ext.refl _).alloc _)) (by omega) Hb.out hn (World.cell?_alloc_at (hn := rfl) ..)).mono ?_
  rintro e w2 ⟨v', rfl, hv, hx, _⟩
  go_wp2
  go_ret2
  exact ⟨_, rfl, hv, ((Ext.refl _).alloc _).trans hx⟩

end Go.Proofs.Ytbappfeojdehgaa
