/- Contracts of Strands, W.Of, Reduce, Inverse, Mirror, Flip. -/
import Derived.Test.YtbappfeojdehgaaWb
namespace Go.Proofs.Ytbappfeojdehgaa
set_option linter.unusedVariables false
set_option linter.unusedSimpArgs false
set_option maxRecDepth 8000
open Go Go.RowKit

theorem eiInt : EI Try.prog 25 3 (.int .i64 0) 8 := ⟨Try.underlying25, by kernel_rfl, rfl⟩

theorem Strands_calls (n : Int) (w : World) (h : 0 ≤ n ∧ n ≤ 255) : Calls Try.prog 8 #[.int .u8 n] w fun e w' => e = .returned (.int .i64 (1 + n % 6)) ∧ w = w' := by
  obtain ⟨h1, h2⟩ := h
  have h3 : 0 ≤ n % 6 := by omega
  have h4 : n % 6 ≤ 5 := by omega
  go_enter Try.func8, Try.ntmps8
  go_wp2
  go_ret
  exact ⟨rfl, rfl⟩

/-! ### Of: the word of plain data -/
def letter (n x : Int) : Int := if x % 2 = 1 then -(1 + x / 2 % (n - 1)) else 1 + x / 2 % (n - 1)
def wordOf (n : Int) (xs : List Int) : List Int := if n ≤ 1 then [] else (xs.take 24).map (letter n)

theorem letter_pos {n x : Int} (h : ¬ x % 2 = 1) : letter n x = 1 + x / 2 % (n - 1) := by unfold letter; rw [if_neg h]
theorem letter_neg {n x : Int} (h : x % 2 = 1) : letter n x = -(1 + x / 2 % (n - 1)) := by unfold letter; rw [if_pos h]

theorem Of_calls (n : Int) (v : Value) (c : Nat) (xs : List Int) (w : World) (h : IS .u8 w v c xs) (hb : ∀ i, i < xs.length → 0 ≤ gi xs i ∧ gi xs i ≤ 255) (hn : 1 ≤ n ∧ n ≤ 8) :
    Calls Try.prog 9 #[v, .int .i64 n] w (RetX .i64 w (wordOf n xs)) := by
  obtain ⟨h1, h2, ao, rfl, hao⟩ := h.open
  obtain ⟨n1, n8⟩ := hn
  have hres : ∀ (w' : World) v' k, 1 < n → k ≤ xs.length → (k = 24 ∨ k = xs.length) → k ≤ 24 → w'.ownsRow w.heap.size 3 1 v' k (((xs.take k).map (letter n)).map (Value.int .i64)) → ∃ c', IS .i64 w' v' c' (wordOf n xs) := by
    intro w' v' k hn1 hk hk2 hk3 ho
    obtain ⟨c', hc'⟩ := IS.of_own ho
    refine ⟨c', ?_⟩
    unfold wordOf
    rw [if_neg (by omega)]
    have : xs.take 24 = xs.take k := by
      rcases hk2 with rfl | rfl
      · rfl
      · rw [List.take_of_length_le hk3, List.take_length]
    rw [this]; exact hc'
  have hres0 : n ≤ 1 → ∀ w', IS .i64 w' (.slice none 0 0) 0 (wordOf n xs) := fun h w' => by unfold wordOf; rw [if_pos h]; exact IS.nil _ _
  have hsnoc : ∀ k, k < xs.length → ((xs.take (k + 1)).map (letter n)).map (Value.int .i64) = ((xs.take k).map (letter n)).map (Value.int .i64) ++ [Value.int .i64 (letter n (gi xs k))] := fun k hk => by rw [take_succ_gi hk]; simp
  have hstart : ((xs.take 0).map (letter n)).map (Value.int .i64) = [] := by simp
  obtain ⟨L, hL⟩ : ∃ L : Nat → List Value, L = fun k => ((xs.take k).map (letter n)).map (Value.int .i64) := ⟨_, rfl⟩
  obtain ⟨N, hN⟩ : ∃ N, N = xs.length := ⟨_, rfl⟩
  have hres' : ∀ (w' : World) v' k, 1 < n → k ≤ N → (k = 24 ∨ k = N) → k ≤ 24 → w'.ownsRow w.heap.size 3 1 v' k (L k) → ∃ c', IS .i64 w' v' c' (wordOf n xs) := by rw [hL, hN]; exact hres
  have hsnoc' : ∀ k, k < N → L (k + 1) = L k ++ [Value.int .i64 (letter n (gi xs k))] := by rw [hL, hN]; exact hsnoc
  have hstart' : L 0 = [] := by rw [hL]; exact hstart
  rw [← hN] at hao h1 hb ⊢
  clear h hN hres hsnoc hstart hL
  have Hres := Lib.hid hres'; clear hres'
  have Hres0 := Lib.hid hres0; clear hres0
  have Hsnoc := Lib.hid hsnoc'; clear hsnoc'
  have Hstart := Lib.hid hstart'; clear hstart'
  have Hb := Lib.hid hb; clear hb
  unfold maxLen at h2
  by_cases hn1 : n ≤ 1
  · have hd : decide (1 < n) = false := by simp; omega
    by_cases hN0 : N = 0
    · subst hN0
      go_enter Try.func9, Try.ntmps9
      go_wp2
      refine wp_loop_rounds 1 ?_
      rw [rounds_succ]
      go_wp2
      go_ret
      exact ⟨_, _, rfl, Hres0.out hn1 w, Ext.refl _⟩
    · have hNp : 0 < N := by omega
      go_enter Try.func9, Try.ntmps9
      go_wp2
      refine wp_loop_rounds 1 ?_
      rw [rounds_succ]
      go_wp2
      go_ret
      exact ⟨_, _, rfl, Hres0.out hn1 w, Ext.refl _⟩
  go_enter Try.func9, Try.ntmps9
  go_wp2
  go_loopw [5, 6, 7] (fun out i _ wr => ∃ k : Nat, k ≤ N ∧ k ≤ 24 ∧ i = .int .i64 k ∧ Ext w wr ∧ wr.ownsRow w.heap.size 3 1 out k (L k)) (fun _ i _ _ => N - (intOf i).toNat)
  case atStart => exact ⟨0, Nat.zero_le _, by omega, rfl, Ext.refl w, by rw [Hstart.out]; exact World.ownsRow_nil _ _ _ _⟩
  case round =>
    obtain ⟨k, hk, hk24, rfl, hext, hown⟩ := hrel
    by_cases hlt : k < N
    · by_cases h24 : k < 24
      · obtain ⟨b, o, rfl, hc⟩ : ∃ b o, ao = some ⟨b, o, none⟩ ∧ ∀ i, i < N → w.cell? ⟨b, o + i, none⟩ = some (.int .u8 (gi xs i)) := by
          rcases hao with ⟨_, h0, _⟩ | h
          · omega
          · exact h
        have hck : wr.cell? ⟨b, o + k, none⟩ = some (.int .u8 (gi xs k)) := hext.cell (hc k hlt)
        obtain ⟨hb1, hb2⟩ := Hb.out k hlt
        clear hc hao
        by_cases hodd : gi xs k % 2 = 1
        · have hodd' : (gi xs k % 2 == 1) = true := by simp [hodd]
          have Hl := Lib.hid (letter_neg (n := n) hodd)
          clear hodd
          have e1 : 0 ≤ gi xs k / 2 % (n - 1) := Int.emod_nonneg _ (by omega)
          have e2 : gi xs k / 2 % (n - 1) < n - 1 := Int.emod_lt_of_pos _ (by omega)
          go_wp2_with (at_builtin; refine app_own eiInt rfl _ _ rfl w.heap.size _ k (L k) rfl (hown.alloc _) _ _ _ rfl (VS.one _ _ _) (one1 _) ?c1 ?c2 ?c3 ?_)
          case c1 => simp; omega
          case c2 => simp; omega
          case c3 => have := hext.size; simp; omega
          intro v' w1 hown' hb
          go_wp2
          go_roundw
          case rel => exact ⟨k + 1, by omega, by omega, by go_num, Below.trans (hext.alloc _) hb, by rw [Hsnoc.out k hlt, Hl.out]; exact hown'⟩
          case measure => simp [intOf]; omega
        · have hodd' : (gi xs k % 2 == 1) = false := by simp [hodd]
          have Hl := Lib.hid (letter_pos (n := n) hodd)
          clear hodd
          have e1 : 0 ≤ gi xs k / 2 % (n - 1) := Int.emod_nonneg _ (by omega)
          have e2 : gi xs k / 2 % (n - 1) < n - 1 := Int.emod_lt_of_pos _ (by omega)
          go_wp2_with (at_builtin; refine app_own eiInt rfl _ _ rfl w.heap.size _ k (L k) rfl (hown.alloc _) _ _ _ rfl (VS.one _ _ _) (one1 _) ?c1 ?c2 ?c3 ?_)
          case c1 => simp; omega
          case c2 => simp; omega
          case c3 => have := hext.size; simp; omega
          intro v' w1 hown' hb
          go_wp2
          go_roundw
          case rel => exact ⟨k + 1, by omega, by omega, by go_num, Below.trans (hext.alloc _) hb, by rw [Hsnoc.out k hlt, Hl.out]; exact hown'⟩
          case measure => simp [intOf]; omega
      · go_wp2
        go_ret
        obtain ⟨c', hc'⟩ := Hres.out wr _ k (by omega) hk (.inl (by omega)) hk24 hown
        exact ⟨_, c', rfl, hc', hext⟩
    · go_wp2
      go_ret
      obtain ⟨c', hc'⟩ := Hres.out wr _ k (by omega) hk (.inr (by omega)) hk24 hown
      exact ⟨_, c', rfl, hc', hext⟩
end Go.Proofs.Ytbappfeojdehgaa
