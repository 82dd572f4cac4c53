/- Texts of this claim in one file: libraries and walks. -/
import Derived.Test.YtigffblelngpjaaDoorProg
import Derived.BigRegion
import Derived.Test.YtigffblelngpjaaDoorL0
/- Contracts of the leaf functions of package words: Check, sign, inverse. -/
namespace Go.Proofs.YtigffblelngpjaaDoor
set_option linter.unusedVariables false
set_option linter.unusedSimpArgs false
set_option maxRecDepth 8000
open Go Go.RowKit

/-! ### Check -/
def wbad (n k : Int) : Bool := k == 0 || decide (k < 1 - n) || decide (n - 1 < k)
def wcheck (n : Int) (xs : List Int) : Int :=
  if n < 1 ∨ 8 < n then 1 else if 64 < xs.length then 3 else if xs.any (wbad n) then 1 else 0

theorem wbad_of {n k : Int} (h : k = 0 ∨ k < 1 - n ∨ n - 1 < k) : wbad n k = true := by
  unfold wbad; simp; omega
theorem wbad_not {n k : Int} (h0 : ¬ k = 0) (h1 : ¬ k < 1 - n) (h2 : ¬ n - 1 < k) : wbad n k = false := by
  unfold wbad; simp; omega

theorem wcheck_bad {n : Int} {xs : List Int} {i : Nat} (h : 1 ≤ n) (h8 : n ≤ 8) (hl : xs.length ≤ 64) (hi : i < xs.length) (hb : wbad n (gi xs i) = true) : wcheck n xs = 1 := by
  unfold wcheck
  rw [if_neg (by omega), if_neg (by omega), if_pos]
  rw [List.any_eq_true]; exact ⟨_, gi_mem hi, hb⟩
theorem wcheck_ok {n : Int} {xs : List Int} (h : 1 ≤ n) (h8 : n ≤ 8) (hl : xs.length ≤ 64) (hb : ∀ i, i < xs.length → wbad n (gi xs i) = false) : wcheck n xs = 0 := by
  unfold wcheck
  rw [if_neg (by omega), if_neg (by omega), if_neg]
  rw [List.any_eq_true]
  rintro ⟨x, hx, hb'⟩
  have := gi_all (P := fun x => wbad n x = false) hb x hx
  simp_all

theorem Check_calls (n : Int) (v : Value) (c : Nat) (xs : List Int) (w : World) (h : IS .i64 w v c xs) :
    Calls Tryd.prog 31 #[.int .i64 n, v] w fun e w' => e = .returned (.int .i64 (wcheck n xs)) ∧ w = w' := by
  obtain ⟨h1, h2, ao, rfl, hao⟩ := h.open
  obtain ⟨N, hN⟩ : ∃ N, N = xs.length := ⟨_, rfl⟩
  have hbad : ∀ i, i < N → 1 ≤ n → n ≤ 8 → N ≤ 64 → wbad n (gi xs i) = true → wcheck n xs = 1 := fun i hi a b cc d => wcheck_bad a b (by omega) (by omega) d
  have hok : 1 ≤ n → n ≤ 8 → N ≤ 64 → (∀ i, i < N → wbad n (gi xs i) = false) → wcheck n xs = 0 := fun a b cc d => wcheck_ok a b (by omega) (by rw [← hN]; exact d)
  have hlong : 1 ≤ n → n ≤ 8 → 64 < N → wcheck n xs = 3 := fun a b d => by unfold wcheck; rw [if_neg (by omega), if_pos (by omega)]
  have harg : n < 1 ∨ 8 < n → wcheck n xs = 1 := fun d => by unfold wcheck; rw [if_pos d]
  have Hbad := Lib.hid hbad; have Hok := Lib.hid hok; have Hlong := Lib.hid hlong; have Harg := Lib.hid harg
  clear hbad hok hlong harg
  rw [← hN] at hao h1 ⊢
  clear hN
  unfold maxLen at h2
  by_cases n1 : n < 1
  · go_enter Tryd.func31, Tryd.ntmps31
    go_wp2
    go_ret
    exact ⟨ret_int (Harg.out (.inl n1)).symm, rfl⟩
  by_cases n8 : 8 < n
  · go_enter Tryd.func31, Tryd.ntmps31
    go_wp2
    go_ret
    exact ⟨ret_int (Harg.out (.inr n8)).symm, rfl⟩
  by_cases h64 : 64 < N
  · go_enter Tryd.func31, Tryd.ntmps31
    go_wp2
    go_ret
    exact ⟨ret_int (Hlong.out (by omega) (by omega) h64).symm, rfl⟩
  go_enter Tryd.func31, Tryd.ntmps31
  go_wp2
  go_loop [6, 18] (fun _ i => ∃ k : Nat, k ≤ N ∧ i = .int .i64 k ∧ ∀ i, i < k → wbad n (gi xs i) = false) (fun _ i => N - (intOf i).toNat)
  case atStart => exact ⟨0, Nat.zero_le _, rfl, fun i hi => by omega⟩
  case round =>
    obtain ⟨k, hk, rfl, hgood⟩ := hrel
    have Hgood := Lib.hid hgood; clear hgood
    by_cases hlt : k < N
    · obtain ⟨b, o, rfl, hc⟩ : ∃ b o, ao = some ⟨b, o, none⟩ ∧ ∀ i, i < N → w.cell? ⟨b, o + i, none⟩ = some (.int .i64 (gi xs i)) := by
        rcases hao with ⟨_, h0, _⟩ | h
        · omega
        · exact h
      have hck := hc k hlt
      clear hc hao
      by_cases z0 : gi xs k = 0
      · have z0' : (gi xs k == 0) = true := by simp [z0]
        have B := Lib.hid (Hbad.out k hlt (by omega) (by omega) (by omega) (wbad_of (.inl z0)))
        clear z0
        go_wp2
        go_ret
        exact ⟨ret_int (B.out).symm, rfl⟩
      · have z0' : (gi xs k == 0) = false := by simp [z0]
        by_cases z1 : gi xs k < 1 - n
        · have B := Lib.hid (Hbad.out k hlt (by omega) (by omega) (by omega) (wbad_of (.inr (.inl z1))))
          go_wp2
          go_ret
          exact ⟨ret_int (B.out).symm, rfl⟩
        · by_cases z2 : n - 1 < gi xs k
          · have B := Lib.hid (Hbad.out k hlt (by omega) (by omega) (by omega) (wbad_of (.inr (.inr z2))))
            go_wp2
            go_ret
            exact ⟨ret_int (B.out).symm, rfl⟩
          · go_wp2
            go_round
            case rel => exact ⟨k + 1, by omega, by go_num, fun i hi => by
              by_cases e : i = k
              · subst e; exact wbad_not z0 z1 z2
              · exact Hgood.out i (by omega)⟩
            case measure => simp [intOf]; omega
    · go_wp2
      go_ret
      have : k = N := by omega
      subst this
      exact ⟨ret_int (Hok.out (by omega) (by omega) (by omega) Hgood.out).symm, rfl⟩


/-! ### sign, inverse -/
def sgn (k : Int) : Int := if k < 0 then -1 else 1
theorem sgn_neg {k : Int} (h : k < 0) : sgn k = -1 := by unfold sgn; rw [if_pos h]
theorem sgn_pos {k : Int} (h : ¬ k < 0) : sgn k = 1 := by unfold sgn; rw [if_neg h]

theorem sign_calls (k : Int) (w : World) : Calls Tryd.prog 78 #[.int .i64 k] w fun e w' => e = .returned (.int .i64 (sgn k)) ∧ w = w' := by
  by_cases h : k < 0
  · have hs := Lib.hid (sgn_neg h)
    go_enter Tryd.func78, Tryd.ntmps78
    go_wp2
    go_ret
    exact ⟨ret_int hs.out.symm, rfl⟩
  · have hs := Lib.hid (sgn_pos h)
    go_enter Tryd.func78, Tryd.ntmps78
    go_wp2
    go_ret
    exact ⟨ret_int hs.out.symm, rfl⟩

/-- What Flip makes of a letter. -/
def flipk (n k : Int) : Int := sgn k * n - k

theorem flipk_bd {n k : Int} (h1 : -100 ≤ k) (h2 : k ≤ 100) (h3 : 1 ≤ n) (h4 : n ≤ 8) : -8 ≤ sgn k * n ∧ sgn k * n ≤ 8 ∧ -200 ≤ flipk n k ∧ flipk n k ≤ 200 := by
  unfold flipk
  by_cases h : k < 0
  · rw [sgn_neg h]; omega
  · rw [sgn_pos h]; omega
theorem flip_wrap {n k : Int} (h1 : -100 ≤ k) (h2 : k ≤ 100) (h3 : 1 ≤ n) (h4 : n ≤ 8) : wrap64 (wrap64 (sgn k * n) - k) = flipk n k := by
  obtain ⟨a, b, c, d⟩ := flipk_bd h1 h2 h3 h4
  rw [IntWalk.wrap64_in (sgn k * n) ⟨by omega, by omega⟩]
  unfold flipk at *
  exact IntWalk.wrap64_in _ ⟨by omega, by omega⟩

/-! ### inverse -/
theorem negs_gi {xs : List Int} {i : Nat} (h : i < xs.length) : gi (xs.reverse.map (fun x => -x)) i = - gi xs (xs.length - 1 - i) := by
  rw [gi_map _ (by simpa using h), gi_reverse h]

theorem winverse_calls (v : Value) (c : Nat) (xs : List Int) (w : World) (h : IS .i64 w v c xs) (hl : xs.length ≤ 1000000) (hb : ∀ i, i < xs.length → -1000 ≤ gi xs i ∧ gi xs i ≤ 1000) :
    Calls Tryd.prog 42 #[v] w (RetI .i64 w xs.length (xs.reverse.map (fun x => -x))) := by
  obtain ⟨h1, h2, ao, rfl, hao⟩ := h.open
  have hres : ∀ (w' : World) f, (∀ i, i < xs.length → f i = Value.int .i64 (- gi xs (xs.length - 1 - i))) → w'.rowIs w.heap.size 3 xs.length f → IS .i64 w' (.slice (some ⟨w.heap.size, 0, none⟩) xs.length xs.length) xs.length (xs.reverse.map (fun x => -x)) := by
    intro w' f hf hr
    refine IS.of_row hr (by simp) (by unfold maxLen; omega) fun i hi => ?_
    rw [negs_gi hi]; exact hf i hi
  obtain ⟨N, hN⟩ : ∃ N, N = xs.length := ⟨_, rfl⟩
  rw [← hN] at hao h1 hl hres hb ⊢
  clear h hN
  have Hres := Lib.hid hres; clear hres
  have Hb := Lib.hid hb; clear hb
  have hmk := run_make_row' (P := Tryd.prog) 34 3 (.int .i64 0) 8 Tryd.underlying34 (by kernel_rfl) rfl .i64 .i64 N (by omega) (by omega)
  go_enter Tryd.func42, Tryd.ntmps42
  go_wp2
  go_loopw [4, 5, 11] (fun _ _ i wr => ∃ k : Nat, k ≤ N ∧ i = .int .i64 k ∧ Ext w wr ∧ ∃ f, wr.rowIs w.heap.size 3 N f ∧ ∀ i, i < N → N - k ≤ i → f i = Value.int .i64 (- gi xs (N - 1 - i))) (fun _ _ i _ => N - (intOf i).toNat)
  case atStart => exact ⟨0, Nat.zero_le _, rfl, (Ext.refl w).alloc _, _, World.rowIs_made _ _ _ _, fun i h1 h2 => by omega⟩
  case round =>
    obtain ⟨k, hk, rfl, hext, f, hrow, hf⟩ := hrel
    have Hf := Lib.hid hf; clear hf
    by_cases hlt : k < N
    · obtain ⟨b, o, rfl, hc⟩ : ∃ b o, ao = some ⟨b, o, none⟩ ∧ ∀ i, i < N → w.cell? ⟨b, o + i, none⟩ = some (.int .i64 (gi xs i)) := by
        rcases hao with ⟨_, h0, _⟩ | h
        · omega
        · exact h
      have hck : wr.cell? ⟨b, o + k, none⟩ = some (.int .i64 (gi xs k)) := hext.cell (hc k hlt)
      have hst := hrow.cell (i := N - 1 - k) (by omega)
      have hfz := hrow.frozen (N - 1 - k)
      obtain ⟨hb1, hb2⟩ := Hb.out k hlt
      clear hc hao
      go_wp2
      go_roundw
      case rel => exact ⟨k + 1, by omega, by go_num, hext.setCell (Nat.le_refl _) _, _, hrow.set _ _, fun i h1 h2 => by
        by_cases e : i = N - 1 - k
        · rw [if_pos e, e, show N - 1 - (N - 1 - k) = k from by omega]
        · rw [if_neg e]; exact Hf.out i h1 (by omega)⟩
      case measure => simp [intOf]; omega
    · go_wp2
      go_ret
      exact ⟨_, rfl, Hres.out wr f (fun i hi => Hf.out i hi (by omega)) hrow, hext, NN.mk⟩
end Go.Proofs.YtigffblelngpjaaDoor
/- Contracts of each (with the closures of Mirror and Flip), Clip, Inverse, Mirror, Flip. -/
namespace Go.Proofs.YtigffblelngpjaaDoor
set_option linter.unusedVariables false
set_option linter.unusedSimpArgs false
set_option maxRecDepth 8000
open Go Go.RowKit

end Go.Proofs.YtigffblelngpjaaDoor
/- Contracts of Strands, W.Of, Reduce, Inverse, Mirror, Flip. -/
namespace Go.Proofs.YtigffblelngpjaaDoor
set_option linter.unusedVariables false
set_option linter.unusedSimpArgs false
set_option maxRecDepth 8000
open Go Go.RowKit

theorem weiInt : EI Tryd.prog 34 3 (.int .i64 0) 8 := ⟨Tryd.underlying34, by kernel_rfl, rfl⟩

theorem Strands_calls (n : Int) (w : World) (h : 0 ≤ n ∧ n ≤ 255) : Calls Tryd.prog 8 #[.int .u8 n] w fun e w' => e = .returned (.int .i64 (1 + n % 6)) ∧ w = w' := by
  obtain ⟨h1, h2⟩ := h
  have h3 : 0 ≤ n % 6 := by omega
  have h4 : n % 6 ≤ 5 := by omega
  go_enter Tryd.func8, Tryd.ntmps8
  go_wp2
  go_ret
  exact ⟨rfl, rfl⟩

/-! ### Of: the word of plain data -/
def letter (n x : Int) : Int := if x % 2 = 1 then -(1 + x / 2 % (n - 1)) else 1 + x / 2 % (n - 1)
def wordOf (n : Int) (xs : List Int) : List Int := if n ≤ 1 then [] else (xs.take 24).map (letter n)

theorem letter_pos {n x : Int} (h : ¬ x % 2 = 1) : letter n x = 1 + x / 2 % (n - 1) := by unfold letter; rw [if_neg h]
theorem letter_neg {n x : Int} (h : x % 2 = 1) : letter n x = -(1 + x / 2 % (n - 1)) := by unfold letter; rw [if_pos h]

theorem WOf_calls (n : Int) (v : Value) (c : Nat) (xs : List Int) (w : World) (h : IS .u8 w v c xs) (hb : ∀ i, i < xs.length → 0 ≤ gi xs i ∧ gi xs i ≤ 255) (hn : 1 ≤ n ∧ n ≤ 8) :
    Calls Tryd.prog 10 #[v, .int .i64 n] w (RetX .i64 w (wordOf n xs)) := by
  obtain ⟨h1, h2, ao, rfl, hao⟩ := h.open
  obtain ⟨n1, n8⟩ := hn
  have hres : ∀ (w' : World) v' k, 1 < n → k ≤ xs.length → (k = 24 ∨ k = xs.length) → k ≤ 24 → w'.ownsRow w.heap.size 3 1 v' k (((xs.take k).map (letter n)).map (Value.int .i64)) → ∃ c', IS .i64 w' v' c' (wordOf n xs) := by
    intro w' v' k hn1 hk hk2 hk3 ho
    obtain ⟨c', hc'⟩ := IS.of_own ho
    refine ⟨c', ?_⟩
    unfold wordOf
    rw [if_neg (by omega)]
    have : xs.take 24 = xs.take k := by
      rcases hk2 with rfl | rfl
      · rfl
      · rw [List.take_of_length_le hk3, List.take_length]
    rw [this]; exact hc'
  have hres0 : n ≤ 1 → ∀ w', IS .i64 w' (.slice none 0 0) 0 (wordOf n xs) := fun h w' => by unfold wordOf; rw [if_pos h]; exact IS.nil _ _
  have hsnoc : ∀ k, k < xs.length → ((xs.take (k + 1)).map (letter n)).map (Value.int .i64) = ((xs.take k).map (letter n)).map (Value.int .i64) ++ [Value.int .i64 (letter n (gi xs k))] := fun k hk => by rw [take_succ_gi hk]; simp
  have hstart : ((xs.take 0).map (letter n)).map (Value.int .i64) = [] := by simp
  obtain ⟨L, hL⟩ : ∃ L : Nat → List Value, L = fun k => ((xs.take k).map (letter n)).map (Value.int .i64) := ⟨_, rfl⟩
  obtain ⟨N, hN⟩ : ∃ N, N = xs.length := ⟨_, rfl⟩
  have hres' : ∀ (w' : World) v' k, 1 < n → k ≤ N → (k = 24 ∨ k = N) → k ≤ 24 → w'.ownsRow w.heap.size 3 1 v' k (L k) → ∃ c', IS .i64 w' v' c' (wordOf n xs) := by rw [hL, hN]; exact hres
  have hsnoc' : ∀ k, k < N → L (k + 1) = L k ++ [Value.int .i64 (letter n (gi xs k))] := by rw [hL, hN]; exact hsnoc
  have hstart' : L 0 = [] := by rw [hL]; exact hstart
  rw [← hN] at hao h1 hb ⊢
  clear h hN hres hsnoc hstart hL
  have Hres := Lib.hid hres'; clear hres'
  have Hres0 := Lib.hid hres0; clear hres0
  have Hsnoc := Lib.hid hsnoc'; clear hsnoc'
  have Hstart := Lib.hid hstart'; clear hstart'
  have Hb := Lib.hid hb; clear hb
  unfold maxLen at h2
  by_cases hn1 : n ≤ 1
  · have hd : decide (1 < n) = false := by simp; omega
    by_cases hN0 : N = 0
    · subst hN0
      go_enter Tryd.func10, Tryd.ntmps10
      go_wp2
      refine wp_loop_rounds 1 ?_
      rw [rounds_succ]
      go_wp2
      go_ret
      exact ⟨_, _, rfl, Hres0.out hn1 w, Ext.refl _⟩
    · have hNp : 0 < N := by omega
      go_enter Tryd.func10, Tryd.ntmps10
      go_wp2
      refine wp_loop_rounds 1 ?_
      rw [rounds_succ]
      go_wp2
      go_ret
      exact ⟨_, _, rfl, Hres0.out hn1 w, Ext.refl _⟩
  go_enter Tryd.func10, Tryd.ntmps10
  go_wp2
  go_loopw [5, 6, 7] (fun out i _ wr => ∃ k : Nat, k ≤ N ∧ k ≤ 24 ∧ i = .int .i64 k ∧ Ext w wr ∧ wr.ownsRow w.heap.size 3 1 out k (L k)) (fun _ i _ _ => N - (intOf i).toNat)
  case atStart => exact ⟨0, Nat.zero_le _, by omega, rfl, Ext.refl w, by rw [Hstart.out]; exact World.ownsRow_nil _ _ _ _⟩
  case round =>
    obtain ⟨k, hk, hk24, rfl, hext, hown⟩ := hrel
    by_cases hlt : k < N
    · by_cases h24 : k < 24
      · obtain ⟨b, o, rfl, hc⟩ : ∃ b o, ao = some ⟨b, o, none⟩ ∧ ∀ i, i < N → w.cell? ⟨b, o + i, none⟩ = some (.int .u8 (gi xs i)) := by
          rcases hao with ⟨_, h0, _⟩ | h
          · omega
          · exact h
        have hck : wr.cell? ⟨b, o + k, none⟩ = some (.int .u8 (gi xs k)) := hext.cell (hc k hlt)
        obtain ⟨hb1, hb2⟩ := Hb.out k hlt
        clear hc hao
        by_cases hodd : gi xs k % 2 = 1
        · have hodd' : (gi xs k % 2 == 1) = true := by simp [hodd]
          have Hl := Lib.hid (letter_neg (n := n) hodd)
          clear hodd
          have e1 : 0 ≤ gi xs k / 2 % (n - 1) := Int.emod_nonneg _ (by omega)
          have e2 : gi xs k / 2 % (n - 1) < n - 1 := Int.emod_lt_of_pos _ (by omega)
          go_wp2_with (at_builtin; refine app_own weiInt rfl _ _ rfl w.heap.size _ k (L k) rfl (hown.alloc _) _ _ _ rfl (VS.one _ _ _) (one1 _) ?c1 ?c2 ?c3 ?_)
          case c1 => simp; omega
          case c2 => simp; omega
          case c3 => have := hext.size; simp; omega
          intro v' w1 hown' hb
          go_wp2
          go_roundw
          case rel => exact ⟨k + 1, by omega, by omega, by go_num, Below.trans (hext.alloc _) hb, by rw [Hsnoc.out k hlt, Hl.out]; exact hown'⟩
          case measure => simp [intOf]; omega
        · have hodd' : (gi xs k % 2 == 1) = false := by simp [hodd]
          have Hl := Lib.hid (letter_pos (n := n) hodd)
          clear hodd
          have e1 : 0 ≤ gi xs k / 2 % (n - 1) := Int.emod_nonneg _ (by omega)
          have e2 : gi xs k / 2 % (n - 1) < n - 1 := Int.emod_lt_of_pos _ (by omega)
          go_wp2_with (at_builtin; refine app_own weiInt rfl _ _ rfl w.heap.size _ k (L k) rfl (hown.alloc _) _ _ _ rfl (VS.one _ _ _) (one1 _) ?c1 ?c2 ?c3 ?_)
          case c1 => simp; omega
          case c2 => simp; omega
          case c3 => have := hext.size; simp; omega
          intro v' w1 hown' hb
          go_wp2
          go_roundw
          case rel => exact ⟨k + 1, by omega, by omega, by go_num, Below.trans (hext.alloc _) hb, by rw [Hsnoc.out k hlt, Hl.out]; exact hown'⟩
          case measure => simp [intOf]; omega
      · go_wp2
        go_ret
        obtain ⟨c', hc'⟩ := Hres.out wr _ k (by omega) hk (.inl (by omega)) hk24 hown
        exact ⟨_, c', rfl, hc', hext⟩
    · go_wp2
      go_ret
      obtain ⟨c', hc'⟩ := Hres.out wr _ k (by omega) hk (.inr (by omega)) hk24 hown
      exact ⟨_, c', rfl, hc', hext⟩
end Go.Proofs.YtigffblelngpjaaDoor
/- Plain mathematics of free reduction: the stack's answer is what taking pairs away one by one gives. -/
namespace Go.Proofs.YtigffblelngpjaaDoor
set_option linter.unusedVariables false
set_option linter.unusedSimpArgs false
set_option maxRecDepth 8000

def redStep (st : List Int) (k : Int) : List Int := if st.getLast? = some (-k) then st.dropLast else st ++ [k]
def red (xs : List Int) : List Int := xs.foldl redStep []

theorem red_snoc (xs : List Int) (k : Int) : red (xs ++ [k]) = redStep (red xs) k := by unfold red; simp
theorem redStep_len (st : List Int) (k : Int) : (redStep st k).length ≤ st.length + 1 := by
  unfold redStep; split <;> simp; omega
theorem red_len' (xs : List Int) : ∀ st, (xs.foldl redStep st).length ≤ st.length + xs.length := by
  induction xs with
  | nil => intro st; simp
  | cons k xs ih => intro st; have := ih (redStep st k); have := redStep_len st k; simp only [List.foldl_cons, List.length_cons]; omega
theorem red_len (xs : List Int) : (red xs).length ≤ xs.length := by have := red_len' xs []; simpa [red] using this

theorem gi_last {st : List Int} (h : 0 < st.length) : st.getLast? = some (gi st (st.length - 1)) := by
  rw [List.getLast?_eq_getElem?, gi_some (by omega)]
theorem redStep_pop {st : List Int} {k : Int} (h : 0 < st.length) (he : gi st (st.length - 1) = -k) : redStep st k = st.dropLast := by
  unfold redStep; rw [if_pos (by rw [gi_last h, he])]
theorem redStep_push {st : List Int} {k : Int} (he : 0 < st.length → gi st (st.length - 1) ≠ -k) : redStep st k = st ++ [k] := by
  unfold redStep
  rw [if_neg]
  by_cases h : 0 < st.length
  · rw [gi_last h]; simpa using he h
  · have : st = [] := List.eq_nil_of_length_eq_zero (by omega)
    subst this; simp

/-- What is left to do at place i: the stack goes on from the first i letters. -/
def rest (st : List Int) (i : Nat) : List Int := (st.drop i).foldl redStep (st.take i)

theorem rest_zero (xs : List Int) : rest xs 0 = red xs := by unfold rest red; simp

/-- The first n letters do not cancel. -/
def Redd (st : List Int) (n : Nat) : Prop := ∀ j, j + 1 < n → j + 1 < st.length → gi st j ≠ - gi st (j + 1)

theorem rest_end {st : List Int} {i : Nat} (h : ¬ i + 1 < st.length) (hr : Redd st (i + 1)) : rest st i = st := by
  unfold rest
  by_cases hi : i < st.length
  · have hd : st.drop i = [gi st i] := by
      rw [List.drop_eq_getElem_cons hi, gi_of_lt hi, List.drop_of_length_le (by omega)]
    rw [hd]
    simp only [List.foldl_cons, List.foldl_nil]
    rw [redStep_push]
    · rw [← take_succ_gi hi, List.take_of_length_le (by omega)]
    · intro h0
      simp only [List.length_take] at h0 ⊢
      rw [show min i st.length - 1 = i - 1 from by omega, gi_take (by omega)]
      have := hr (i - 1) (by omega) (by omega)
      rwa [show i - 1 + 1 = i from by omega] at this
  · rw [List.drop_of_length_le (by omega), List.take_of_length_le (by omega)]; rfl

theorem rest_step {st : List Int} {i : Nat} (h : i + 1 < st.length) (hr : Redd st (i + 1)) (hne : gi st i ≠ - gi st (i + 1)) : rest st (i + 1) = rest st i ∧ Redd st (i + 2) := by
  constructor
  · unfold rest
    have hd : st.drop i = gi st i :: st.drop (i + 1) := by rw [List.drop_eq_getElem_cons (by omega), gi_of_lt (by omega)]
    rw [hd]
    simp only [List.foldl_cons]
    rw [redStep_push, ← take_succ_gi (by omega)]
    intro h0
    simp only [List.length_take] at h0 ⊢
    rw [show min i st.length - 1 = i - 1 from by omega, gi_take (by omega)]
    have := hr (i - 1) (by omega) (by omega)
    rwa [show i - 1 + 1 = i from by omega] at this
  · intro j hj hj2
    by_cases e : j = i
    · subst e; exact hne
    · exact hr j (by omega) hj2

theorem rest_cut {st : List Int} {i : Nat} (h : i + 1 < st.length) (hr : Redd st (i + 1)) (he : gi st i = - gi st (i + 1)) :
    rest (st.take i ++ st.drop (i + 2)) (i - 1) = rest st i ∧ Redd (st.take i ++ st.drop (i + 2)) (i - 1 + 1) := by
  have hlen : (st.take i).length = i := by simp; omega
  have hd : st.drop i = gi st i :: gi st (i + 1) :: st.drop (i + 2) := by
    rw [List.drop_eq_getElem_cons (by omega), List.drop_eq_getElem_cons (by omega), gi_of_lt (by omega), gi_of_lt (by omega)]
  have push : redStep (st.take i) (gi st i) = st.take (i + 1) := by
    rw [redStep_push, ← take_succ_gi (by omega)]
    intro h0
    rw [hlen] at h0 ⊢
    rw [gi_take (by omega)]
    have := hr (i - 1) (by omega) (by omega)
    rwa [show i - 1 + 1 = i from by omega] at this
  have pop : redStep (st.take (i + 1)) (gi st (i + 1)) = st.take i := by
    rw [redStep_pop]
    · rw [List.dropLast_eq_take, List.take_take]; congr 1; simp; omega
    · simp; omega
    · simp only [List.length_take]
      rw [show min (i + 1) st.length - 1 = i from by omega, gi_take (by omega), he]
  have old : rest st i = (st.drop (i + 2)).foldl redStep (st.take i) := by
    unfold rest; rw [hd]; simp only [List.foldl_cons]; rw [push, pop]
  constructor
  · rw [old]
    by_cases h0 : i = 0
    · subst h0; unfold rest; simp
    · have hd2 : (st.take i ++ st.drop (i + 2)).drop (i - 1) = gi st (i - 1) :: st.drop (i + 2) := by
        have h3 : st.drop (i - 1) = st[i - 1] :: st.drop (i - 1 + 1) := List.drop_eq_getElem_cons (by omega)
        rw [List.drop_append_of_le_length (by omega), List.drop_take, show i - (i - 1) = 1 from by omega, h3, gi_of_lt (by omega)]
        rfl
      have ht2 : (st.take i ++ st.drop (i + 2)).take (i - 1) = st.take (i - 1) := by
        rw [List.take_append_of_le_length (by omega), List.take_take]; congr 1; omega
      unfold rest
      rw [hd2, ht2]
      simp only [List.foldl_cons]
      rw [redStep_push, ← take_succ_gi (by omega), show i - 1 + 1 = i from by omega]
      intro h1
      simp only [List.length_take] at h1 ⊢
      rw [show min (i - 1) st.length - 1 = i - 2 from by omega, gi_take (by omega)]
      have := hr (i - 2) (by omega) (by omega)
      rwa [show i - 2 + 1 = i - 1 from by omega] at this
  · intro j hj hj2
    rw [gi_append_left (by omega), gi_append_left (by omega), gi_take (by omega), gi_take (by omega)]
    exact hr j (by omega) (by omega)

end Go.Proofs.YtigffblelngpjaaDoor
/- Contracts of Reduce, Inverse, Mirror, Flip. -/
namespace Go.Proofs.YtigffblelngpjaaDoor
set_option linter.unusedVariables false
set_option linter.unusedSimpArgs false
set_option maxRecDepth 8000
open Go Go.RowKit

/-! ### Reduce -/
/-! ### Inverse, Mirror, Flip -/

theorem Inverse_bad (n : Int) (v : Value) (c : Nat) (xs : List Int) (w : World) (h : IS .i64 w v c xs) (hw : wcheck n xs ≠ 0) :
    Calls Tryd.prog 21 #[.int .i64 n, v] w (RetIE .i64 w 0 [] (wcheck n xs)) := by
  have hne : (wcheck n xs != 0) = true := by simpa using hw
  go_enter Tryd.func21, Tryd.ntmps21
  go_wp2_with fail
  refine (Check_calls _ _ _ _ _ h).mono ?_
  rintro e w1 ⟨rfl, rfl⟩
  go_wp2
  go_ret2
  exact ⟨_, rfl, IS.nil _ _, Ext.refl _⟩

theorem WInverse_calls (n : Int) (v : Value) (c : Nat) (xs : List Int) (w : World) (h : IS .i64 w v c xs) (hw : wcheck n xs = 0) (hb : ∀ i, i < xs.length → -100 ≤ gi xs i ∧ gi xs i ≤ 100) (hl : xs.length ≤ 64) :
    Calls Tryd.prog 21 #[.int .i64 n, v] w (RetIE .i64 w xs.length (xs.reverse.map (fun x => -x)) 0) := by
  have hcall := fun w h => Check_calls n v c xs w h
  rw [hw] at hcall
  have Hcall := Lib.hid hcall; clear hcall
  have Hb := Lib.hid hb; clear hb
  go_enter Tryd.func21, Tryd.ntmps21
  go_wp2_with fail
  refine (Hcall.out _ h).mono ?_
  rintro e w1 ⟨rfl, rfl⟩
  go_wp2_with fail
  refine (winverse_calls _ _ _ _ h (by omega) (fun i hi => by have := Hb.out i hi; omega)).mono ?_
  rintro e w2 ⟨v', rfl, hv, hx, _⟩
  go_wp2
  go_ret2
  exact ⟨_, rfl, hv, hx⟩

end Go.Proofs.YtigffblelngpjaaDoor
/- Plain mathematics of follow: the strand at each place behind some letters. -/
namespace Go.Proofs.YtigffblelngpjaaDoor
set_option linter.unusedVariables false
set_option linter.unusedSimpArgs false
set_option maxRecDepth 8000
open Go Go.RowKit

/-- The place of the left strand of a letter. -/
def lft (k : Int) : Nat := (sgn k * k - 1).toNat
/-- Two neighbours exchanged. -/
def swp (a : List Int) (l : Nat) : List Int := (a.set l (gi a (l + 1))).set (l + 1) (gi a l)
/-- The strand at each place behind a word. -/
def fol (n : Nat) (xs : List Int) : List Int := xs.foldl (fun a k => swp a (lft k)) ((List.range n).map Int.ofNat)

theorem swp_len (a : List Int) (l : Nat) : (swp a l).length = a.length := by unfold swp; simp
theorem fol_snoc (n : Nat) (xs : List Int) (k : Int) : fol n (xs ++ [k]) = swp (fol n xs) (lft k) := by unfold fol; simp
theorem foldl_swp_len (xs : List Int) : ∀ a : List Int, (xs.foldl (fun a k => swp a (lft k)) a).length = a.length := by
  induction xs with
  | nil => intro a; rfl
  | cons k xs ih => intro a; simp only [List.foldl_cons]; rw [ih, swp_len]
theorem fol_len (n : Nat) (xs : List Int) : (fol n xs).length = n := by unfold fol; rw [foldl_swp_len]; simp

theorem wgi_set (a : List Int) (i : Nat) (x : Int) (j : Nat) (hi : i < a.length) : gi (a.set i x) j = if j = i then x else gi a j := by
  unfold gi
  by_cases h : j = i
  · subst h; simp [List.getD, hi]
  · rw [if_neg h]; simp [List.getD, List.getElem?_set, Ne.symm h]
theorem gi_swp (a : List Int) (l j : Nat) (h : l + 1 < a.length) : gi (swp a l) j = if j = l + 1 then gi a l else if j = l then gi a (l + 1) else gi a j := by
  unfold swp
  rw [wgi_set _ _ _ _ (by simpa using h)]
  by_cases e : j = l + 1
  · rw [if_pos e, if_pos e]
  · rw [if_neg e, if_neg e, wgi_set _ _ _ _ (by omega)]

theorem lft_bd {n k : Int} (h1 : 1 ≤ n) (h8 : n ≤ 8) (hb : wbad n k = false) : sgn k * k - 1 = (lft k : Int) ∧ (lft k : Int) + 1 < n ∧ -8 ≤ k ∧ k ≤ 8 ∧ 0 ≤ sgn k * k ∧ sgn k * k ≤ 8 := by
  unfold wbad at hb
  simp only [Bool.or_eq_false_iff, beq_eq_false_iff_ne, decide_eq_false_iff_not] at hb
  obtain ⟨⟨h0, h2⟩, h3⟩ := hb
  unfold lft
  by_cases h : k < 0
  · rw [sgn_neg h]; omega
  · rw [sgn_pos h]; omega

/-- Every strand is at some place: 0 ≤ strand < n. -/
theorem swp_mem (P : Int → Prop) (a : List Int) (l : Nat) (h : l + 1 < a.length) (ha : ∀ i, i < a.length → P (gi a i)) : ∀ i, i < (swp a l).length → P (gi (swp a l) i) := by
  intro i hi
  rw [swp_len] at hi
  rw [gi_swp _ _ _ h]
  split
  · exact ha _ (by omega)
  · split
    · exact ha _ h
    · exact ha _ hi

theorem wcheck_zero {n : Int} {xs : List Int} (h : wcheck n xs = 0) : 1 ≤ n ∧ n ≤ 8 ∧ xs.length ≤ 64 ∧ ∀ i, i < xs.length → wbad n (gi xs i) = false := by
  unfold wcheck at h
  split at h
  · omega
  · split at h
    · omega
    · split at h
      · omega
      · rename_i a b c
        refine ⟨by omega, by omega, by omega, fun i hi => ?_⟩
        rw [List.any_eq_true] at c
        cases hb : wbad n (gi xs i)
        · rfl
        · exact absurd ⟨_, gi_mem hi, hb⟩ c

theorem fol_bd {n : Nat} {xs : List Int} (h : ∀ i, i < xs.length → wbad n (gi xs i) = false) (h1 : 1 ≤ n) (h8 : n ≤ 8) : ∀ k, k ≤ xs.length → ∀ i, i < n → 0 ≤ gi (fol n (xs.take k)) i ∧ gi (fol n (xs.take k)) i < n := by
  intro k
  induction k with
  | zero => intro _ i hi; simp only [List.take_zero, fol, List.foldl_nil]; rw [gi_of_lt (by simpa using hi)]; simp; omega
  | succ k ih =>
    intro hk i hi
    rw [take_succ_gi (by omega), fol_snoc]
    have hl := lft_bd (by omega) (by omega) (h k (by omega))
    have := swp_mem (fun x => 0 ≤ x ∧ x < n) (fol n (xs.take k)) (lft (gi xs k)) (by rw [fol_len]; omega) (by rw [fol_len]; exact ih (by omega))
    exact this i (by rw [swp_len, fol_len]; exact hi)
end Go.Proofs.YtigffblelngpjaaDoor
/- Contracts of follow, once for each closure that it is handed. -/
namespace Go.Proofs.YtigffblelngpjaaDoor
set_option linter.unusedVariables false
set_option linter.unusedSimpArgs false
set_option maxRecDepth 8000
open Go Go.RowKit

/-- From block B on, and in the streams, w' is as w. -/
structure Above (B : Nat) (w w' : World) : Prop where
  os : w'.os = w.os
  tape : w'.tape = w.tape
  output : w'.output = w.output
  size : w'.heap.size = w.heap.size
  block : ∀ k, B ≤ k → w'.heap[k]? = w.heap[k]?
theorem Above.refl (B : Nat) (w : World) : Above B w w := ⟨rfl, rfl, rfl, rfl, fun _ _ => rfl⟩
theorem Above.drewN {B : Nat} {w w' : World} (h : Above B w w') (n : Nat) : Above B w (w'.drewN n) := ⟨h.os, h.tape, h.output, h.size, h.block⟩
theorem Above.drew {B : Nat} {w w' : World} (h : Above B w w') : Above B w w'.drew := ⟨h.os, h.tape, h.output, h.size, h.block⟩
theorem Above.setCell {B : Nat} {w w' : World} (h : Above B w w') {a : Addr} (ha : a.block < B) (u : Value) : Above B w (w'.setCell a u) :=
  ⟨h.os, h.tape, h.output, by simp [h.size], fun k hk => by rw [Below.heap_setCell _ _ _ _ (by omega)]; exact h.block k hk⟩
theorem Above.trans {B : Nat} {a b c : World} (h : Above B a b) (k : Above B b c) : Above B a c :=
  ⟨k.os.trans h.os, k.tape.trans h.tape, k.output.trans h.output, k.size.trans h.size, fun i hi => (k.block i hi).trans (h.block i hi)⟩

/-- What follow hands back. -/
def RetF (w : World) (R : Nat → World → Prop) (n : Nat) (xs : List Int) (e : Ending) (w' : World) : Prop :=
  e = .returned (.slice (some ⟨w.heap.size, 0, none⟩) n n) ∧ R xs.length w' ∧ w'.rowIs w.heap.size 3 n (fun i => .int .i64 (gi (fol n xs) i)) ∧ w.heap.size ≤ w'.heap.size ∧ w'.os = w.os ∧ w'.tape = w.tape ∧ w'.output = w.output

theorem swp_set (f : Nat → Value) (A : List Int) (n l : Nat) (hA : A.length = n) (hl : l + 1 < n) (hf : ∀ i, i < n → f i = .int .i64 (gi A i)) (i : Nat) (hi : i < n) :
    (if i = l + 1 then Value.int .i64 (gi A l) else if i = l then Value.int .i64 (gi A (l + 1)) else f i) = .int .i64 (gi (swp A l) i) := by
  rw [gi_swp A l i (by omega)]
  split
  · rfl
  · split
    · rfl
    · exact hf i hi

theorem follow_Permutation (n : Nat) (v : Value) (c : Nat) (xs : List Int)  (w : World) (R : Nat → World → Prop)
    (hIS : ∀ k wr, R k wr → IS .i64 wr v c xs) (hR0 : R 0 w) (hst : ∀ k wr w', R k wr → Below w.heap.size wr w' → R k w')
    (hstep : ∀ k wr, k < xs.length → R k wr → Calls Tryd.prog 60 #[.int .i64 (gi (fol n (xs.take k)) (lft (gi xs k))), .int .i64 (gi (fol n (xs.take k)) (lft (gi xs k) + 1)), .int .i64 (sgn (gi xs k))] wr
      fun e w' => e = .returned (.tuple #[]) ∧ R (k + 1) w' ∧ Above w.heap.size wr w')
    (hn1 : 1 ≤ n) (hn8 : n ≤ 8) (hl : xs.length ≤ 64) (hgood : ∀ i, i < xs.length → wbad n (gi xs i) = false) :
    Calls Tryd.prog 59 #[.int .i64 n, v, .func (Fn.func 60) #[] #[]] w (RetF w R n xs) := by
  obtain ⟨h1, h2, ao, rfl, hao0⟩ := (hIS 0 w hR0).open
  obtain ⟨F, hF⟩ : ∃ F : Nat → List Int, F = fun k => fol n (xs.take k) := ⟨_, rfl⟩
  obtain ⟨N, hN⟩ : ∃ N, N = xs.length := ⟨_, rfl⟩
  have hF0 : ∀ i, i < n → gi (F 0) i = (i : Int) := by rw [hF]; intro i hi; simp only [List.take_zero, fol, List.foldl_nil]; rw [gi_of_lt (by simpa using hi)]; simp
  have hFl : ∀ k, (F k).length = n := by rw [hF]; intro k; exact fol_len _ _
  have hFs : ∀ k, k < N → F (k + 1) = swp (F k) (lft (gi xs k)) := by rw [hF, hN]; intro k hk; simp only []; rw [take_succ_gi hk, fol_snoc]
  have hFN : F N = fol n xs := by rw [hF, hN]; simp
  have hbd : ∀ k i, k ≤ N → i < n → 0 ≤ gi (F k) i ∧ gi (F k) i < n := by rw [hF, hN]; intro k i hk hi; exact fol_bd hgood hn1 hn8 k hk i hi
  have hcells : ∀ k wr, R k wr → ∀ i, i < N → ∃ b o, ao = some ⟨b, o, none⟩ ∧ wr.cell? ⟨b, o + i, none⟩ = some (.int .i64 (gi xs i)) := by
    intro k wr hr i hi
    obtain ⟨_, _, ao', hv, hao⟩ := (hIS k wr hr).open
    simp only [Value.slice.injEq, and_true] at hv
    subst hv
    rcases hao with ⟨_, h0, _⟩ | ⟨b, o, he, hc⟩
    · omega
    · exact ⟨b, o, he, hc i (by omega)⟩
  have hstep' : ∀ k wr, k < N → R k wr → Calls Tryd.prog 60 #[.int .i64 (gi (F k) (lft (gi xs k))), .int .i64 (gi (F k) (lft (gi xs k) + 1)), .int .i64 (sgn (gi xs k))] wr fun e w' => e = .returned (.tuple #[]) ∧ R (k + 1) w' ∧ Above w.heap.size wr w' := by
    rw [hF, hN]; exact hstep
  have hlft : ∀ k, k < N → sgn (gi xs k) * gi xs k - 1 = (lft (gi xs k) : Int) ∧ (lft (gi xs k) : Int) + 1 < n ∧ -8 ≤ gi xs k ∧ gi xs k ≤ 8 ∧ 0 ≤ sgn (gi xs k) * gi xs k ∧ sgn (gi xs k) * gi xs k ≤ 8 := by
    rw [hN]; intro k hk; exact lft_bd (by omega) (by omega) (hgood k hk)
  have hend : ∀ e w', (e = .returned (.slice (some ⟨w.heap.size, 0, none⟩) n n) ∧ R N w' ∧ w'.rowIs w.heap.size 3 n (fun i => .int .i64 (gi (fol n xs) i)) ∧ w.heap.size ≤ w'.heap.size ∧ w'.os = w.os ∧ w'.tape = w.tape ∧ w'.output = w.output) → RetF w R n xs e w' := by rw [hN]; exact fun _ _ h => h
  rw [← hN] at h1 hl ⊢
  clear hao0 hF hN hstep hgood hIS
  have HF0 := Lib.hid hF0; have HFl := Lib.hid hFl; have HFs := Lib.hid hFs; have HFN := Lib.hid hFN; have Hbd := Lib.hid hbd; have Hcells := Lib.hid hcells; have Hstep := Lib.hid hstep'; have Hlft := Lib.hid hlft; have Hst := Lib.hid hst; have HR0 := Lib.hid hR0; have Hend := Lib.hid hend
  clear hF0 hFl hFs hFN hbd hcells hstep' hlft hst hR0 hend
  unfold maxLen at h2
  have hmk := run_make_row' (P := Tryd.prog) 34 3 (.int .i64 0) 8 Tryd.underlying34 (by kernel_rfl) rfl .i64 .i64 n (by omega) (by omega)
  go_enter Tryd.func59, Tryd.ntmps59
  go_wp2
  go_loopw [8, 17] (fun _ i wr => ∃ k : Nat, k ≤ n ∧ i = .int .i64 k ∧ Below w.heap.size w wr ∧ ∃ f, wr.rowIs w.heap.size 3 n f ∧ Hid (∀ i, i < k → f i = Value.int .i64 (i : Int))) (fun _ i _ => n - (intOf i).toNat)
  case atStart => exact ⟨0, Nat.zero_le _, rfl, (Below.refl _ _).alloc (Nat.le_refl _) _, _, World.rowIs_made _ _ _ _, fun i h1 => by omega⟩
  case round =>
    obtain ⟨k, hk, rfl, hbel, f, hrow, Hf⟩ := hrel
    by_cases hlt : k < n
    · have hst := hrow.cell (i := k) (by omega)
      have hfz := hrow.frozen k
      go_wp2
      go_roundw
      case rel => exact ⟨k + 1, by omega, by go_num, hbel.setCell (Nat.le_refl _) _, _, hrow.set _ _, fun i h1 => by
        by_cases e : i = k
        · rw [if_pos e, e]
        · rw [if_neg e]; exact Hf.out i (by omega)⟩
      case measure => simp [intOf]; omega
    · have hR := Lib.hid (Hst.out 0 _ _ HR0.out hbel)
      have Hrow := Lib.hid (show wr.rowIs w.heap.size 3 n (fun i => .int .i64 (gi (F 0) i)) from hrow.congr fun i hi => by rw [Hf.out i (by omega), HF0.out i hi])
      have Hsz := Lib.hid (show w.heap.size ≤ wr.heap.size ∧ wr.os = w.os ∧ wr.tape = w.tape ∧ wr.output = w.output from ⟨hbel.size, hbel.os, hbel.tape, hbel.output⟩)
      obtain ⟨wo, rfl⟩ : ∃ wo : World, wo = wr := ⟨_, rfl⟩
      clear Hf hrow hbel
      go_wp2
      go_loopw [10, 11, 12, 27] (fun _ _ _ i wr => ∃ k : Nat, k ≤ N ∧ i = .int .i64 k ∧ Hid (R k wr) ∧ Hid (wr.rowIs w.heap.size 3 n (fun i => .int .i64 (gi (F k) i))) ∧ Hid (w.heap.size ≤ wr.heap.size ∧ wr.os = w.os ∧ wr.tape = w.tape ∧ wr.output = w.output)) (fun _ _ _ i _ => N - (intOf i).toNat)
      case atStart => exact ⟨0, Nat.zero_le _, rfl, hR, Hrow, Hsz⟩
      case round =>
        obtain ⟨k, hk, rfl, HR, Hrow, Hsz⟩ := hrel
        by_cases hlt : k < N
        · obtain ⟨b, o, rfl, hck⟩ := Hcells.out k wr HR.out k hlt
          obtain ⟨g1, g2, g3, g4, g5, g6⟩ := Hlft.out k hlt
          obtain ⟨l, hl⟩ : ∃ l, l = lft (gi xs k) := ⟨_, rfl⟩
          rw [← hl] at g1 g2
          have g7 : wrap64 (sgn (gi xs k) * gi xs k) = sgn (gi xs k) * gi xs k := IntWalk.wrap64_in _ ⟨by omega, by omega⟩
          have hc1 : wr.cell? ⟨w.heap.size, l, none⟩ = some (.int .i64 (gi (F k) l)) := Hrow.out.cell (by omega)
          have hc2 : wr.cell? ⟨w.heap.size, l + 1, none⟩ = some (.int .i64 (gi (F k) (l + 1))) := Hrow.out.cell (by omega)
          have Hl := Lib.hid hl
          have Hcall := Lib.hid (Hstep.out k)
          clear hl
          go_wp2_with fail
          refine (sign_calls _ _).mono ?_
          rintro e w1 ⟨rfl, rfl⟩
          go_wp2
          clear g1
          have e1 : (l : Int) < n := by omega
          have e2 : (l : Int) + 1 < n := by omega
          have e3 : (0 : Int) ≤ (l : Int) := by omega
          have e4 : (0 : Int) ≤ (l : Int) + 1 := by omega
          have e5 : IntKind.i64.wrap ((l : Int) + 1) = (l : Int) + 1 := IntWalk.i64_in _ ⟨by omega, by omega⟩
          have e6 : ((l : Int) + 1).toNat = l + 1 := by omega
          go_still_tail 11, (by kernel_rfl)
          change wpList _ _ _ _ _ (wr.drew)
          clear e5 e6
          obtain ⟨w2, hw2⟩ : ∃ w2, w2 = wr.drew := ⟨_, rfl⟩
          have hR2 : R k w2 := by rw [hw2]; exact Hst.out _ _ _ HR.out (Below.refl _ _).drew
          have hrow2 : w2.rowIs w.heap.size 3 n (fun i => .int .i64 (gi (F k) i)) := by rw [hw2]; exact Hrow.out
          have hsz2 : w.heap.size ≤ w2.heap.size ∧ w2.os = w.os ∧ w2.tape = w.tape ∧ w2.output = w.output := by rw [hw2]; exact Hsz.out
          rw [← hw2]
          clear hw2
          have HR2 := Lib.hid hR2; have Hrow2 := Lib.hid hrow2; have Hsz2 := Lib.hid hsz2
          clear hR2 hrow2 hsz2 hc1 hc2 hck
          have hcall := Hcall.out w2 hlt HR2.out
          rw [← Hl.out] at hcall
          have HC := Lib.hid hcall
          clear hcall
          go_wp2_with fail
          refine HC.out.mono ?_
          rintro e w3 ⟨rfl, hR3, hab⟩
          have hrow3 : w3.rowIs w.heap.size 3 n (fun i => .int .i64 (gi (F k) i)) := Hrow2.out.of_block (hab.block _ (Nat.le_refl _))
          have hsz3 : w.heap.size ≤ w3.heap.size ∧ w3.os = w.os ∧ w3.tape = w.tape ∧ w3.output = w.output := by
            obtain ⟨z1, z2, z3, z4⟩ := Hsz2.out
            exact ⟨by rw [hab.size]; exact z1, hab.os.trans z2, hab.tape.trans z3, hab.output.trans z4⟩
          have HR3 := Lib.hid hR3; have Hrow3 := Lib.hid hrow3; have Hsz3 := Lib.hid hsz3
          clear hR3 hrow3 hsz3 hab HC
          have hc1 : w3.cell? ⟨w.heap.size, l, none⟩ = some (.int .i64 (gi (F k) l)) := Hrow3.out.cell (by omega)
          have hc2 : w3.cell? ⟨w.heap.size, l + 1, none⟩ = some (.int .i64 (gi (F k) (l + 1))) := Hrow3.out.cell (by omega)
          have hf1 : w3.frozen? ⟨w.heap.size, l, none⟩ = false := Hrow3.out.frozen _
          have hf2 : w3.frozen? ⟨w.heap.size, l + 1, none⟩ = false := Hrow3.out.frozen _
          go_wp2
          go_region
          all_goals
            go_wp2
            go_roundw
            case rel => exact ⟨k + 1, by omega, by go_num, Hst.out _ _ _ HR3.out (((Below.refl w.heap.size w3).setCell (p := ⟨w.heap.size, l, none⟩) (Nat.le_refl _) _).setCell (p := ⟨w.heap.size, l + 1, none⟩) (Nat.le_refl _) _).drew, (((Hrow3.out.set _ _).set _ _).drew).congr (fun i hi => by
              rw [HFs.out k hlt, ← Hl.out]
              exact swp_set _ _ n l (HFl.out k) (by omega) (fun _ _ => rfl) i hi), by
                obtain ⟨z1, z2, z3, z4⟩ := Hsz3.out
                exact ⟨by show _ ≤ ((w3.setCell _ _).setCell _ _).heap.size; rw [World.size_setCell, World.size_setCell]; exact z1, z2, z3, z4⟩⟩
            case measure => simp [intOf]; omega
        · obtain rfl : k = N := by omega
          go_wp2
          go_ret
          obtain ⟨z1, z2, z3, z4⟩ := Hsz.out
          refine Hend.out _ _ ⟨rfl, HR.out, ?_, z1, z2, z3, z4⟩
          rw [← HFN.out]
          exact Hrow.out

theorem follow_Sum (n : Nat) (v : Value) (c : Nat) (xs : List Int) (B : Nat) (w : World) (R : Nat → World → Prop)
    (hIS : ∀ k wr, R k wr → IS .i64 wr v c xs) (hR0 : R 0 w) (hst : ∀ k wr w', R k wr → Below w.heap.size wr w' → R k w')
    (hstep : ∀ k wr, k < xs.length → R k wr → Calls Tryd.prog 64 #[.int .i64 (gi (fol n (xs.take k)) (lft (gi xs k))), .int .i64 (gi (fol n (xs.take k)) (lft (gi xs k) + 1)), .int .i64 (sgn (gi xs k)), .pointer (some ⟨B, 0, none⟩)] wr
      fun e w' => e = .returned (.tuple #[]) ∧ R (k + 1) w' ∧ Above w.heap.size wr w')
    (hn1 : 1 ≤ n) (hn8 : n ≤ 8) (hl : xs.length ≤ 64) (hgood : ∀ i, i < xs.length → wbad n (gi xs i) = false) :
    Calls Tryd.prog 59 #[.int .i64 n, v, .func (Fn.func 64) #[] #[.pointer (some ⟨B, 0, none⟩)]] w (RetF w R n xs) := by
  obtain ⟨h1, h2, ao, rfl, hao0⟩ := (hIS 0 w hR0).open
  obtain ⟨F, hF⟩ : ∃ F : Nat → List Int, F = fun k => fol n (xs.take k) := ⟨_, rfl⟩
  obtain ⟨N, hN⟩ : ∃ N, N = xs.length := ⟨_, rfl⟩
  have hF0 : ∀ i, i < n → gi (F 0) i = (i : Int) := by rw [hF]; intro i hi; simp only [List.take_zero, fol, List.foldl_nil]; rw [gi_of_lt (by simpa using hi)]; simp
  have hFl : ∀ k, (F k).length = n := by rw [hF]; intro k; exact fol_len _ _
  have hFs : ∀ k, k < N → F (k + 1) = swp (F k) (lft (gi xs k)) := by rw [hF, hN]; intro k hk; simp only []; rw [take_succ_gi hk, fol_snoc]
  have hFN : F N = fol n xs := by rw [hF, hN]; simp
  have hbd : ∀ k i, k ≤ N → i < n → 0 ≤ gi (F k) i ∧ gi (F k) i < n := by rw [hF, hN]; intro k i hk hi; exact fol_bd hgood hn1 hn8 k hk i hi
  have hcells : ∀ k wr, R k wr → ∀ i, i < N → ∃ b o, ao = some ⟨b, o, none⟩ ∧ wr.cell? ⟨b, o + i, none⟩ = some (.int .i64 (gi xs i)) := by
    intro k wr hr i hi
    obtain ⟨_, _, ao', hv, hao⟩ := (hIS k wr hr).open
    simp only [Value.slice.injEq, and_true] at hv
    subst hv
    rcases hao with ⟨_, h0, _⟩ | ⟨b, o, he, hc⟩
    · omega
    · exact ⟨b, o, he, hc i (by omega)⟩
  have hstep' : ∀ k wr, k < N → R k wr → Calls Tryd.prog 64 #[.int .i64 (gi (F k) (lft (gi xs k))), .int .i64 (gi (F k) (lft (gi xs k) + 1)), .int .i64 (sgn (gi xs k)), .pointer (some ⟨B, 0, none⟩)] wr fun e w' => e = .returned (.tuple #[]) ∧ R (k + 1) w' ∧ Above w.heap.size wr w' := by
    rw [hF, hN]; exact hstep
  have hlft : ∀ k, k < N → sgn (gi xs k) * gi xs k - 1 = (lft (gi xs k) : Int) ∧ (lft (gi xs k) : Int) + 1 < n ∧ -8 ≤ gi xs k ∧ gi xs k ≤ 8 ∧ 0 ≤ sgn (gi xs k) * gi xs k ∧ sgn (gi xs k) * gi xs k ≤ 8 := by
    rw [hN]; intro k hk; exact lft_bd (by omega) (by omega) (hgood k hk)
  have hend : ∀ e w', (e = .returned (.slice (some ⟨w.heap.size, 0, none⟩) n n) ∧ R N w' ∧ w'.rowIs w.heap.size 3 n (fun i => .int .i64 (gi (fol n xs) i)) ∧ w.heap.size ≤ w'.heap.size ∧ w'.os = w.os ∧ w'.tape = w.tape ∧ w'.output = w.output) → RetF w R n xs e w' := by rw [hN]; exact fun _ _ h => h
  rw [← hN] at h1 hl ⊢
  clear hao0 hF hN hstep hgood hIS
  have HF0 := Lib.hid hF0; have HFl := Lib.hid hFl; have HFs := Lib.hid hFs; have HFN := Lib.hid hFN; have Hbd := Lib.hid hbd; have Hcells := Lib.hid hcells; have Hstep := Lib.hid hstep'; have Hlft := Lib.hid hlft; have Hst := Lib.hid hst; have HR0 := Lib.hid hR0; have Hend := Lib.hid hend
  clear hF0 hFl hFs hFN hbd hcells hstep' hlft hst hR0 hend
  unfold maxLen at h2
  have hmk := run_make_row' (P := Tryd.prog) 34 3 (.int .i64 0) 8 Tryd.underlying34 (by kernel_rfl) rfl .i64 .i64 n (by omega) (by omega)
  go_enter Tryd.func59, Tryd.ntmps59
  go_wp2
  go_loopw [8, 17] (fun _ i wr => ∃ k : Nat, k ≤ n ∧ i = .int .i64 k ∧ Below w.heap.size w wr ∧ ∃ f, wr.rowIs w.heap.size 3 n f ∧ Hid (∀ i, i < k → f i = Value.int .i64 (i : Int))) (fun _ i _ => n - (intOf i).toNat)
  case atStart => exact ⟨0, Nat.zero_le _, rfl, (Below.refl _ _).alloc (Nat.le_refl _) _, _, World.rowIs_made _ _ _ _, fun i h1 => by omega⟩
  case round =>
    obtain ⟨k, hk, rfl, hbel, f, hrow, Hf⟩ := hrel
    by_cases hlt : k < n
    · have hst := hrow.cell (i := k) (by omega)
      have hfz := hrow.frozen k
      go_wp2
      go_roundw
      case rel => exact ⟨k + 1, by omega, by go_num, hbel.setCell (Nat.le_refl _) _, _, hrow.set _ _, fun i h1 => by
        by_cases e : i = k
        · rw [if_pos e, e]
        · rw [if_neg e]; exact Hf.out i (by omega)⟩
      case measure => simp [intOf]; omega
    · have hR := Lib.hid (Hst.out 0 _ _ HR0.out hbel)
      have Hrow := Lib.hid (show wr.rowIs w.heap.size 3 n (fun i => .int .i64 (gi (F 0) i)) from hrow.congr fun i hi => by rw [Hf.out i (by omega), HF0.out i hi])
      have Hsz := Lib.hid (show w.heap.size ≤ wr.heap.size ∧ wr.os = w.os ∧ wr.tape = w.tape ∧ wr.output = w.output from ⟨hbel.size, hbel.os, hbel.tape, hbel.output⟩)
      obtain ⟨wo, rfl⟩ : ∃ wo : World, wo = wr := ⟨_, rfl⟩
      clear Hf hrow hbel
      go_wp2
      go_loopw [10, 11, 12, 27] (fun _ _ _ i wr => ∃ k : Nat, k ≤ N ∧ i = .int .i64 k ∧ Hid (R k wr) ∧ Hid (wr.rowIs w.heap.size 3 n (fun i => .int .i64 (gi (F k) i))) ∧ Hid (w.heap.size ≤ wr.heap.size ∧ wr.os = w.os ∧ wr.tape = w.tape ∧ wr.output = w.output)) (fun _ _ _ i _ => N - (intOf i).toNat)
      case atStart => exact ⟨0, Nat.zero_le _, rfl, hR, Hrow, Hsz⟩
      case round =>
        obtain ⟨k, hk, rfl, HR, Hrow, Hsz⟩ := hrel
        by_cases hlt : k < N
        · obtain ⟨b, o, rfl, hck⟩ := Hcells.out k wr HR.out k hlt
          obtain ⟨g1, g2, g3, g4, g5, g6⟩ := Hlft.out k hlt
          obtain ⟨l, hl⟩ : ∃ l, l = lft (gi xs k) := ⟨_, rfl⟩
          rw [← hl] at g1 g2
          have g7 : wrap64 (sgn (gi xs k) * gi xs k) = sgn (gi xs k) * gi xs k := IntWalk.wrap64_in _ ⟨by omega, by omega⟩
          have hc1 : wr.cell? ⟨w.heap.size, l, none⟩ = some (.int .i64 (gi (F k) l)) := Hrow.out.cell (by omega)
          have hc2 : wr.cell? ⟨w.heap.size, l + 1, none⟩ = some (.int .i64 (gi (F k) (l + 1))) := Hrow.out.cell (by omega)
          have Hl := Lib.hid hl
          have Hcall := Lib.hid (Hstep.out k)
          clear hl
          go_wp2_with fail
          refine (sign_calls _ _).mono ?_
          rintro e w1 ⟨rfl, rfl⟩
          go_wp2
          clear g1
          have e1 : (l : Int) < n := by omega
          have e2 : (l : Int) + 1 < n := by omega
          have e3 : (0 : Int) ≤ (l : Int) := by omega
          have e4 : (0 : Int) ≤ (l : Int) + 1 := by omega
          have e5 : IntKind.i64.wrap ((l : Int) + 1) = (l : Int) + 1 := IntWalk.i64_in _ ⟨by omega, by omega⟩
          have e6 : ((l : Int) + 1).toNat = l + 1 := by omega
          go_still_tail 11, (by kernel_rfl)
          change wpList _ _ _ _ _ (wr.drew)
          clear e5 e6
          obtain ⟨w2, hw2⟩ : ∃ w2, w2 = wr.drew := ⟨_, rfl⟩
          have hR2 : R k w2 := by rw [hw2]; exact Hst.out _ _ _ HR.out (Below.refl _ _).drew
          have hrow2 : w2.rowIs w.heap.size 3 n (fun i => .int .i64 (gi (F k) i)) := by rw [hw2]; exact Hrow.out
          have hsz2 : w.heap.size ≤ w2.heap.size ∧ w2.os = w.os ∧ w2.tape = w.tape ∧ w2.output = w.output := by rw [hw2]; exact Hsz.out
          rw [← hw2]
          clear hw2
          have HR2 := Lib.hid hR2; have Hrow2 := Lib.hid hrow2; have Hsz2 := Lib.hid hsz2
          clear hR2 hrow2 hsz2 hc1 hc2 hck
          have hcall := Hcall.out w2 hlt HR2.out
          rw [← Hl.out] at hcall
          have HC := Lib.hid hcall
          clear hcall
          go_wp2_with fail
          refine HC.out.mono ?_
          rintro e w3 ⟨rfl, hR3, hab⟩
          have hrow3 : w3.rowIs w.heap.size 3 n (fun i => .int .i64 (gi (F k) i)) := Hrow2.out.of_block (hab.block _ (Nat.le_refl _))
          have hsz3 : w.heap.size ≤ w3.heap.size ∧ w3.os = w.os ∧ w3.tape = w.tape ∧ w3.output = w.output := by
            obtain ⟨z1, z2, z3, z4⟩ := Hsz2.out
            exact ⟨by rw [hab.size]; exact z1, hab.os.trans z2, hab.tape.trans z3, hab.output.trans z4⟩
          have HR3 := Lib.hid hR3; have Hrow3 := Lib.hid hrow3; have Hsz3 := Lib.hid hsz3
          clear hR3 hrow3 hsz3 hab HC
          have hc1 : w3.cell? ⟨w.heap.size, l, none⟩ = some (.int .i64 (gi (F k) l)) := Hrow3.out.cell (by omega)
          have hc2 : w3.cell? ⟨w.heap.size, l + 1, none⟩ = some (.int .i64 (gi (F k) (l + 1))) := Hrow3.out.cell (by omega)
          have hf1 : w3.frozen? ⟨w.heap.size, l, none⟩ = false := Hrow3.out.frozen _
          have hf2 : w3.frozen? ⟨w.heap.size, l + 1, none⟩ = false := Hrow3.out.frozen _
          go_wp2
          go_region
          all_goals
            go_wp2
            go_roundw
            case rel => exact ⟨k + 1, by omega, by go_num, Hst.out _ _ _ HR3.out (((Below.refl w.heap.size w3).setCell (p := ⟨w.heap.size, l, none⟩) (Nat.le_refl _) _).setCell (p := ⟨w.heap.size, l + 1, none⟩) (Nat.le_refl _) _).drew, (((Hrow3.out.set _ _).set _ _).drew).congr (fun i hi => by
              rw [HFs.out k hlt, ← Hl.out]
              exact swp_set _ _ n l (HFl.out k) (by omega) (fun _ _ => rfl) i hi), by
                obtain ⟨z1, z2, z3, z4⟩ := Hsz3.out
                exact ⟨by show _ ≤ ((w3.setCell _ _).setCell _ _).heap.size; rw [World.size_setCell, World.size_setCell]; exact z1, z2, z3, z4⟩⟩
            case measure => simp [intOf]; omega
        · obtain rfl : k = N := by omega
          go_wp2
          go_ret
          obtain ⟨z1, z2, z3, z4⟩ := Hsz.out
          refine Hend.out _ _ ⟨rfl, HR.out, ?_, z1, z2, z3, z4⟩
          rw [← HFN.out]
          exact Hrow.out

end Go.Proofs.YtigffblelngpjaaDoor
/- Contracts of Sum and Permutation. -/
namespace Go.Proofs.YtigffblelngpjaaDoor
set_option linter.unusedVariables false
set_option linter.unusedSimpArgs false
set_option maxRecDepth 8000
open Go Go.RowKit

/-! ### Sum -/
def ssum (xs : List Int) : Int := (xs.map sgn).foldl (· + ·) 0
theorem ssum_snoc (xs : List Int) (k : Int) : ssum (xs ++ [k]) = ssum xs + sgn k := by unfold ssum; simp
theorem ssum_bd (xs : List Int) : -(xs.length : Int) ≤ ssum xs ∧ ssum xs ≤ xs.length := by
  have : ∀ n, ∀ xs : List Int, xs.length = n → -(n : Int) ≤ ssum xs ∧ ssum xs ≤ n := by
    intro n
    induction n with
    | zero => intro xs h; obtain rfl := List.eq_nil_of_length_eq_zero h; simp [ssum]
    | succ n ih =>
      intro xs h
      have hd : xs = xs.take n ++ [gi xs n] := by rw [← take_succ_gi (by omega), List.take_of_length_le (by omega)]
      rw [hd, ssum_snoc]
      have := ih (xs.take n) (by simp; omega)
      by_cases hk : gi xs n < 0
      · rw [sgn_neg hk]; omega
      · rw [sgn_pos hk]; omega
  exact this _ xs rfl

theorem Sum1_calls (a b s S : Int) (B : Nat) (w : World) (h : w.heap[B]? = some (.cells #[.int .i64 S] 3 (0, 0))) (hs : -1 ≤ s ∧ s ≤ 1) (hS : -1000 ≤ S ∧ S ≤ 1000) :
    Calls Tryd.prog 64 #[.int .i64 a, .int .i64 b, .int .i64 s, .pointer (some ⟨B, 0, none⟩)] w fun e w' => e = .returned (.tuple #[]) ∧ w' = w.setCell ⟨B, 0, none⟩ (.int .i64 (S + s)) := by
  have hc := cell_of_one h
  have hf := free_of_one h
  obtain ⟨h1, h2⟩ := hs
  obtain ⟨h3, h4⟩ := hS
  clear h
  go_enter Tryd.func64, Tryd.ntmps64
  go_wp2
  go_end0
  exact ⟨rfl, rfl⟩

theorem Sum_bad (n : Int) (v : Value) (c : Nat) (xs : List Int) (w : World) (h : IS .i64 w v c xs) (hw : wcheck n xs ≠ 0) :
    Calls Tryd.prog 30 #[.int .i64 n, v] w (RetNE w 0 (wcheck n xs)) := by
  have hne : (wcheck n xs != 0) = true := by simpa using hw
  go_enter Tryd.func30, Tryd.ntmps30
  go_wp2_with fail
  refine (Check_calls _ _ _ _ _ h).mono ?_
  rintro e w1 ⟨rfl, rfl⟩
  go_wp2
  go_ret2
  exact ⟨rfl, Ext.refl _⟩

theorem Sum_calls (n : Nat) (v : Value) (c : Nat) (xs : List Int) (w : World) (h : IS .i64 w v c xs) (hw : wcheck n xs = 0) :
    Calls Tryd.prog 30 #[.int .i64 n, v] w (RetNE w (ssum xs) 0) := by
  have hcall := Check_calls n v c xs w h
  have hz := wcheck_zero hw
  rw [hw] at hcall
  have Hcall := Lib.hid hcall; clear hcall
  have Hz := Lib.hid hz; clear hz hw
  go_enter Tryd.func30, Tryd.ntmps30
  go_wp2_with fail
  refine Hcall.out.mono ?_
  rintro e w1 ⟨rfl, rfl⟩
  go_wp2_with fail
  obtain ⟨z1, z2, z3, z4⟩ := Hz.out
  refine (follow_Sum n v c xs w.heap.size _ (fun k wr => Below w.heap.size w wr ∧ wr.heap[w.heap.size]? = some (.cells #[.int .i64 (ssum (xs.take k))] 3 (0, 0))) (fun k wr hr => h.ext hr.1) ⟨(Below.refl _ _).alloc (Nat.le_refl _) _, Deep.blk_alloc_new _ _⟩ ?st ?step (by omega) (by omega) z3 z4).mono ?_
  case st =>
    rintro k wr w' ⟨hb, hc⟩ hb'
    exact ⟨hb.trans (hb'.mono (by simp)), (hb'.block _ (by simp)).trans hc⟩
  case step =>
    rintro k wr hk ⟨hb, hc⟩
    have hS := ssum_bd (xs.take k)
    simp at hS
    refine (Sum1_calls _ _ _ (ssum (xs.take k)) _ wr hc ?_ ?_).mono ?_
    · by_cases hk : gi xs k < 0
      · rw [sgn_neg hk]; omega
      · rw [sgn_pos hk]; omega
    · omega
    · rintro e w' ⟨rfl, rfl⟩
      refine ⟨rfl, ⟨hb.setCell (Nat.le_refl _) _, ?_⟩, (Above.refl _ _).setCell (by simp) _⟩
      rw [one_setCell hc, take_succ_gi hk, ssum_snoc]
  · rintro e w2 ⟨rfl, ⟨hb, hc⟩, hv, _⟩
    have hcell := cell_of_one hc
    have hcell' : w2.cell? ⟨w.heap.size, 0, none⟩ = some (.int .i64 (ssum xs)) := by rw [hcell]; simp
    clear hcell hc hv Hz z1 z2 z3 z4
    go_wp2
    go_ret2
    exact ⟨rfl, hb⟩

end Go.Proofs.YtigffblelngpjaaDoor
/- Contracts of Permutation and Links. -/
namespace Go.Proofs.YtigffblelngpjaaDoor
set_option linter.unusedVariables false
set_option linter.unusedSimpArgs false
set_option maxRecDepth 8000
open Go Go.RowKit

/-! ### Permutation -/
/-- Where the strands go, off the strand at each place. -/
def invStep (a : List Int) (p : List Int) (i : Nat) : List Int := p.set (gi a i).toNat ((i : Int) + 1)
def inv (n : Nat) (a : List Int) : List Int := (List.range n).foldl (invStep a) (List.replicate n 0)
def invTo (n : Nat) (a : List Int) (k : Nat) : List Int := (List.range k).foldl (invStep a) (List.replicate n 0)
theorem invTo_succ (n : Nat) (a : List Int) (k : Nat) : invTo n a (k + 1) = invStep a (invTo n a k) k := by unfold invTo; rw [List.range_succ]; simp
theorem invTo_len (n : Nat) (a : List Int) (k : Nat) : (invTo n a k).length = n := by
  induction k with
  | zero => simp [invTo]
  | succ k ih => rw [invTo_succ]; unfold invStep; simpa using ih
theorem inv_len (n : Nat) (a : List Int) : (inv n a).length = n := invTo_len n a n
/-- The permutation of a word. -/
def permOf (n : Nat) (xs : List Int) : List Int := inv n (fol n xs)

theorem Perm1_calls (a b s : Int) (w : World) : Calls Tryd.prog 60 #[.int .i64 a, .int .i64 b, .int .i64 s] w fun e w' => e = .returned (.tuple #[]) ∧ w' = w := by
  go_enter Tryd.func60, Tryd.ntmps60
  go_wp2
  go_end0
  exact ⟨rfl, rfl⟩

theorem Permutation_bad (n : Int) (v : Value) (c : Nat) (xs : List Int) (w : World) (h : IS .i64 w v c xs) (hw : wcheck n xs ≠ 0) :
    Calls Tryd.prog 27 #[.int .i64 n, v] w (RetIE .u8 w 0 [] (wcheck n xs)) := by
  have hne : (wcheck n xs != 0) = true := by simpa using hw
  go_enter Tryd.func27, Tryd.ntmps27
  go_wp2_with fail
  refine (Check_calls _ _ _ _ _ h).mono ?_
  rintro e w1 ⟨rfl, rfl⟩
  go_wp2
  go_ret2
  exact ⟨_, rfl, IS.nil _ _, Ext.refl _⟩

theorem Permutation_calls (n : Nat) (v : Value) (c : Nat) (xs : List Int) (w : World) (h : IS .i64 w v c xs) (hw : wcheck n xs = 0) :
    Calls Tryd.prog 27 #[.int .i64 n, v] w (RetIE .u8 w n (permOf n xs) 0) := by
  have hcall := Check_calls n v c xs w h
  have hz := wcheck_zero hw
  rw [hw] at hcall
  have Hcall := Lib.hid hcall; clear hcall
  obtain ⟨z1, z2, z3, z4⟩ := hz
  have hfb := fol_bd z4 (by omega) (by omega) xs.length (Nat.le_refl _)
  rw [List.take_length] at hfb
  have hfl := fol_len n xs
  obtain ⟨A, hA⟩ : ∃ A, A = fol n xs := ⟨_, rfl⟩
  rw [← hA] at hfb hfl
  have Hfb := Lib.hid hfb; have Hfl := Lib.hid hfl; have HA := Lib.hid hA
  have Hz4 := Lib.hid z4
  clear hfb hfl hA hw z4
  have hmk := run_make_row' (P := Tryd.prog) 22 5 (.int .u8 0) 1 Tryd.underlying22 (by kernel_rfl) rfl .i64 .i64 n (by omega) (by omega)
  go_enter Tryd.func27, Tryd.ntmps27
  go_wp2_with fail
  refine Hcall.out.mono ?_
  rintro e w1 ⟨rfl, rfl⟩
  go_wp2_with fail
  refine (follow_Permutation n v c xs _ (fun k wr => Below w.heap.size w wr ∧ wr.rowIs w.heap.size 5 n (fun _ => .int .u8 0)) (fun k wr hr => h.ext hr.1) ⟨(Below.refl _ _).alloc (Nat.le_refl _) _, World.rowIs_made _ _ _ _⟩ ?st ?step (by omega) (by omega) z3 Hz4.out).mono ?_
  case st =>
    rintro k wr w' ⟨hb, hc⟩ hb'
    exact ⟨hb.trans (hb'.mono (by simp)), hc.of_block (hb'.block _ (by simp))⟩
  case step =>
    rintro k wr hk ⟨hb, hc⟩
    refine (Perm1_calls _ _ _ wr).mono ?_
    rintro e w' ⟨rfl, rfl⟩
    exact ⟨rfl, ⟨hb, hc⟩, Above.refl _ _⟩
  · rintro e w2 ⟨rfl, ⟨hb, hc⟩, hv, _⟩
    rw [← HA.out] at hv
    simp only [World.size_alloc] at hv
    have hHc : ∃ f, w2.rowIs w.heap.size 5 n f ∧ ∀ i, i < n → f i = .int .u8 (gi (invTo n A 0) i) := ⟨_, hc, fun i hi => by unfold invTo gi; simp [List.getD, hi]⟩
    have Hc := Lib.hid hHc
    have Hv := Lib.hid hv
    clear hv hc hHc
    go_wp2
    go_loopw [8, 9, 22] (fun _ _ i wr => ∃ k : Nat, k ≤ n ∧ i = .int .i64 k ∧ Below w.heap.size w wr ∧ Hid (wr.rowIs (w.heap.size + 1) 3 n (fun i => .int .i64 (gi A i))) ∧ Hid (∃ f, wr.rowIs w.heap.size 5 n f ∧ ∀ i, i < n → f i = .int .u8 (gi (invTo n A k) i))) (fun _ _ i _ => n - (intOf i).toNat)
    case atStart => exact ⟨0, Nat.zero_le _, rfl, hb, Hv, Hc⟩
    case round =>
      obtain ⟨k, hk, rfl, hb, Hv, Hrow⟩ := hrel
      by_cases hlt : k < n
      · have hck := Hv.out.cell (i := k) hlt
        obtain ⟨f, hrow, hf⟩ := Hrow.out
        obtain ⟨g1, g2⟩ := Hfb.out k hlt
        obtain ⟨m, hm⟩ : ∃ m : Nat, gi A k = m := ⟨(gi A k).toNat, by omega⟩
        have Hm := Lib.hid hm
        rw [hm] at hck g1 g2
        have hst := hrow.cell (i := m) (by omega)
        have hfz := hrow.frozen m
        have Hrow2 := Lib.hid hrow
        have Hf2 := Lib.hid hf
        clear hm hrow hf Hrow
        have e1 : (k : Int) + 1 ≤ 8 := by omega
        go_wp2
        go_roundw
        case rel => exact ⟨k + 1, by omega, by go_num, hb.setCell (Nat.le_refl _) _, Hv.out.setOther (by simp) _, _, Hrow2.out.set _ _, fun i hi => by
          have hl := invTo_len n A k
          rw [invTo_succ]; unfold invStep
          rw [wgi_set _ _ _ _ (by rw [hl, Hm.out]; omega), Hm.out]
          by_cases e : i = m
          · subst e; simp
          · rw [if_neg e, if_neg (by simpa using e)]; exact Hf2.out i hi⟩
        case measure => simp [intOf]; omega
      · obtain rfl : k = n := by omega
        go_wp2
        go_ret2
        obtain ⟨f, hrow, hf⟩ := Hrow.out
        refine ⟨_, rfl, ?_, hb⟩
        rw [show permOf k xs = invTo k A k from by unfold permOf inv invTo; rw [HA.out]]
        exact IS.of_row hrow (invTo_len _ _ _).symm (by unfold maxLen; omega) hf

end Go.Proofs.YtigffblelngpjaaDoor
