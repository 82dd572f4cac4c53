/- Texts of this claim in one file: libraries and walks. -/
import Derived.Deep.QuietTactic
import Derived.Deep.RegionHeld3
import Derived.BigQuiet
import Derived.Test.YtlmkcojimhbmiaaL3
import Derived.Test.YtlmkcojimhbmiaaL10
import Derived.Test.YtlmkcojimhbmiaaL11
import Derived.Test.YtlmkcojimhbmiaaL12
/- The program's stack of a motif, and that of the reference, in plain Lean. -/
namespace Go.Proofs.Ytlmkcojimhbmiaa
set_option linter.unusedVariables false
set_option linter.unusedSimpArgs false
set_option maxRecDepth 8000
open Go Go.RowKit

/-- The blocks of one row of tiles. -/
def blkB (L T R : List (List St)) (n : Nat) : List (List (List St)) := edgeB L ++ List.replicate n T ++ edgeB R
def blkE (L T R : List (List St)) (n : Int) : Int := if 16 < n then 3 else besE (blkB L T R n.toNat)
def blkR (L T R : List (List St)) (n : Int) : List (List St) := if 16 < n then [] else besR (blkB L T R n.toNat)
theorem edgeB_len (L : List (List St)) : (edgeB L).length ≤ 1 := by unfold edgeB; split <;> simp
theorem blkB_len (L T R : List (List St)) (n : Nat) : n ≤ (blkB L T R n).length ∧ (blkB L T R n).length ≤ n + 2 := by
  have h1 := edgeB_len L
  have h2 := edgeB_len R
  unfold blkB
  simp only [List.length_append, List.length_replicate]
  omega
theorem blkB_mem {L T R : List (List St)} {n : Nat} {x : List (List St)} (h : x ∈ blkB L T R n) : (x = L ∧ L.length ≠ 0) ∨ x = T ∨ (x = R ∧ R.length ≠ 0) := by
  unfold blkB edgeB at h
  simp only [List.mem_append, List.mem_replicate] at h
  rcases h with (h | h) | h
  · by_cases e : L.length = 0
    · rw [if_pos e] at h; simp at h
    · rw [if_neg e] at h; exact .inl ⟨by simpa using h, e⟩
  · exact .inr (.inl h.2)
  · by_cases e : R.length = 0
    · rw [if_pos e] at h; simp at h
    · rw [if_neg e] at h; exact .inr (.inr ⟨by simpa using h, e⟩)
theorem blkB_high {L T R : List (List St)} {n : Nat} (hL : L.length = 0 ∨ L.length = T.length) (hR : R.length = 0 ∨ R.length = T.length) : ∀ k, k < (blkB L T R n).length → (bw (blkB L T R n) k).length = T.length := fun k hk => by
  rcases blkB_mem (bw_mem hk) with ⟨e, h⟩ | e | ⟨e, h⟩ <;> rw [e] <;> omega
theorem blkB_row (L T R : List (List St)) (n i : Nat) : rowB (blkB L T R n) i = stkRow L T R n i := by
  have he : ∀ C : List (List St), ((edgeB C).map fun b => sw b i).flatten = if C.length = 0 then [] else sw C i := fun C => by
    unfold edgeB; split <;> simp
  unfold rowB blkB stkRow
  rw [List.map_append, List.map_append, List.flatten_append, List.flatten_append, he, he, List.map_replicate]
theorem blkB_one {L T R : List (List St)} {n : Nat} (hn : 0 < n) (hL : L.length = 0 ∨ L.length = T.length) (hR : R.length = 0 ∨ R.length = T.length) : besRows (blkB L T R n) = stkOne L T R n := by
  have h0 := blkB_high (n := n) hL hR 0 (Nat.lt_of_lt_of_le hn (blkB_len L T R n).1)
  unfold besRows stkOne
  rw [h0]
  exact List.map_congr_left fun i _ => blkB_row L T R n i
theorem blkE_eq {L T R : List (List St)} {n : Int} (hn : 1 ≤ n) (h16 : n ≤ 16) (hL : L.length = 0 ∨ L.length = T.length) (hR : R.length = 0 ∨ R.length = T.length) : blkE L T R n = if lrg (stkOne L T R n.toNat) = 1 then 3 else 0 := by
  have hb := blkB_len L T R n.toNat
  have hh := blkB_high (n := n.toNat) hL hR
  unfold blkE
  rw [if_neg (by omega), besE_ref (by omega) (fun k hk => by rw [hh k hk, hh 0 (by omega)]), blkB_one (by omega) hL hR]
  by_cases e : lrg (stkOne L T R n.toNat) = 1
  · rw [if_pos (.inr e), if_pos e]
  · rw [if_neg (by omega), if_neg e]
theorem blkR_eq {L T R : List (List St)} {n : Int} (hn : 1 ≤ n) (hL : L.length = 0 ∨ L.length = T.length) (hR : R.length = 0 ∨ R.length = T.length) (h : blkE L T R n = 0) : blkR L T R n = stkOne L T R n.toNat := by
  have h16 : ¬ 16 < n := fun e => by unfold blkE at h; rw [if_pos e] at h; exact absurd h (by decide)
  unfold blkE at h
  rw [if_neg h16] at h
  unfold blkR besR
  rw [if_neg h16, if_pos h, blkB_one (by omega) hL hR]
theorem blkR_bad {L T R : List (List St)} {n : Int} (h : blkE L T R n ≠ 0) : blkR L T R n = [] := by
  unfold blkE at h
  unfold blkR
  by_cases e : 16 < n
  · rw [if_pos e]
  · rw [if_neg e] at h ⊢
    exact besR_bad h
/-- The error of motifs.Stack. -/
def prgE (L T R : List (List St)) (n up : Int) : Int :=
  if mchk L T R ≠ 0 then mchk L T R else if n < 1 ∨ up < 1 then 1 else if 31 < up then 3 else if blkE L T R n ≠ 0 then blkE L T R n
  else if aboE (List.replicate up.toNat (blkR L T R n)) ≠ 0 then aboE (List.replicate up.toNat (blkR L T R n)) else (cloads (aboR (List.replicate up.toNat (blkR L T R n)))).1
def prgR (L T R : List (List St)) (n up : Int) : List (List St) := if prgE L T R n up = 0 then aboR (List.replicate up.toNat (blkR L T R n)) else []
theorem prgE_m {L T R : List (List St)} {n up : Int} (h : mchk L T R ≠ 0) : prgE L T R n up = mchk L T R := by unfold prgE; rw [if_pos h]
theorem prgE_1 {L T R : List (List St)} {n up : Int} (h : mchk L T R = 0) (h1 : n < 1 ∨ up < 1) : prgE L T R n up = 1 := by unfold prgE; rw [if_neg (by omega), if_pos h1]
theorem prgE_3 {L T R : List (List St)} {n up : Int} (h : mchk L T R = 0) (h1 : ¬ (n < 1 ∨ up < 1)) (h2 : 31 < up) : prgE L T R n up = 3 := by unfold prgE; rw [if_neg (by omega), if_neg h1, if_pos h2]
theorem prgE_b {L T R : List (List St)} {n up : Int} (h : mchk L T R = 0) (h1 : ¬ (n < 1 ∨ up < 1)) (h2 : ¬ 31 < up) (h3 : blkE L T R n ≠ 0) : prgE L T R n up = blkE L T R n := by unfold prgE; rw [if_neg (by omega), if_neg h1, if_neg h2, if_pos h3]
theorem prgE_a {L T R : List (List St)} {n up : Int} (h : mchk L T R = 0) (h1 : ¬ (n < 1 ∨ up < 1)) (h2 : ¬ 31 < up) (h3 : blkE L T R n = 0) (h4 : aboE (List.replicate up.toNat (blkR L T R n)) ≠ 0) : prgE L T R n up = aboE (List.replicate up.toNat (blkR L T R n)) := by
  unfold prgE; rw [if_neg (by omega), if_neg h1, if_neg h2, if_neg (by omega), if_pos h4]
theorem prgE_c {L T R : List (List St)} {n up : Int} (h : mchk L T R = 0) (h1 : ¬ (n < 1 ∨ up < 1)) (h2 : ¬ 31 < up) (h3 : blkE L T R n = 0) (h4 : aboE (List.replicate up.toNat (blkR L T R n)) = 0) : prgE L T R n up = (cloads (aboR (List.replicate up.toNat (blkR L T R n)))).1 := by
  unfold prgE; rw [if_neg (by omega), if_neg h1, if_neg h2, if_neg (by omega), if_neg (by omega)]
theorem prgR_bad {L T R : List (List St)} {n up : Int} (h : prgE L T R n up ≠ 0) : prgR L T R n up = [] := by unfold prgR; rw [if_neg h]
theorem prgR_ok {L T R : List (List St)} {n up : Int} (h : prgE L T R n up = 0) : prgR L T R n up = aboR (List.replicate up.toNat (blkR L T R n)) := by unfold prgR; rw [if_pos h]
theorem big_stk {L T R : List (List St)} {n up : Nat} (hu : 1 ≤ up) (h : big (stkOne L T R n) = true) : big (stkRows L T R n up) = true := by
  have hm : stkOne L T R n ∈ List.replicate up (stkOne L T R n) := List.mem_replicate.2 ⟨by omega, rfl⟩
  unfold big at h ⊢
  simp only [Bool.or_eq_true, List.any_eq_true, decide_eq_true_iff] at h ⊢
  rcases h with h | ⟨r, hr, h16⟩
  · exact .inl (Nat.lt_of_lt_of_le h (flat_mem _ _ hm))
  · exact .inr ⟨r, by unfold stkRows; exact List.mem_flatten.2 ⟨_, hm, hr⟩, h16⟩
theorem stkRows_len (L T R : List (List St)) (n up : Nat) : (stkRows L T R n up).length = up * T.length := by
  have := preS_len L T R n 0 up
  rw [preS_all] at this
  simpa using this
theorem lrg_big {C : List (List St)} : lrg C = 1 ↔ big C = true := by unfold lrg; split <;> simp_all
theorem mchk_tile {L T R : List (List St)} (h : mchk L T R = 0) : 0 < T.length ∧ (∀ i, i < T.length → (sw T i).length ≠ 0) ∧ goodB [L, T, R] = true := by
  have hz := mchk_zero h
  have h1 : ¬ (lrg L = 1 ∨ lrg T = 1 ∨ lrg R = 1) := by
    rw [lrg_big, lrg_big, lrg_big, hz.1.1, hz.1.2.1, hz.1.2.2]; simp
  rw [mchk_r h1 (by unfold mW; exact decide_eq_false (by omega))] at h
  by_cases e1 : T.length = 0 ∨ goodB [L, T, R] = false
  · rw [if_pos e1] at h; exact absurd h (by decide)
  · rw [if_neg e1] at h
    refine ⟨by omega, fun i hi e => ?_, by simpa using fun h => e1 (.inr h)⟩
    rw [if_pos (tile_bad hi e)] at h
    exact absurd h (by decide)
theorem big_wide {L T R : List (List St)} {n up : Nat} (hn : 16 < n) (hu : 1 ≤ up) (h0 : 0 < T.length) (ht : (sw T 0).length ≠ 0) : big (stkRows L T R n up) = true := by
  refine big_stk hu ?_
  have hl : (stkOne L T R n).length = T.length := by unfold stkOne; simp
  have hs : sw (stkOne L T R n) 0 = stkRow L T R n 0 := by unfold sw stkOne; simp [List.getD, h0]
  refine big_row (i := 0) (by omega) ?_
  rw [hs]
  unfold stkRow
  simp only [List.length_append]
  have : (List.replicate n (sw T 0)).flatten.length = n * (sw T 0).length := by simp
  have h2 : n * 1 ≤ n * (sw T 0).length := Nat.mul_le_mul_left n (by omega)
  omega
/-- motifs.Stack errs as the reference does. -/
theorem prgE_eq (L T R : List (List St)) (n up : Int) : prgE L T R n up = stkE L T R (min n 17) (min up 32) := by
  unfold prgE stkE
  by_cases hm : mchk L T R ≠ 0
  · rw [if_pos hm, if_pos hm]
  · rw [if_neg hm, if_neg hm]
    obtain ⟨_, hL, hR⟩ := mchk_zero (by simpa using hm)
    obtain ⟨ht, hw, _⟩ := mchk_tile (L := L) (T := T) (R := R) (by simpa using hm)
    by_cases h1 : n < 1 ∨ up < 1
    · have h1' : min n 17 < 1 ∨ min up 32 < 1 := by omega
      rw [if_pos h1, if_pos h1']
    · have h1' : ¬ (min n 17 < 1 ∨ min up 32 < 1) := by omega
      rw [if_neg h1, if_neg h1']
      by_cases h31 : 31 < up
      · rw [if_pos h31, if_pos]
        rw [lrg_big]
        refine big_long ?_
        rw [stkRows_len, show (min up 32).toNat = 32 by omega]
        have h2 : 32 * 1 ≤ 32 * T.length := Nat.mul_le_mul_left 32 ht
        omega
      · rw [if_neg h31, show min up 32 = up by omega]
        by_cases h16 : 16 < n
        · have hb : blkE L T R n = 3 := by unfold blkE; rw [if_pos h16]
          rw [hb, if_pos (by decide), if_pos]
          rw [lrg_big]
          exact big_wide (by omega) (by omega) ht (hw 0 ht)
        · rw [show min n 17 = n by omega]
          have hb := blkE_eq (L := L) (T := T) (R := R) (n := n) (by omega) (by omega) hL hR
          by_cases ho : lrg (stkOne L T R n.toNat) = 1
          · rw [if_pos ho] at hb
            rw [hb, if_pos (by decide), if_pos]
            rw [lrg_big] at ho ⊢
            exact big_stk (by omega) ho
          · rw [if_neg ho] at hb
            have hbr := blkR_eq (by omega) hL hR hb
            rw [hb, if_neg (by simp), hbr]
            have ha := aboE_ref (bs := List.replicate up.toNat (stkOne L T R n.toNat))
            have hfl : (List.replicate up.toNat (stkOne L T R n.toNat)).flatten = stkRows L T R n.toNat up.toNat := rfl
            rw [hfl] at ha
            by_cases hs : lrg (stkRows L T R n.toNat up.toNat) = 1
            · rw [if_pos (.inr hs)] at ha
              rw [ha, if_pos (by decide), if_pos hs]
            · rw [if_neg (by rintro (h | h); (rw [List.length_replicate] at h; omega); exact hs h)] at ha
              rw [ha, if_neg (by simp), if_neg hs]
              unfold aboR
              rw [if_pos ha, hfl]
theorem prgR_eq (L T R : List (List St)) (n up : Int) : prgR L T R n up = stkR L T R (min n 17) (min up 32) := by
  unfold prgR
  by_cases h0 : prgE L T R n up = 0
  · rw [if_pos h0]
    have hs := prgE_eq L T R n up
    rw [h0] at hs
    have hm : ¬ mchk L T R ≠ 0 := fun e => by unfold prgE at h0; rw [if_pos e] at h0; exact e h0
    obtain ⟨_, hL, hR⟩ := mchk_zero (by simpa using hm)
    unfold prgE at h0
    rw [if_neg hm] at h0
    have h1 : ¬ (n < 1 ∨ up < 1) := fun e => by rw [if_pos e] at h0; exact absurd h0 (by decide)
    rw [if_neg h1] at h0
    have h2 : ¬ 31 < up := fun e => by rw [if_pos e] at h0; exact absurd h0 (by decide)
    rw [if_neg h2] at h0
    have h3 : blkE L T R n = 0 := by
      by_cases e : blkE L T R n = 0
      · exact e
      · rw [if_pos e] at h0; exact h0
    rw [if_neg (by simp [h3])] at h0
    have h16 : ¬ 16 < n := fun e => by unfold blkE at h3; rw [if_pos e] at h3; exact absurd h3 (by decide)
    have hbr := blkR_eq (by omega) hL hR h3
    rw [hbr] at h0 ⊢
    have h4 : aboE (List.replicate up.toNat (stkOne L T R n.toNat)) = 0 := by
      by_cases e : aboE (List.replicate up.toNat (stkOne L T R n.toNat)) = 0
      · exact e
      · rw [if_pos e] at h0; exact h0
    unfold stkR aboR
    rw [← hs, if_pos rfl, if_pos h4, show min up 32 = up by omega, show min n 17 = n by omega]
    rfl
  · rw [if_neg h0]
    rw [prgE_eq] at h0
    exact (stkR_bad h0).symm
end Go.Proofs.Ytlmkcojimhbmiaa
/- motifs.block. -/
namespace Go.Proofs.Ytlmkcojimhbmiaa
set_option linter.unusedVariables false
set_option linter.unusedSimpArgs false
set_option maxRecDepth 8000
open Go Go.RowKit

theorem VB.form {w : World} {v : Value} {c : Nat} {bs : List (List (List St))} (h : VB w v c bs) : ∃ a n, v = .slice a n c := by
  obtain ⟨xs, ⟨ao, hv, _⟩, _⟩ := h
  exact ⟨_, _, hv⟩
theorem blk_three {w : World} {g : Nat} {t : TypeId} {x y z : Value} (h : w.heap[g]? = some (Obj.cells #[x, y, z] t (0, 0))) : ∀ i, i < 3 → w.cell? ⟨g, 0 + i, none⟩ = some ([x, y, z].getD i undef) := fun i hi => by
  rcases (show i = 0 ∨ i = 1 ∨ i = 2 by omega) with rfl | rfl | rfl <;> simp [World.cell?, h]
theorem joinC3_calls (g : Nat) (v0 v1 v2 : Value) (c0 c1 c2 : Nat) (b0 b1 b2 : List (List (List St))) (t : TypeId) (w : World) (hb : w.heap[g]? = some (Obj.cells #[v0, v1, v2] t (0, 0))) (h0 : VB w v0 c0 b0) (h1 : VB w v1 c1 b1) (h2 : VB w v2 c2 b2) (l0 : b0.length ≤ 100) (l1 : b1.length ≤ 100) (l2 : b2.length ≤ 100) :
    Calls Try.prog 46 #[.slice (some ⟨g, 0, none⟩) 3 3] w (RetVB w (b0 ++ b1 ++ b2)) := by
  have := joinC_calls g 0 3 3 (fun i => [v0, v1, v2].getD i undef) (fun i => [c0, c1, c2].getD i 0) (fun i => [b0, b1, b2].getD i []) w (by omega) (blk_three hb) (fun i hi => by
    rcases (show i = 0 ∨ i = 1 ∨ i = 2 by omega) with rfl | rfl | rfl
    · exact h0
    · exact h1
    · exact h2) (fun i => by
    rcases (show i = 0 ∨ i = 1 ∨ i = 2 ∨ 3 ≤ i by omega) with rfl | rfl | rfl | h
    · exact l0
    · exact l1
    · exact l2
    · simp [List.getD, List.getElem?_eq_none (show [b0, b1, b2].length ≤ i from h)])
  rw [show fb (fun i => [b0, b1, b2].getD i []) 3 = b0 ++ b1 ++ b2 by simp [fb, List.range_succ]] at this
  exact this
set_option maxHeartbeats 4000000 in
theorem Block_calls (u0 u1 u2 : Value) (c0 c1 c2 : Nat) (L T R : List (List St)) (n : Int) (w : World) (h0 : RR w u0 c0 L) (h1 : RR w u1 c1 T) (h2 : RR w u2 c2 R) (hn1 : 1 ≤ n)
    (b0 : big L = false) (b1 : big T = false) (b2 : big R = false) : Calls Try.prog 33 #[.agg #[u0, u1, u2], .int .i64 n] w (RetCO w (blkR L T R n) (blkE L T R n)) := by
  have k0 := fun w' (x : Ext w w') => Edge_calls _ _ _ w' (h0.ext x)
  have k2 := fun w' (x : Ext w w') => Edge_calls _ _ _ w' (h2.ext x)
  have hT := fun w' (x : Ext w w') => h1.ext x
  have hbd : ∀ m : Nat, ∀ k, k < (blkB L T R m).length → ∀ i, i < (bw (blkB L T R m) k).length → (sw (bw (blkB L T R m) k) i).length ≤ 1000 := fun m k hk i hi => by
    have h := blkB_mem (bw_mem hk)
    have : (sw (bw (blkB L T R m) k) i).length ≤ 16 := by
      rcases h with ⟨e, _⟩ | e | ⟨e, _⟩ <;> rw [e] <;> exact sw_bd (by assumption) i
    omega
  obtain ⟨a0, n0, rfl, d1, d2, d3, d4⟩ := h0.open
  obtain ⟨a1, n1, rfl, d5, d6, d7, d8⟩ := h1.open
  obtain ⟨a2, n2, rfl, d9, d10, d11, d12⟩ := h2.open
  clear d1 d2 d3 d4 d5 d6 d7 d8 d9 d10 d11 d12
  obtain ⟨W, hW⟩ : ∃ W, W = w.alloc (.cells #[.slice a0 n0 c0, .slice a1 n1 c1, .slice a2 n2 c2] 26) := ⟨_, rfl⟩
  have xW : Ext w W := by rw [hW]; exact (Ext.refl w).alloc _
  have hWs : W.heap.size = w.heap.size + 1 := by rw [hW]; simp
  have hbx : W.heap[w.heap.size]? = some (Obj.cells #[.slice a0 n0 c0, .slice a1 n1 c1, .slice a2 n2 c2] 26 (0, 0)) := by rw [hW]; exact blk_at rfl
  have b0' : W.cell? ⟨w.heap.size, 0, none⟩ = some (.slice a0 n0 c0) := by simp [World.cell?, hbx]
  have b1' : W.cell? ⟨w.heap.size, 1, none⟩ = some (.slice a1 n1 c1) := by simp [World.cell?, hbx]
  have b2' : W.cell? ⟨w.heap.size, 2, none⟩ = some (.slice a2 n2 c2) := by simp [World.cell?, hbx]
  have HB0 := Lib.hid (fun w' (x : Ext W w') => x.cell b0'); have HB2 := Lib.hid (fun w' (x : Ext W w') => x.cell b2')
  obtain ⟨W2, hW2⟩ : ∃ W2, W2 = W.alloc (.cells #[.slice none 0 0] 24) := ⟨_, rfl⟩
  have x2 : Ext W W2 := by rw [hW2]; exact (Ext.refl W).alloc _
  have hres : W2.heap[w.heap.size + 1]? = some (Obj.cells #[.slice none 0 0] 24 (0, 0)) := by rw [hW2]; exact blk_at hWs.symm
  have HRes := Lib.hid (fun w' (x : Ext W2 w') => x.block hres)
  have X02 := Lib.hid (xW.trans x2); have XW2 := Lib.hid x2; have HW := Lib.hid hW; have HW2 := Lib.hid hW2
  have hc1 := x2.cell b1'
  have K0 := Lib.hid (fun w' (x : Ext W2 w') => k0 w' ((xW.trans x2).trans x)); have K2 := Lib.hid (fun w' (x : Ext W2 w') => k2 w' ((xW.trans x2).trans x)); have KT := Lib.hid (fun w' (x : Ext W2 w') => hT w' ((xW.trans x2).trans x))
  by_cases h16 : 16 < n
  · have hF : RetCO w (blkR L T R n) (blkE L T R n) (.returned (.tuple #[.agg #[.slice none 0 0], .int .i64 3])) W2 := by
      unfold blkR blkE
      rw [if_pos h16, if_pos h16]
      exact ⟨_, rfl, CO.nil (xW.trans x2), RR.nil _⟩
    have r1 : W2.cell? ⟨w.heap.size + 1, 0, none⟩ = some (.slice none 0 0) := by simp [World.cell?, hres]
    have r2 : W2.frozen? ⟨w.heap.size + 1, 0, none⟩ = false := by simp [World.frozen?, hres]
    have HF := Lib.hid hF; have R3 := Lib.hid r1
    rw [hW2, hW] at r1 r2
    clear h0 h1 h2 k0 k2 hT hbd hW hW2 xW x2 hbx hres b0' b1' b2' hF hc1 b0 b1 b2
    go_enter Try.func33, Try.ntmps33
    go_wp2
    rw [← HW.out, ← HW2.out]
    have r3 := R3.out
    exact bodyPost_ret (v := .tuple #[.agg #[.slice none 0 0], .int .i64 3]) (by simp [results, Try.results33, go_sem, r3]) rfl HF.out
  · obtain ⟨m, rfl⟩ : ∃ m : Nat, n = (m : Int) := ⟨n.toNat, by omega⟩
    have hbe : blkE L T R m = besE (blkB L T R m) := by unfold blkE; rw [if_neg h16]; rfl
    have hbr : blkR L T R m = besR (blkB L T R m) := by unfold blkR; rw [if_neg h16]; rfl
    rw [hbe, hbr]
    have hlen := blkB_len L T R m
    have HBd := Lib.hid (hbd m); have HLen := Lib.hid hlen
    have KB := Lib.hid (fun v c w' (hv : VB w' v c (blkB L T R m)) => Beside2_calls v c (blkB L T R m) w' hv.bb (by omega) (hbd m))
    have HEl := Lib.hid (edgeB_len L); have HEr := Lib.hid (edgeB_len R)
    have t1 : ¬ (16 : Int) < m := h16
    have hm16 : m ≤ 16 := by omega
    have hm1 : 1 ≤ m := by omega
    obtain ⟨W3, hW3⟩ : ∃ W3, W3 = W2.alloc (.cells #[.slice a1 n1 c1] 24) := ⟨_, rfl⟩
    have hR3 : W3.heap[W2.heap.size]? = some (Obj.cells #[.slice a1 n1 c1] 24 (0, 0)) := by rw [hW3]; exact blk_at rfl
    have hW2s : W2.heap.size = w.heap.size + 1 + 1 := by rw [hW2]; simp [hWs]
    rw [hW2s] at hR3
    have X3 := Lib.hid (show Ext W2 W3 by rw [hW3]; exact (Ext.refl W2).alloc _)
    have HRp := Lib.hid (Repeat_calls _ _ m W3 hR3 rfl hm1 (by omega)); have HW3 := Lib.hid hW3; have HWs := Lib.hid hWs
    rw [hW2, hW] at hc1
    clear h0 h1 h2 k0 k2 hT hbd hW hW2 hW3 xW x2 hbx hres b0' b1' b2' b0 b1 b2 h16 hbe hbr hlen hn1 hR3 hW2s hWs
    go_enter Try.func33, Try.ntmps33
    go_wp2_with fail
    rw [← HW.out, ← HW2.out, ← HW3.out]
    refine HRp.out.mono ?_
    rintro e w4 ⟨G, rfl, hG, x⟩
    have X4 := Lib.hid (X3.out.trans x)
    have HG := Lib.hid (fun w' (x : Ext w4 w') => VB.rep (x.block hG) (by omega) (KT.out w' (X4.out.trans x)))
    clear hG x hc1
    have q0_1 := HB0.out _ (XW2.out.trans X4.out)
    have q0_2 := HB2.out _ (XW2.out.trans X4.out)
    go_upto_region 5 with fail
    refine wp_region_held_drew (S := fun w' => w'.cell? ⟨w.heap.size, 0, Option.none⟩ = some (.slice a0 n0 c0) ∧ w'.cell? ⟨w.heap.size, 2, Option.none⟩ = some (.slice a2 n2 c2)) (by kernel_rfl) ?_ (fun hHeld => ?_)
    · exact ⟨q0_1, q0_2⟩
    refine wpAnyH_take (i := 0) (v := ?va108_0) rfl (by kernel_rfl) (by kernel_rfl) (by kernel_rfl) (fun _ _ _ h => h) (Or.inl ⟨by rfl, fun w hSw => ?ti108_0⟩) (by assumption) ?rest108_0
    case ti108_0 => ((try dsimp only at hSw); go_simp; (first | done | with_reducible rfl))
    try simp only [Act.put, List.getElem_toArray, List.getElem_cons_zero, List.getElem_cons_succ, List.setIfInBounds_toArray, List.set_cons_zero, List.set_cons_succ]
    refine wpAnyH_take (i := 1) (v := ?va111_1) rfl (by kernel_rfl) (by kernel_rfl) (by kernel_rfl) (fun _ _ _ h => h) (Or.inl ⟨by rfl, fun w hSw => ?ti111_1⟩) (by assumption) ?rest111_1
    case ti111_1 => ((try dsimp only at hSw); go_simp; (first | done | with_reducible rfl))
    try simp only [Act.put, List.getElem_toArray, List.getElem_cons_zero, List.getElem_cons_succ, List.setIfInBounds_toArray, List.set_cons_zero, List.set_cons_succ]
    refine wpAnyH_take (i := 2) (v := ?va114_2) rfl (by kernel_rfl) (by kernel_rfl) (by kernel_rfl) (fun _ _ _ h => h) (Or.inl ⟨by rfl, fun w hSw => ?ti114_2⟩) (by assumption) ?rest114_2
    case ti114_2 => ((try dsimp only at hSw); go_simp; (first | done | with_reducible rfl))
    try simp only [Act.put, List.getElem_toArray, List.getElem_cons_zero, List.getElem_cons_succ, List.setIfInBounds_toArray, List.set_cons_zero, List.set_cons_succ]
    refine wpAnyH_take (i := 4) (v := ?va117_4) rfl (by kernel_rfl) (by kernel_rfl) (by kernel_rfl) (fun _ _ _ h => h) (Or.inl ⟨by rfl, fun w hSw => ?ti117_4⟩) (by assumption) ?rest117_4
    case ti117_4 => ((try dsimp only at hSw); go_simp; (first | done | with_reducible rfl))
    try simp only [Act.put, List.getElem_toArray, List.getElem_cons_zero, List.getElem_cons_succ, List.setIfInBounds_toArray, List.set_cons_zero, List.set_cons_succ]
    refine wpAnyH_take (i := 5) (v := ?va120_5) rfl (by kernel_rfl) (by kernel_rfl) (by kernel_rfl) (fun _ _ _ h => h) (Or.inl ⟨by rfl, fun w hSw => ?ti120_5⟩) (by assumption) ?rest120_5
    case ti120_5 => ((try dsimp only at hSw); go_simp; (first | done | with_reducible rfl))
    try simp only [Act.put, List.getElem_toArray, List.getElem_cons_zero, List.getElem_cons_succ, List.setIfInBounds_toArray, List.set_cons_zero, List.set_cons_succ]
    refine wpAnyH_take (i := 6) (v := ?va123_6) rfl (by kernel_rfl) (by kernel_rfl) (by kernel_rfl) (fun _ _ _ h => h) (Or.inl ⟨by rfl, fun w hSw => ?ti123_6⟩) (by assumption) ?rest123_6
    case ti123_6 => ((try dsimp only at hSw); go_simp; (first | done | with_reducible rfl))
    try simp only [Act.put, List.getElem_toArray, List.getElem_cons_zero, List.getElem_cons_succ, List.setIfInBounds_toArray, List.set_cons_zero, List.set_cons_succ]
    refine wpAnyH_take (i := 7) (v := ?va126_7) rfl (by kernel_rfl) (by kernel_rfl) (by kernel_rfl) (fun _ _ _ h => h) (Or.inl ⟨by rfl, fun w hSw => ?ti126_7⟩) (by assumption) ?rest126_7
    case ti126_7 => ((try dsimp only at hSw); go_simp; (first | done | with_reducible rfl))
    try simp only [Act.put, List.getElem_toArray, List.getElem_cons_zero, List.getElem_cons_succ, List.setIfInBounds_toArray, List.set_cons_zero, List.set_cons_succ]
    refine wpAnyH_ready (rs := [3]) (by kernel_rfl) (by simp) ?_
    refine AllReadyH.cons rfl (fun K hK => ?_) AllReadyH.nil
    go_simp
    refine (K0.out _ ?_).mono ?_
    · (refine Ext.trans X4.out ?_; (repeat (first | (with_reducible exact Ext.refl _) | (with_reducible apply Ext.drew) | (with_reducible apply Ext.drewN) | (with_reducible apply Ext.alloc))))
    intro e w5 hh
    obtain ⟨v5, d5, rfl, r5, x⟩ := hh
    have X5 : Hid (Ext w4 w5) := Lib.hid (Ext.trans (by (repeat (first | (with_reducible exact Ext.refl _) | (with_reducible apply Ext.drew) | (with_reducible apply Ext.drewN) | (with_reducible apply Ext.alloc)))) x)
    have q1_1 := X5.out.cell q0_1
    have q1_2 := X5.out.cell q0_2
    have V5 := Lib.hid r5; obtain ⟨e5, m5, rfl⟩ := r5.form; clear r5
    go_simp
    refine hK.out _ _ ?_ (fun hHeld => ?_)
    · exact ⟨q1_1, q1_2⟩
    clear hK K x
    try simp only [Act.put, List.getElem_toArray, List.getElem_cons_zero, List.getElem_cons_succ, List.setIfInBounds_toArray, List.set_cons_zero, List.set_cons_succ]
    refine wpAnyH_ready (rs := [8]) (by kernel_rfl) (by simp) ?_
    refine AllReadyH.cons rfl (fun K hK => ?_) AllReadyH.nil
    go_simp
    refine (K2.out _ ?_).mono ?_
    · (refine Ext.trans (X4.out.trans X5.out) ?_; (repeat (first | (with_reducible exact Ext.refl _) | (with_reducible apply Ext.drew) | (with_reducible apply Ext.drewN) | (with_reducible apply Ext.alloc))))
    intro e w6 hh
    obtain ⟨v6, d6, rfl, r6, x⟩ := hh
    have X6 : Hid (Ext w4 w6) := Lib.hid (Ext.trans X5.out (Ext.trans (by (repeat (first | (with_reducible exact Ext.refl _) | (with_reducible apply Ext.drew) | (with_reducible apply Ext.drewN) | (with_reducible apply Ext.alloc)))) x))
    have q2_1 := X6.out.cell q0_1
    have q2_2 := X6.out.cell q0_2
    have V6 := Lib.hid r6; obtain ⟨e6, m6, rfl⟩ := r6.form; have V56 := Lib.hid (show Ext w5 w6 from x); clear r6
    go_simp
    refine hK.out _ _ ?_ (fun hHeld => ?_)
    · exact ⟨q2_1, q2_2⟩
    clear hK K x
    try simp only [Act.put, List.getElem_toArray, List.getElem_cons_zero, List.getElem_cons_succ, List.setIfInBounds_toArray, List.set_cons_zero, List.set_cons_succ]
    have XZ := Lib.hid (X4.out.trans X6.out)
    obtain ⟨W7, hW7⟩ : ∃ W7, W7 = w6.alloc (.cells #[.slice e5 m5 d5, .slice (some ⟨G, 0, none⟩) m m, .slice e6 m6 d6] 40) := ⟨_, rfl⟩
    have x7 : Ext w6 W7 := by rw [hW7]; exact (Ext.refl w6).alloc _
    have hb7 : W7.heap[w6.heap.size]? = some (Obj.cells #[.slice e5 m5 d5, .slice (some ⟨G, 0, none⟩) m m, .slice e6 m6 d6] 40 (0, 0)) := by rw [hW7]; exact blk_at rfl
    have x56 : Ext w5 w6 := V56.out
    have HJ := Lib.hid (joinC3_calls w6.heap.size _ _ _ _ _ _ _ _ _ _ W7 hb7 (V5.out.ext (x56.trans x7)) (HG.out _ (X6.out.trans x7)) (V6.out.ext x7) (by have := HEl.out; omega) (by simp; omega) (by have := HEr.out; omega))
    have X7 := Lib.hid x7; have HW7 := Lib.hid hW7
    clear x7 hb7 x56 hW7
    refine wpAnyH_ready (rs := [9]) (by kernel_rfl) (by simp) ?_
    refine AllReadyH.cons rfl (fun K hK => ?_) AllReadyH.nil
    go_simp
    refine hK.out _ _ ?_ (fun hHeld => ?_)
    · exact ⟨HB0.out _ (XW2.out.trans (XZ.out.trans ((Ext.refl w6).alloc _))), HB2.out _ (XW2.out.trans (XZ.out.trans ((Ext.refl w6).alloc _)))⟩
    clear hK K
    try simp only [Act.put, List.getElem_toArray, List.getElem_cons_zero, List.getElem_cons_succ, List.setIfInBounds_toArray, List.set_cons_zero, List.set_cons_succ]
    rw [← HW7.out]
    refine wpAnyH_ready (rs := [10]) (by kernel_rfl) (by simp) ?_
    refine AllReadyH.cons rfl (fun K hK => ?_) AllReadyH.nil
    go_simp
    refine HJ.out.mono ?_
    rintro e w8 ⟨v8, d8, rfl, r8, x8⟩
    have hB := KB.out _ _ _ r8
    obtain ⟨e8, m8, rfl⟩ := r8.form
    have X8 := Lib.hid (XZ.out.trans (X7.out.trans x8)); have HBe := Lib.hid hB
    clear r8 x8 hB
    go_simp
    refine hK.out _ _ ?_ (fun hHeld => ?_)
    · exact ⟨HB0.out _ (XW2.out.trans X8.out), HB2.out _ (XW2.out.trans X8.out)⟩
    clear hK K
    try simp only [Act.put, List.getElem_toArray, List.getElem_cons_zero, List.getElem_cons_succ, List.setIfInBounds_toArray, List.set_cons_zero, List.set_cons_succ]
    refine wpAnyH_ready (rs := [11]) (by kernel_rfl) (by simp) ?_
    refine AllReadyH.cons rfl (fun K hK => ?_) AllReadyH.nil
    go_simp
    refine HBe.out.mono ?_
    rintro e w9 ⟨v9, rfl, o9, r9⟩
    obtain ⟨e9, m9, hv9, j1, j2, j3, j4⟩ := r9.open
    subst hv9
    clear j1 j2 j3 j4
    have X9 := Lib.hid (X8.out.trans o9.1); have R9 := Lib.hid r9; have O9 := Lib.hid o9
    clear r9 o9
    go_simp
    refine hK.out _ _ ?_ (fun hHeld => ?_)
    · exact ⟨HB0.out _ (XW2.out.trans X9.out), HB2.out _ (XW2.out.trans X9.out)⟩
    clear hK K
    try simp only [Act.put, List.getElem_toArray, List.getElem_cons_zero, List.getElem_cons_succ, List.setIfInBounds_toArray, List.set_cons_zero, List.set_cons_succ]
    refine wpAnyH_take (i := 12) (v := ?va12) rfl (by kernel_rfl) (by kernel_rfl) (by kernel_rfl) (fun _ _ _ h => h) (Or.inl ⟨by rfl, fun w hSw => ?ti12⟩) (by assumption) ?rest12
    case ti12 => ((try dsimp only at hSw); go_simp; (first | done | with_reducible rfl))
    try simp only [Act.put, List.getElem_toArray, List.getElem_cons_zero, List.getElem_cons_succ, List.setIfInBounds_toArray, List.set_cons_zero, List.set_cons_succ]
    refine wpAnyH_take (i := 13) (v := ?va13) rfl (by kernel_rfl) (by kernel_rfl) (by kernel_rfl) (fun _ _ _ h => h) (Or.inl ⟨by rfl, fun w hSw => ?ti13⟩) (by assumption) ?rest13
    case ti13 => ((try dsimp only at hSw); go_simp; (first | done | with_reducible rfl))
    try simp only [Act.put, List.getElem_toArray, List.getElem_cons_zero, List.getElem_cons_succ, List.setIfInBounds_toArray, List.set_cons_zero, List.set_cons_succ]
    have hR := HRes.out _ X9.out
    have g0 : w9.cell? ⟨w.heap.size + 1, 0, none⟩ = some (.slice none 0 0) := by simp [World.cell?, hR]
    have f0 : w9.frozen? ⟨w.heap.size + 1, 0, none⟩ = false := by simp [World.frozen?, hR]
    have HP := Lib.hid (blk_one hR (.slice e9 m9 (besR (blkB L T R m)).length))
    refine wpAnyH_ready (rs := [14]) (by kernel_rfl) (by simp) ?_
    refine AllReadyH.cons rfl (fun K hK => ?_) AllReadyH.nil
    go_simp
    refine hK.out _ _ ?_ (fun hHeld => ?_)
    · exact ⟨HB0.out _ ((XW2.out.trans X9.out).setCell (by rw [HWs.out]; exact Nat.le_refl _) _), HB2.out _ ((XW2.out.trans X9.out).setCell (by rw [HWs.out]; exact Nat.le_refl _) _)⟩
    clear hK K
    try simp only [Act.put, List.getElem_toArray, List.getElem_cons_zero, List.getElem_cons_succ, List.setIfInBounds_toArray, List.set_cons_zero, List.set_cons_succ]
    refine wpAnyH_ready (rs := [15]) (by kernel_rfl) (by simp) ?_
    refine AllReadyH.cons rfl (fun K hK => ?_) AllReadyH.nil
    go_simp
    refine hK.out _ _ ?_ (fun hHeld => ?_)
    · exact ⟨HB0.out _ ((XW2.out.trans X9.out).setCell (by rw [HWs.out]; exact Nat.le_refl _) _), HB2.out _ ((XW2.out.trans X9.out).setCell (by rw [HWs.out]; exact Nat.le_refl _) _)⟩
    clear hK K
    try simp only [Act.put, List.getElem_toArray, List.getElem_cons_zero, List.getElem_cons_succ, List.setIfInBounds_toArray, List.set_cons_zero, List.set_cons_succ]
    refine wpAnyH_done (by kernel_rfl) ?_ _
    have hF := O9.out.put (u := .slice e9 m9 (besR (blkB L T R m)).length) (a := ⟨w.heap.size + 1, 0, none⟩) R9.out (X02.out.trans X8.out) hR (by decide) (by decide) (Nat.le_succ _)
    have HF := Lib.hid (show RetCO w (besR (blkB L T R m)) (besE (blkB L T R m)) (.returned (.tuple #[.agg #[.slice e9 m9 (besR (blkB L T R m)).length], .int .i64 (besE (blkB L T R m))])) (w9.setCell ⟨w.heap.size + 1, 0, none⟩ (.slice e9 m9 (besR (blkB L T R m)).length)) from ⟨_, rfl, hF⟩)
    clear hR g0 f0 q0_1 q0_2 q1_1 q1_2 q2_1 q2_2 hF
    go_wp2
    have hP := HP.out
    exact bodyPost_ret (v := .tuple #[.agg #[.slice e9 m9 (besR (blkB L T R m)).length], .int .i64 (besE (blkB L T R m))]) (by simp [results, Try.results33, go_sem, World.cell?, hP]) rfl HF.out
end Go.Proofs.Ytlmkcojimhbmiaa
/- Contract of charts.Check. -/
namespace Go.Proofs.Ytlmkcojimhbmiaa
set_option linter.unusedVariables false
set_option linter.unusedSimpArgs false
set_option maxRecDepth 8000
open Go Go.RowKit

theorem CCheck_calls (v : Value) (c : Nat) (rows : List (List St)) (w : World) (h : RR w v c rows) :
    Calls Try.prog 35 #[.agg #[v]] w fun e w' => e = .returned (.int .i64 (cloads rows).1) ∧ Ext w w' := by
  have hL := fun w' (x : Ext w w') => CLoads_calls v c rows w' (h.ext x)
  have HL := Lib.hid hL
  obtain ⟨ao, n, rfl, h0⟩ := h.open
  clear hL h h0
  go_enter Try.func35, Try.ntmps35
  go_wp2_with fail
  refine (HL.out _ ((Ext.refl w).alloc _)).mono ?_
  rintro e w1 ⟨v1, rfl, h1, x1⟩
  have X1 := Lib.hid (((Ext.refl w).alloc _).trans x1)
  clear h1 x1
  go_wp2
  go_ret
  exact ⟨rfl, X1.out⟩
end Go.Proofs.Ytlmkcojimhbmiaa
/- motifs.Stack, Tile. -/
namespace Go.Proofs.Ytlmkcojimhbmiaa
set_option linter.unusedVariables false
set_option linter.unusedSimpArgs false
set_option maxRecDepth 8000
open Go Go.RowKit

set_option maxHeartbeats 4000000 in
theorem Stack_calls (u0 u1 u2 : Value) (c0 c1 c2 : Nat) (L T R : List (List St)) (n up : Int) (w : World) (h0 : RR w u0 c0 L) (h1 : RR w u1 c1 T) (h2 : RR w u2 c2 R) : Calls Try.prog 14 #[.agg #[u0, u1, u2], .int .i64 n, .int .i64 up] w (RetCO w (prgR L T R n up) (prgE L T R n up)) := by
  have kC := fun w' (x : Ext w w') => MCheck_calls _ _ _ _ _ _ L T R w' (h0.ext x) (h1.ext x) (h2.ext x)
  have kB := fun w' (x : Ext w w') (hn1 : 1 ≤ n) (hm : mchk L T R = 0) => Block_calls _ _ _ _ _ _ L T R n w' (h0.ext x) (h1.ext x) (h2.ext x) hn1 (mchk_zero hm).1.1 (mchk_zero hm).1.2.1 (mchk_zero hm).1.2.2
  obtain ⟨a0, n0, rfl, d1, d2, d3, d4⟩ := h0.open
  obtain ⟨a1, n1, rfl, d5, d6, d7, d8⟩ := h1.open
  obtain ⟨a2, n2, rfl, d9, d10, d11, d12⟩ := h2.open
  clear d1 d2 d3 d4 d5 d6 d7 d8 d9 d10 d11 d12
  obtain ⟨W, hW⟩ : ∃ W, W = w.alloc (.cells #[.slice a0 n0 c0, .slice a1 n1 c1, .slice a2 n2 c2] 26) := ⟨_, rfl⟩
  have xW : Ext w W := by rw [hW]; exact (Ext.refl w).alloc _
  have hWs : W.heap.size = w.heap.size + 1 := by rw [hW]; simp
  have hbx : W.heap[w.heap.size]? = some (Obj.cells #[.slice a0 n0 c0, .slice a1 n1 c1, .slice a2 n2 c2] 26 (0, 0)) := by rw [hW]; exact blk_at rfl
  have b0 : W.cell? ⟨w.heap.size, 0, none⟩ = some (.slice a0 n0 c0) := by simp [World.cell?, hbx]
  have b1 : W.cell? ⟨w.heap.size, 1, none⟩ = some (.slice a1 n1 c1) := by simp [World.cell?, hbx]
  have b2 : W.cell? ⟨w.heap.size, 2, none⟩ = some (.slice a2 n2 c2) := by simp [World.cell?, hbx]
  obtain ⟨W2, hW2⟩ : ∃ W2, W2 = W.alloc (.cells #[.slice none 0 0] 24) := ⟨_, rfl⟩
  have x2 : Ext W W2 := by rw [hW2]; exact (Ext.refl W).alloc _
  have hres : W2.heap[w.heap.size + 1]? = some (Obj.cells #[.slice none 0 0] 24 (0, 0)) := by rw [hW2]; exact blk_at hWs.symm
  have HRes := Lib.hid (fun w' (x : Ext W2 w') => x.block hres)
  have X02 := Lib.hid (xW.trans x2); have HW := Lib.hid hW; have HW2 := Lib.hid hW2; have HWs := Lib.hid hWs
  have q0 := x2.cell b0; have q1 := x2.cell b1; have q2 := x2.cell b2
  have Q0 := Lib.hid q0; have Q1 := Lib.hid q1; have Q2 := Lib.hid q2
  have KC := Lib.hid (fun w' (x : Ext W2 w') => kC w' ((xW.trans x2).trans x)); have KB := Lib.hid (fun w' (x : Ext W2 w') => kB w' ((xW.trans x2).trans x))
  have HBad := Lib.hid (show ∀ w' e, Ext W2 w' → prgE L T R n up = e → e ≠ 0 → RetCO w (prgR L T R n up) (prgE L T R n up) (.returned (.tuple #[.agg #[.slice none 0 0], .int .i64 e])) (w'.setCell ⟨w.heap.size + 1, 0, none⟩ (.slice none 0 0)) from fun w' e x he hne => by
    rw [prgR_bad (by rw [he]; exact hne), he]
    exact ⟨_, rfl, CO.nil (((xW.trans x2).trans x).setCell (Nat.le_succ _) _), RR.nil _⟩)
  rw [hW2, hW] at q0 q1 q2
  clear h0 h1 h2 kC kB hW hW2 xW x2 hbx hres b0 b1 b2 hWs
  go_enter Try.func14, Try.ntmps14
  go_wp2_with fail
  rw [← HW.out, ← HW2.out]
  refine (KC.out _ (Ext.refl _)).mono ?_
  rintro e w1 ⟨rfl, x⟩
  have X1 := Lib.hid x
  clear q0 q1 q2 x
  obtain ⟨M, hM⟩ : ∃ M, M = mchk L T R := ⟨_, rfl⟩
  rw [← hM] at KB ⊢
  have HM := Lib.hid hM
  clear hM
  by_cases hM0 : M ≠ 0
  · have t1 : (M != 0) = true := by simpa using hM0
    have t2 : (M == 0) = false := by simpa using hM0
    have HE := Lib.hid (show prgE L T R n up = M by rw [prgE_m (by rw [← HM.out]; exact hM0), HM.out])
    have HN := Lib.hid hM0
    clear hM0
    have hR := HRes.out _ (X1.out)
    have r1 : w1.cell? ⟨w.heap.size + 1, 0, none⟩ = some (.slice none 0 0) := by simp [World.cell?, hR]
    have r2 : w1.frozen? ⟨w.heap.size + 1, 0, none⟩ = false := by simp [World.frozen?, hR]
    have R3 := Lib.hid (show (w1.setCell ⟨w.heap.size + 1, 0, none⟩ (.slice none 0 0)).cell? ⟨w.heap.size + 1, 0, none⟩ = some (.slice none 0 0) by simp [World.cell?, blk_one hR _])
    have HF := Lib.hid (HBad.out w1 M (X1.out) (HE.out) (HN.out))
    clear hR
    go_wp2
    have r3 := R3.out
    exact bodyPost_ret (v := .tuple #[.agg #[.slice none 0 0], .int .i64 M]) (by simp [results, Try.results14, go_sem, r3]) rfl HF.out
  obtain rfl : M = 0 := by simpa using hM0
  have HM0 := Lib.hid (show mchk L T R = 0 from HM.out.symm)
  clear hM0 HM
  by_cases h1 : n < 1
  · have HE := Lib.hid (prgE_1 (up := up) HM0.out (.inl h1))
    have t1 : (n : Int) < 1 := h1
    have hR := HRes.out _ (X1.out)
    have r1 : w1.cell? ⟨w.heap.size + 1, 0, none⟩ = some (.slice none 0 0) := by simp [World.cell?, hR]
    have r2 : w1.frozen? ⟨w.heap.size + 1, 0, none⟩ = false := by simp [World.frozen?, hR]
    have R3 := Lib.hid (show (w1.setCell ⟨w.heap.size + 1, 0, none⟩ (.slice none 0 0)).cell? ⟨w.heap.size + 1, 0, none⟩ = some (.slice none 0 0) by simp [World.cell?, blk_one hR _])
    have HF := Lib.hid (HBad.out w1 1 (X1.out) (HE.out) (by decide))
    clear hR
    go_wp2
    have r3 := R3.out
    exact bodyPost_ret (v := .tuple #[.agg #[.slice none 0 0], .int .i64 1]) (by simp [results, Try.results14, go_sem, r3]) rfl HF.out
  by_cases h2 : up < 1
  · have HE := Lib.hid (prgE_1 (n := n) HM0.out (.inr h2))
    have hR := HRes.out _ (X1.out)
    have r1 : w1.cell? ⟨w.heap.size + 1, 0, none⟩ = some (.slice none 0 0) := by simp [World.cell?, hR]
    have r2 : w1.frozen? ⟨w.heap.size + 1, 0, none⟩ = false := by simp [World.frozen?, hR]
    have R3 := Lib.hid (show (w1.setCell ⟨w.heap.size + 1, 0, none⟩ (.slice none 0 0)).cell? ⟨w.heap.size + 1, 0, none⟩ = some (.slice none 0 0) by simp [World.cell?, blk_one hR _])
    have HF := Lib.hid (HBad.out w1 1 (X1.out) (HE.out) (by decide))
    clear hR
    go_wp2
    have r3 := R3.out
    exact bodyPost_ret (v := .tuple #[.agg #[.slice none 0 0], .int .i64 1]) (by simp [results, Try.results14, go_sem, r3]) rfl HF.out
  have H12 := Lib.hid (show ¬ (n < 1 ∨ up < 1) by omega)
  have h1u : 1 ≤ up := by omega
  by_cases h3 : 31 < up
  · have HE := Lib.hid (prgE_3 HM0.out H12.out h3)
    have hR := HRes.out _ (X1.out)
    have r1 : w1.cell? ⟨w.heap.size + 1, 0, none⟩ = some (.slice none 0 0) := by simp [World.cell?, hR]
    have r2 : w1.frozen? ⟨w.heap.size + 1, 0, none⟩ = false := by simp [World.frozen?, hR]
    have R3 := Lib.hid (show (w1.setCell ⟨w.heap.size + 1, 0, none⟩ (.slice none 0 0)).cell? ⟨w.heap.size + 1, 0, none⟩ = some (.slice none 0 0) by simp [World.cell?, blk_one hR _])
    have HF := Lib.hid (HBad.out w1 3 (X1.out) (HE.out) (by decide))
    clear hR
    go_wp2
    have r3 := R3.out
    exact bodyPost_ret (v := .tuple #[.agg #[.slice none 0 0], .int .i64 3]) (by simp [results, Try.results14, go_sem, r3]) rfl HF.out
  have HKB := Lib.hid (KB.out _ X1.out (by omega) rfl)
  have H3 := Lib.hid h3
  have q0 := X1.out.cell Q0.out; have q1 := X1.out.cell Q1.out; have q2 := X1.out.cell Q2.out
  obtain ⟨m, rfl⟩ : ∃ m : Nat, up = (m : Int) := ⟨up.toNat, by omega⟩
  have HE0 := Lib.hid (fun h => prgE_b (n := n) HM0.out H12.out H3.out h)
  have HE1 := Lib.hid (fun h => prgE_a (n := n) HM0.out H12.out H3.out h)
  have HE2 := Lib.hid (fun h => prgE_c (n := n) HM0.out H12.out H3.out h)
  have HOk := Lib.hid (prgR_ok (L := L) (T := T) (R := R) (n := n) (up := (m : Int)))
  rw [Int.toNat_natCast] at HE1 HE2 HOk
  clear KB KC Q0 Q1 Q2
  go_wp2_with fail
  refine HKB.out.mono ?_
  rintro e w2 ⟨v2, rfl, o2, r2⟩
  obtain ⟨e2, m2, hv2, j1, j2, j3, j4⟩ := r2.open
  subst hv2
  have X2 := Lib.hid (X1.out.trans o2.1); have R2 := Lib.hid r2
  clear j1 j2 j3 j4 r2 o2 HKB q0 q1 q2
  obtain ⟨M, hM⟩ : ∃ M, M = blkE L T R n := ⟨_, rfl⟩
  rw [← hM] at HE0 HE1 HE2 ⊢
  obtain ⟨bR, hbR⟩ : ∃ bR, bR = blkR L T R n := ⟨_, rfl⟩
  rw [← hbR] at HE1 HE2 R2 HOk ⊢
  clear hM hbR
  obtain ⟨W3, hW3⟩ : ∃ W3, W3 = w2.alloc (.cells #[.slice e2 m2 bR.length] 24) := ⟨_, rfl⟩
  have x3 : Ext w2 W3 := by rw [hW3]; exact (Ext.refl w2).alloc _
  have X3 := Lib.hid (X2.out.trans x3); have HW3 := Lib.hid hW3
  by_cases hM0 : M ≠ 0
  · have t1 : (M != 0) = true := by simpa using hM0
    have t2 : (M == 0) = false := by simpa using hM0
    have HE := Lib.hid (HE0.out hM0); have HN := Lib.hid hM0
    have hR := HRes.out _ X3.out
    have r1 : W3.cell? ⟨w.heap.size + 1, 0, none⟩ = some (.slice none 0 0) := by simp [World.cell?, hR]
    have r2 : W3.frozen? ⟨w.heap.size + 1, 0, none⟩ = false := by simp [World.frozen?, hR]
    rw [hW3] at r1 r2
    have R3 := Lib.hid (show (W3.setCell ⟨w.heap.size + 1, 0, none⟩ (.slice none 0 0)).cell? ⟨w.heap.size + 1, 0, none⟩ = some (.slice none 0 0) by simp [World.cell?, blk_one hR _])
    have HF := Lib.hid (HBad.out W3 M X3.out HE.out HN.out)
    clear hM0 hR x3 hW3
    go_wp2
    rw [← HW3.out]
    have r3 := R3.out
    exact bodyPost_ret (v := .tuple #[.agg #[.slice none 0 0], .int .i64 M]) (by simp [results, Try.results14, go_sem, r3]) rfl HF.out
  obtain rfl : M = 0 := by simpa using hM0
  have hW3s : W3.heap.size = w2.heap.size + 1 := by rw [hW3]; simp
  have c3 : W3.cell? ⟨w2.heap.size, 0, none⟩ = some (.slice e2 m2 bR.length) := by rw [hW3, World.cell?_alloc_at (hn := rfl)]; rfl
  obtain ⟨W4, hW4⟩ : ∃ W4, W4 = W3.alloc (.cells #[.slice e2 m2 bR.length] 24) := ⟨_, rfl⟩
  have x4 : Ext W3 W4 := by rw [hW4]; exact (Ext.refl W3).alloc _
  have hb4 : W4.heap[w2.heap.size + 1]? = some (Obj.cells #[.slice e2 m2 bR.length] 24 (0, 0)) := by rw [hW4]; exact blk_at hW3s.symm
  have HRp := Lib.hid (Repeat_calls _ _ m W4 hb4 rfl (by omega) (by omega))
  have X4 := Lib.hid (X3.out.trans x4); have HW4 := Lib.hid hW4
  have HR4 := Lib.hid (R2.out.ext (x3.trans x4))
  have m31 : m ≤ 31 := by omega
  rw [hW3] at c3
  clear hW3 hW4 x3 x4 hb4 hM0 hW3s h3 h1u h2 h1
  go_wp2_with fail
  rw [← HW3.out, ← HW4.out]
  refine HRp.out.mono ?_
  rintro e w5 ⟨G, rfl, hG, x⟩
  have X5 := Lib.hid (X4.out.trans x)
  have HV := Lib.hid (VB.rep hG (by omega) (HR4.out.ext x)).bb
  clear hG x c3
  have HAb := Lib.hid (Above2_calls _ _ _ w5 HV.out)
  go_wp2_with fail
  refine HAb.out.mono ?_
  rintro e w6 ⟨v6, rfl, o6, r6⟩
  obtain ⟨e6, m6, hv6, j1, j2, j3, j4⟩ := r6.open
  subst hv6
  have X6 := Lib.hid (X5.out.trans o6.1); have R6 := Lib.hid r6; have O6 := Lib.hid o6
  clear j1 j2 j3 j4 r6 o6 HAb HV
  obtain ⟨M, hM⟩ : ∃ M, M = aboE (List.replicate m bR) := ⟨_, rfl⟩
  rw [← hM] at HE1 HE2 ⊢
  obtain ⟨aR, haR⟩ : ∃ aR, aR = aboR (List.replicate m bR) := ⟨_, rfl⟩
  rw [← haR] at HE2 R6 O6 HOk ⊢
  clear hM haR
  obtain ⟨W7, hW7⟩ : ∃ W7, W7 = w6.alloc (.cells #[.slice e6 m6 aR.length] 24) := ⟨_, rfl⟩
  have x7 : Ext w6 W7 := by rw [hW7]; exact (Ext.refl w6).alloc _
  have X7 := Lib.hid (X6.out.trans x7); have HW7 := Lib.hid hW7
  by_cases hM0 : M ≠ 0
  · have t1 : (M != 0) = true := by simpa using hM0
    have t2 : (M == 0) = false := by simpa using hM0
    have HE := Lib.hid (HE1.out (by first | trivial | rfl) hM0); have HN := Lib.hid hM0
    have hR := HRes.out _ X7.out
    have r1 : W7.cell? ⟨w.heap.size + 1, 0, none⟩ = some (.slice none 0 0) := by simp [World.cell?, hR]
    have r2 : W7.frozen? ⟨w.heap.size + 1, 0, none⟩ = false := by simp [World.frozen?, hR]
    rw [hW7] at r1 r2
    have R3 := Lib.hid (show (W7.setCell ⟨w.heap.size + 1, 0, none⟩ (.slice none 0 0)).cell? ⟨w.heap.size + 1, 0, none⟩ = some (.slice none 0 0) by simp [World.cell?, blk_one hR _])
    have HF := Lib.hid (HBad.out W7 M X7.out HE.out HN.out)
    clear hM0 hR x7 hW7
    go_wp2
    rw [← HW7.out]
    have r3 := R3.out
    exact bodyPost_ret (v := .tuple #[.agg #[.slice none 0 0], .int .i64 M]) (by simp [results, Try.results14, go_sem, r3]) rfl HF.out
  obtain rfl : M = 0 := by simpa using hM0
  have hb7 : W7.heap[w6.heap.size]? = some (Obj.cells #[.slice e6 m6 aR.length] 24 (0, 0)) := by rw [hW7]; exact blk_at rfl
  have c7 : W7.cell? ⟨w6.heap.size, 0, none⟩ = some (.slice e6 m6 aR.length) := by simp [World.cell?, hb7]
  have C7 := Lib.hid c7
  have HCk := Lib.hid (CCheck_calls _ _ _ W7 (R6.out.ext x7))
  have R7 := Lib.hid (R6.out.ext x7); have O7 := Lib.hid (O6.out.later x7)
  rw [hW7] at c7
  clear hW7 x7 hb7 hM0
  go_wp2_with fail
  rw [← HW7.out]
  refine HCk.out.mono ?_
  rintro e w8 ⟨rfl, x⟩
  have X8 := Lib.hid (X7.out.trans x); have R8 := Lib.hid (R7.out.ext x); have O8 := Lib.hid (O7.out.later x)
  have c8 := x.cell C7.out
  clear c7 x
  obtain ⟨M, hM⟩ : ∃ M, M = (cloads aR).1 := ⟨_, rfl⟩
  rw [← hM] at HE2 ⊢
  clear hM
  have HE := Lib.hid (HE2.out (by first | trivial | rfl) (by first | trivial | rfl))
  by_cases hM0 : M ≠ 0
  · have t1 : (M != 0) = true := by simpa using hM0
    have t2 : (M == 0) = false := by simpa using hM0
    have HN := Lib.hid hM0
    clear hM0
    have hR := HRes.out _ (X8.out)
    have r1 : w8.cell? ⟨w.heap.size + 1, 0, none⟩ = some (.slice none 0 0) := by simp [World.cell?, hR]
    have r2 : w8.frozen? ⟨w.heap.size + 1, 0, none⟩ = false := by simp [World.frozen?, hR]
    have R3 := Lib.hid (show (w8.setCell ⟨w.heap.size + 1, 0, none⟩ (.slice none 0 0)).cell? ⟨w.heap.size + 1, 0, none⟩ = some (.slice none 0 0) by simp [World.cell?, blk_one hR _])
    have HF := Lib.hid (HBad.out w8 M (X8.out) (HE.out) (HN.out))
    clear hR
    go_wp2
    have r3 := R3.out
    exact bodyPost_ret (v := .tuple #[.agg #[.slice none 0 0], .int .i64 M]) (by simp [results, Try.results14, go_sem, r3]) rfl HF.out
  obtain rfl : M = 0 := by simpa using hM0
  have hR := HRes.out _ X8.out
  have r1 : w8.cell? ⟨w.heap.size + 1, 0, none⟩ = some (.slice none 0 0) := by simp [World.cell?, hR]
  have r2 : w8.frozen? ⟨w.heap.size + 1, 0, none⟩ = false := by simp [World.frozen?, hR]
  have R3 := Lib.hid (show (w8.setCell ⟨w.heap.size + 1, 0, none⟩ (.slice e6 m6 aR.length)).cell? ⟨w.heap.size + 1, 0, none⟩ = some (.slice e6 m6 aR.length) by simp [World.cell?, blk_one hR _])
  have hP := O8.out.put (u := .slice e6 m6 aR.length) (a := ⟨w.heap.size + 1, 0, none⟩) R8.out (X02.out.trans X5.out) hR (by decide) (by decide) (Nat.le_succ _)
  have HF := Lib.hid (show RetCO w (prgR L T R n m) (prgE L T R n m) (.returned (.tuple #[.agg #[.slice e6 m6 aR.length], .int .i64 0])) (w8.setCell ⟨w.heap.size + 1, 0, none⟩ (.slice e6 m6 aR.length)) from by
    rw [HOk.out HE.out, HE.out]
    exact ⟨_, rfl, hP⟩)
  clear hR hP hM0
  go_wp2
  have r3 := R3.out
  exact bodyPost_ret (v := .tuple #[.agg #[.slice e6 m6 aR.length], .int .i64 0]) (by simp [results, Try.results14, go_sem, r3]) rfl HF.out
end Go.Proofs.Ytlmkcojimhbmiaa
