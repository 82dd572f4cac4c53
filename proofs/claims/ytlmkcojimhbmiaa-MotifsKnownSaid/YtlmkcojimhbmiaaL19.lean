/- Texts of this claim in one file: libraries and walks. -/
import Derived.Test.YtlmkcojimhbmiaaL5
import Derived.Test.YtlmkcojimhbmiaaL9
import Derived.Test.YtlmkcojimhbmiaaL13
import Derived.Test.YtlmkcojimhbmiaaL14
/- Motifs of plain data are valid; mirror images of motifs; tiles; in plain Lean. -/
namespace Go.Proofs.Ytlmkcojimhbmiaa
set_option linter.unusedVariables false
set_option linter.unusedSimpArgs false
set_option maxRecDepth 8000
open Go Go.RowKit

theorem cl_cerr {C : List (List St)} (h : (cloads C).1 = 0) : cerr C = 0 := by
  by_cases e : cerr C = 0
  · exact e
  · unfold cloads at h; rw [if_pos e] at h; exact absurd h e
theorem cl_rows {C : List (List St)} (h : (cloads C).1 = 0) : C.length ≤ 31 ∧ 1 ≤ C.length ∧ ∀ i, i < C.length → (sw C i).length ≤ 16 ∧ (sw C i).length ≠ 0 ∧ ∀ j, j < (sw C i).length → (si (sw C i) j).chk = 0 := by
  obtain ⟨h1, h2, h3, _⟩ := cerr_zero (cl_cerr h)
  refine ⟨h1, h2, fun i hi => ?_⟩
  have hz := rchk_zero (h3 i hi)
  exact ⟨hz.1, by omega, hz.2.2.1⟩
theorem cl_big {C : List (List St)} (h : (cloads C).1 = 0) : big C = false := big_no (cl_rows h).1 fun i hi => ((cl_rows h).2.2 i hi).1
/-- An edge: none, or a valid chart as high as the tile. -/
def OKb (C T : List (List St)) : Prop := C = [] ∨ ((cloads C).1 = 0 ∧ C.length = T.length)
theorem OKb.big {C T : List (List St)} (h : OKb C T) : big C = false := by
  rcases h with rfl | h
  · rfl
  · exact cl_big h.1
theorem OKb.len {C T : List (List St)} (h : OKb C T) : C.length = 0 ∨ C.length = T.length := by
  rcases h with rfl | h
  · exact .inl rfl
  · exact .inr h.2
theorem OKb.chk {C T : List (List St)} (h : OKb C T) : ∀ i, i < C.length → ∀ j, j < (sw C i).length → (si (sw C i) j).chk = 0 := by
  rcases h with rfl | h
  · intro i hi; simp at hi
  · intro i hi; exact ((cl_rows h.1).2.2 i hi).2.2
theorem MOK.parts {ht ed : Int} {L T R : List (List St)} (h : MOK ht ed L T R) (hh : 0 ≤ ht) : OKb L T ∧ OKb R T ∧ (cloads T).1 = 0 ∧ 1 ≤ T.length ∧ T.length ≤ 5 ∧ T.length % 2 = 1 := by
  obtain ⟨h1, h2, h3, h4⟩ := h
  have : (ht % 3).toNat ≤ 2 := by omega
  refine ⟨?_, ?_, h2, by omega, by omega, by omega⟩
  · by_cases e : ed % 2 = 1
    · rw [if_pos e] at h3; exact .inr h3
    · rw [if_neg e] at h3; exact .inl h3
  · by_cases e : ed / 2 % 2 = 1
    · rw [if_pos e] at h4; exact .inr h4
    · rw [if_neg e] at h4; exact .inl h4
theorem mchk_ok {L T R : List (List St)} (hL : OKb L T) (hR : OKb R T) (hT : (cloads T).1 = 0) : mchk L T R = 0 := by
  have hTT : OKb T T := .inr ⟨hT, rfl⟩
  have hr := cl_rows hT
  have h1 := hL.len
  have h2 := hR.len
  have hs : smallB [L, T, R] = true := smallB_ok fun k hk => by
    have hk' : k < 3 := hk
    rcases (show k = 0 ∨ k = 1 ∨ k = 2 by omega) with rfl | rfl | rfl
    · exact hL.big
    · exact hTT.big
    · exact hR.big
  have hg : goodB [L, T, R] = true := goodB_ok fun k hk => by
    have hk' : k < 3 := hk
    rcases (show k = 0 ∨ k = 1 ∨ k = 2 by omega) with rfl | rfl | rfl
    · exact hL.chk
    · exact hTT.chk
    · exact hR.chk
  unfold mchk
  rw [if_neg (by rw [hs]; simp), if_neg (by omega), if_neg (by rw [hg]; simp; intro e; rw [e] at hr; simp at hr), tile_ok fun i hi => (hr.2.2 i hi).2.1]
  rfl

/-! ### Mirror images -/
theorem big_mir (C : List (List St)) : big (mirC C) = big C := by
  unfold big
  rw [mirC_len]
  unfold mirC
  rw [List.any_map]
  simp only [Function.comp_def, mirR_len]
theorem goodC_mir (C : List (List St)) : goodC (mirC C) = goodC C := by
  unfold goodC mirC
  rw [List.all_map]
  congr 1
  funext r
  simp [mirR, List.all_map, Function.comp_def, mir_chk]
theorem any0_mir (C : List (List St)) : (mirC C).any (fun r => decide (r.length = 0)) = C.any (fun r => decide (r.length = 0)) := by
  unfold mirC
  rw [List.any_map]
  simp only [Function.comp_def, mirR_len]
theorem mchk_mir (L T R : List (List St)) : mchk (mirC R) (mirC T) (mirC L) = mchk L T R := by
  have hs : smallB [mirC R, mirC T, mirC L] = smallB [L, T, R] := by
    unfold smallB
    simp only [List.any_cons, List.any_nil, Bool.or_false, big_mir]
    cases big L <;> cases big T <;> cases big R <;> rfl
  have hg : goodB [mirC R, mirC T, mirC L] = goodB [L, T, R] := by
    unfold goodB
    simp only [List.all_cons, List.all_nil, Bool.and_true, goodC_mir]
    cases goodC L <;> cases goodC T <;> cases goodC R <;> rfl
  unfold mchk
  have h5 : (0 < R.length ∧ R.length ≠ T.length ∨ 0 < L.length ∧ L.length ≠ T.length) ↔ (0 < L.length ∧ L.length ≠ T.length ∨ 0 < R.length ∧ R.length ≠ T.length) := or_comm
  rw [hs, hg, any0_mir, mirC_len, mirC_len, mirC_len]
  simp only [h5]
theorem sw_mir (C : List (List St)) (i : Nat) : sw (mirC C) i = mirR (sw C i) := by
  by_cases h : i < C.length
  · exact mirC_sw h
  · unfold sw mirC
    simp [List.getD, List.getElem?_eq_none (by omega : C.length ≤ i), mirR]
theorem mirR_app (a b : List St) : mirR (a ++ b) = mirR b ++ mirR a := by simp [mirR]
theorem mirR_rep (x : List St) : ∀ n : Nat, mirR (List.replicate n x).flatten = (List.replicate n (mirR x)).flatten
  | 0 => rfl
  | n + 1 => by
    rw [List.replicate_succ, List.flatten_cons, mirR_app, mirR_rep x n, List.replicate_succ', List.flatten_append]
    simp
theorem stkRow_mir (L T R : List (List St)) (n i : Nat) : stkRow (mirC R) (mirC T) (mirC L) n i = mirR (stkRow L T R n i) := by
  unfold stkRow
  rw [mirC_len, mirC_len, sw_mir, sw_mir, sw_mir, mirR_app, mirR_app, mirR_rep, List.append_assoc]
  congr 1
  · split <;> rfl
  · congr 1
    split <;> rfl
theorem stkOne_mir (L T R : List (List St)) (n : Nat) : stkOne (mirC R) (mirC T) (mirC L) n = mirC (stkOne L T R n) := by
  unfold stkOne mirC
  rw [List.map_map, List.length_map]
  exact List.map_congr_left fun i _ => stkRow_mir L T R n i
theorem stkRows_mir (L T R : List (List St)) (n up : Nat) : stkRows (mirC R) (mirC T) (mirC L) n up = mirC (stkRows L T R n up) := by
  unfold stkRows
  rw [stkOne_mir]
  unfold mirC
  rw [List.map_flatten, List.map_replicate]
theorem lrg_mir (C : List (List St)) : lrg (mirC C) = lrg C := by unfold lrg; rw [big_mir]
theorem stkE_mir (L T R : List (List St)) (n up : Int) : stkE (mirC R) (mirC T) (mirC L) n up = stkE L T R n up := by
  unfold stkE
  rw [mchk_mir, stkRows_mir, lrg_mir, mir_err]
theorem stkR_mir (L T R : List (List St)) (n up : Int) : stkR (mirC R) (mirC T) (mirC L) n up = mirC (stkR L T R n up) := by
  unfold stkR
  rw [stkE_mir, stkRows_mir]
  split <;> rfl
theorem prgE_mir (L T R : List (List St)) (n up : Int) : prgE (mirC R) (mirC T) (mirC L) n up = prgE L T R n up := by rw [prgE_eq, prgE_eq, stkE_mir]
theorem prgR_mir (L T R : List (List St)) (n up : Int) : prgR (mirC R) (mirC T) (mirC L) n up = mirC (prgR L T R n up) := by rw [prgR_eq, prgR_eq, stkR_mir]

/-! ### Tiles -/
def zA (A B : List (List St)) : List (List St) := List.zipWith (· ++ ·) A B
def zE (T : List (List St)) : List (List St) := T.map fun _ => []
def zR (T : List (List St)) : Nat → List (List St)
  | 0 => zE T
  | n + 1 => zA T (zR T n)
def eD (C T : List (List St)) : List (List St) := if C.length = 0 then zE T else C
theorem zA_len {A B : List (List St)} (h : A.length = B.length) : (zA A B).length = A.length := by unfold zA; simp [h]
theorem zE_len (T : List (List St)) : (zE T).length = T.length := by simp [zE]
theorem zR_len (T : List (List St)) : ∀ n, (zR T n).length = T.length
  | 0 => zE_len T
  | n + 1 => zA_len (zR_len T n).symm
theorem sw_end {A : List (List St)} {i : Nat} (h : A.length ≤ i) : sw A i = [] := by unfold sw; simp [List.getD, List.getElem?_eq_none h]
theorem sw_zA {A B : List (List St)} (h : A.length = B.length) (i : Nat) : sw (zA A B) i = sw A i ++ sw B i := by
  by_cases hi : i < A.length
  · rw [sw_of_lt (by rw [zA_len h]; exact hi), sw_of_lt hi, sw_of_lt (by omega)]
    unfold zA
    rw [List.getElem_zipWith]
  · rw [sw_end (by rw [zA_len h]; omega), sw_end (by omega), sw_end (by omega)]; rfl
theorem sw_zE (T : List (List St)) (i : Nat) : sw (zE T) i = [] := by
  by_cases hi : i < T.length
  · rw [sw_of_lt (by rw [zE_len]; exact hi)]; simp [zE]
  · exact sw_end (by rw [zE_len]; omega)
theorem sw_zR (T : List (List St)) (i : Nat) : ∀ n, sw (zR T n) i = (List.replicate n (sw T i)).flatten
  | 0 => sw_zE T i
  | n + 1 => by
    show sw (zA T (zR T n)) i = _
    rw [sw_zA (zR_len T n).symm, sw_zR T i n, List.replicate_succ, List.flatten_cons]
theorem eD_len {C T : List (List St)} (h : C.length = 0 ∨ C.length = T.length) : (eD C T).length = T.length := by
  unfold eD
  split
  · exact zE_len T
  · omega
theorem sw_eD (C T : List (List St)) (i : Nat) : sw (eD C T) i = if C.length = 0 then [] else sw C i := by
  unfold eD
  split
  · exact sw_zE T i
  · rfl
theorem stkOne_z {L T R : List (List St)} (hL : L.length = 0 ∨ L.length = T.length) (hR : R.length = 0 ∨ R.length = T.length) (n : Nat) : stkOne L T R n = zA (zA (eD L T) (zR T n)) (eD R T) := by
  have l1 : (eD L T).length = (zR T n).length := by rw [eD_len hL, zR_len]
  have l2 : (zA (eD L T) (zR T n)).length = (eD R T).length := by rw [zA_len l1, eD_len hL, eD_len hR]
  apply sw_ext
  · rw [zA_len l2, zA_len l1, eD_len hL]; simp [stkOne]
  · intro i hi
    have hi' : i < T.length := by simpa [stkOne] using hi
    rw [sw_zA l2, sw_zA l1, sw_eD, sw_eD, sw_zR]
    have : sw (stkOne L T R n) i = stkRow L T R n i := by unfold sw stkOne; simp [List.getD, hi']
    rw [this]; rfl
theorem FT_zip : ∀ (A B : List (List St)) (n m : Nat), A.length = B.length → FT A n → FT B m → FT (zA A B) (n + m)
  | [], _, _, _, _, _, _ => trivial
  | r :: rs, [], _, _, h, _, _ => by simp at h
  | r :: rs, q :: qs, n, m, h, ⟨a1, a2, a3⟩, ⟨b1, b2, b3⟩ => by
    refine ⟨?_, fun s hs => ?_, ?_⟩
    · show ((n + m : Nat) : Int) = rneed (r ++ q)
      rw [rneed_app2]; omega
    · rcases List.mem_append.1 hs with hs | hs
      · exact a2 s hs
      · exact b2 s hs
    · show FT (zA rs qs) (rmake (r ++ q)).toNat
      have h1 := (rmake_bd r).1
      have h2 := (rmake_bd q).1
      rw [rmake_app2, show (rmake r + rmake q).toNat = (rmake r).toNat + (rmake q).toNat by omega]
      exact FT_zip rs qs _ _ (by simpa using h) a3 b3
theorem lr_zip : ∀ (A B : List (List St)) (a b : List Int), A.length = B.length → FT A a.length → Vl a → lr A a = true → lr B b = true → lr (zA A B) (a ++ b) = true
  | [], _, _, _, _, _, _, _, _ => rfl
  | r :: rs, [], _, _, h, _, _, _, _ => by simp at h
  | r :: rs, q :: qs, a, b, h, ⟨a1, a2, a3⟩, hv, ha, hb => by
    show (match lo (r ++ q) (a ++ b) with | none => false | some o => lr (zA rs qs) o) = true
    rw [lo_app r q a b a1]
    rw [lr] at ha hb
    cases ho : lo r a with
    | none => rw [ho] at ha; cases ha
    | some o =>
      cases hp : lo q b with
      | none => rw [hp] at hb; cases hb
      | some p =>
        rw [ho] at ha
        rw [hp] at hb
        obtain ⟨i1, i2⟩ := lo_some r a o a2 a1 hv ho
        exact lr_zip rs qs o p (by simpa using h) (by rw [show o.length = (rmake r).toNat by omega]; exact a3) i1 ha hb
/-- Rows that fit and can be worked from the loops f, all of them 1. -/
def GZ (C : List (List St)) (f : List Int) : Prop := FT C f.length ∧ (∀ x ∈ f, x = 1) ∧ lr C f = true
theorem one_vl {f : List Int} (h : ∀ x ∈ f, x = 1) : Vl f := fun x hx => by rw [h x hx]; omega
theorem GZ.zip {A B : List (List St)} {a b : List Int} (h : A.length = B.length) (ha : GZ A a) (hb : GZ B b) : GZ (zA A B) (a ++ b) := by
  refine ⟨?_, fun x hx => ?_, lr_zip A B a b h ha.1 (one_vl ha.2.1) ha.2.2 hb.2.2⟩
  · rw [List.length_append]; exact FT_zip A B _ _ h ha.1 hb.1
  · rcases List.mem_append.1 hx with hx | hx
    · exact ha.2.1 x hx
    · exact hb.2.1 x hx
theorem GZ.empty : ∀ T : List (List St), GZ (zE T) []
  | [] => ⟨trivial, fun x hx => (by cases hx), rfl⟩
  | r :: rs => by
    obtain ⟨h1, h2, h3⟩ := GZ.empty rs
    exact ⟨⟨rfl, fun s hs => (by cases hs), h1⟩, h2, h3⟩
theorem GZ.of {C : List (List St)} (h : (cloads C).1 = 0) : GZ C (first C) := by
  have hc := cl_cerr h
  have hl : (first C).length = (rneed (sw C 0)).toNat := by unfold first; simp
  have hn := (rneed_bd (sw C 0)).1
  refine ⟨by rw [hl]; exact FT_of hc C.length 0 _ (by omega) (fun _ => by omega), fun x hx => ?_, ?_⟩
  · unfold first at hx; exact List.eq_of_mem_replicate hx
  · rw [cloads_lr hc] at h
    cases e : lr C (first C)
    · rw [e] at h; exact absurd h (by decide)
    · rfl
theorem GZ.edge {C T : List (List St)} (h : OKb C T) : ∃ f, GZ (eD C T) f := by
  rcases h with rfl | h
  · exact ⟨[], GZ.empty T⟩
  · have h1 := (cl_rows h.1).2.1
    refine ⟨first C, ?_⟩
    unfold eD
    rw [if_neg (by omega)]
    exact GZ.of h.1
theorem GZ.rep {T : List (List St)} (h : (cloads T).1 = 0) : ∀ n, ∃ f, GZ (zR T n) f
  | 0 => ⟨[], GZ.empty T⟩
  | n + 1 => by
    obtain ⟨f, hf⟩ := GZ.rep h n
    exact ⟨_, GZ.zip (zR_len T n).symm (GZ.of h) hf⟩
theorem FT_fit : ∀ (C : List (List St)) (n i : Nat), FT C n → i + 1 < C.length → rneed (sw C (i + 1)) = rmake (sw C i)
  | [], _, _, _, h => by simp at h
  | [_], _, _, _, h => by simp at h
  | r :: q :: rs, n, 0, ⟨_, _, h2, _⟩, _ => by
    show rneed q = rmake r
    have := (rmake_bd r).1
    omega
  | r :: q :: rs, n, i + 1, ⟨_, _, h3⟩, h => by
    have := FT_fit (q :: rs) _ i h3 (by simpa using h)
    exact this
theorem FT_head {C : List (List St)} {n : Nat} (h : FT C n) (h1 : 1 ≤ C.length) : (n : Int) = rneed (sw C 0) := by
  cases C with
  | nil => simp at h1
  | cons r rs => exact h.1
theorem rchk_vals (l : List St) : rchk l = 0 ∨ rchk l = 1 ∨ rchk l = 3 ∨ rchk l = 5 := by
  unfold rchk
  (repeat' split) <;> simp
theorem ferr_vals : ∀ C : List (List St), ferr C = 0 ∨ ferr C = 1 ∨ ferr C = 3 ∨ ferr C = 5
  | [] => .inl rfl
  | r :: rs => by
    unfold ferr
    split
    · exact rchk_vals r
    · exact ferr_vals rs
theorem GZ.err {C : List (List St)} {f : List Int} (h : GZ C f) (h1 : C.length ≤ 31) (h2 : C.length % 2 = 1) : (cloads C).1 = 0 ∨ (cloads C).1 = 1 ∨ (cloads C).1 = 3 ∨ (cloads C).1 = 5 := by
  have hfit : fitB C = true := by
    unfold fitB
    rw [List.all_eq_true]
    intro i hi
    have := List.mem_range.1 hi
    exact decide_eq_true (FT_fit C _ i h.1 (by omega))
  have hce : cerr C = ferr C := by
    unfold cerr
    rw [if_neg (by omega), if_neg (by omega), hfit]
    by_cases e : ferr C ≠ 0
    · rw [if_pos e]
    · rw [if_neg e]; simp at e; rw [e]; rfl
  by_cases e : cerr C = 0
  · left
    have hf : f = first C := by
      have hh := FT_head h.1 (by omega)
      unfold first
      rw [List.eq_replicate_iff]
      exact ⟨by omega, h.2.1⟩
    rw [cloads_lr e, ← hf, h.2.2]
    rfl
  · have : (cloads C).1 = cerr C := by unfold cloads; rw [if_pos e]
    rw [this, hce]
    exact ferr_vals C
theorem stk1 (L T R : List (List St)) (n : Nat) : stkRows L T R n 1 = stkOne L T R n := by unfold stkRows; simp
/-- The errors of a tile. -/
theorem tile_errs {L T R : List (List St)} (hL : OKb L T) (hR : OKb R T) (hT : (cloads T).1 = 0) (h2 : T.length % 2 = 1) (n : Int) : stkE L T R n 1 = 0 ∨ stkE L T R n 1 = 1 ∨ stkE L T R n 1 = 3 ∨ stkE L T R n 1 = 5 := by
  unfold stkE
  rw [mchk_ok hL hR hT, if_neg (by decide)]
  by_cases h1 : n < 1 ∨ (1 : Int) < 1
  · rw [if_pos h1]; simp
  rw [if_neg h1]
  by_cases h3 : lrg (stkRows L T R n.toNat (1 : Int).toNat) = 1
  · rw [if_pos h3]; simp
  rw [if_neg h3, show (1 : Int).toNat = 1 from rfl, stk1]
  obtain ⟨a, ha⟩ := GZ.edge hL
  obtain ⟨b, hb⟩ := GZ.rep hT n.toNat
  obtain ⟨c, hc⟩ := GZ.edge hR
  have l1 : (eD L T).length = (zR T n.toNat).length := by rw [eD_len hL.len, zR_len]
  have hz := GZ.zip (by rw [zA_len l1, eD_len hL.len, eD_len hR.len]) (GZ.zip l1 ha hb) hc
  rw [← stkOne_z hL.len hR.len] at hz
  have hlen : (stkOne L T R n.toNat).length = T.length := by simp [stkOne]
  exact hz.err (by rw [hlen]; exact (cl_rows hT).1) (by rw [hlen]; exact h2)
theorem rneed_rep (x : List St) : ∀ n : Nat, rneed (List.replicate n x).flatten = n * rneed x
  | 0 => by simp [rneed]
  | n + 1 => by
    rw [List.replicate_succ, List.flatten_cons, rneed_app2, rneed_rep x n, Int.natCast_succ, Int.add_mul]
    omega
theorem rmake_rep (x : List St) : ∀ n : Nat, rmake (List.replicate n x).flatten = n * rmake x
  | 0 => by simp [rmake]
  | n + 1 => by
    rw [List.replicate_succ, List.flatten_cons, rmake_app2, rmake_rep x n, Int.natCast_succ, Int.add_mul]
    omega
theorem stk_at {L T R : List (List St)} {n i : Nat} (h : i < T.length) : sw (stkOne L T R n) i = stkRow L T R n i := by unfold sw stkOne; simp [List.getD, h]
theorem stkRow_need (L T R : List (List St)) (n i : Nat) : rneed (stkRow L T R n i) = (if L.length = 0 then 0 else rneed (sw L i)) + n * rneed (sw T i) + (if R.length = 0 then 0 else rneed (sw R i)) := by
  unfold stkRow
  rw [rneed_app2, rneed_app2, rneed_rep]
  congr 1
  · congr 1; split <;> rfl
  · split <;> rfl
theorem stkRow_make (L T R : List (List St)) (n i : Nat) : rmake (stkRow L T R n i) = (if L.length = 0 then 0 else rmake (sw L i)) + n * rmake (sw T i) + (if R.length = 0 then 0 else rmake (sw R i)) := by
  unfold stkRow
  rw [rmake_app2, rmake_app2, rmake_rep]
  congr 1
  · congr 1; split <;> rfl
  · split <;> rfl
theorem wds_nil {C : List (List St)} (h : C.length = 0) : wds C = [] := by
  rw [List.eq_nil_of_length_eq_zero h]; rfl
theorem wds_len' (C : List (List St)) : (wds C).length = if C.length = 0 then 0 else C.length + 1 := by
  split
  · rw [wds_nil (by assumption)]; rfl
  · exact wds_len (by omega)
/-- What a row of tiles needs and makes. -/
theorem wds_stk {L T R : List (List St)} {n i : Nat} (hL : L.length = 0 ∨ L.length = T.length) (hR : R.length = 0 ∨ R.length = T.length) (hT : 1 ≤ T.length) (hi : i < T.length + 1) :
    gi (wds (stkOne L T R n)) i = (if L.length = 0 then 0 else gi (wds L) i) + n * gi (wds T) i + (if R.length = 0 then 0 else gi (wds R) i) := by
  have hlen : (stkOne L T R n).length = T.length := by simp [stkOne]
  have hw0 : ∀ C : List (List St), 0 < C.length → gi (wds C) 0 = rneed (sw C 0) := fun C h => wds_zero h
  have hw1 : ∀ (C : List (List St)) (k : Nat), k < C.length → gi (wds C) (k + 1) = rmake (sw C k) := fun C k h => wds_succ h
  cases i with
  | zero =>
    rw [hw0 _ (by omega), hw0 T (by omega), stk_at (by omega), stkRow_need]
    by_cases e1 : L.length = 0
    · by_cases e2 : R.length = 0
      · simp only [if_pos e1, if_pos e2]
      · simp only [if_pos e1, if_neg e2]
        rw [hw0 R (by omega)]
    · by_cases e2 : R.length = 0
      · simp only [if_neg e1, if_pos e2]
        rw [hw0 L (by omega)]
      · simp only [if_neg e1, if_neg e2]
        rw [hw0 L (by omega), hw0 R (by omega)]
  | succ i =>
    rw [hw1 _ i (by omega), hw1 T i (by omega), stk_at (by omega), stkRow_make]
    by_cases e1 : L.length = 0
    · by_cases e2 : R.length = 0
      · simp only [if_pos e1, if_pos e2]
      · simp only [if_pos e1, if_neg e2]
        rw [hw1 R i (by omega)]
    · by_cases e2 : R.length = 0
      · simp only [if_neg e1, if_pos e2]
        rw [hw1 L i (by omega)]
      · simp only [if_neg e1, if_neg e2]
        rw [hw1 L i (by omega), hw1 R i (by omega)]
theorem fndF_spec (e t wd : Int) : ∀ (k n : Nat), 0 < n → fndF e t wd k n ≠ 0 → e + (fndF e t wd k n : Int) * t = wd ∧ n ≤ fndF e t wd k n ∧ fndF e t wd k n < n + k
  | 0, n, _, h => absurd rfl h
  | k + 1, n, hn, h => by
    by_cases e1 : e + (n : Int) * t = wd
    · have : fndF e t wd (k + 1) n = n := by show (if _ then _ else _) = _; rw [if_pos e1]
      rw [this]; exact ⟨e1, Nat.le_refl _, by omega⟩
    · have h2 : fndF e t wd (k + 1) n = fndF e t wd k (n + 1) := by show (if _ then _ else _) = _; rw [if_neg e1]
      rw [h2] at h ⊢
      obtain ⟨h3, h4, h5⟩ := fndF_spec e t wd k (n + 1) (by omega) h
      exact ⟨h3, by omega, by omega⟩
end Go.Proofs.Ytlmkcojimhbmiaa
