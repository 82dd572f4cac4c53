/- Texts of this claim in one file: libraries and walks. -/
import Derived.Lib.IndexLaws
import Derived.RegionTactic
import Derived.Deep.RegionHeld3
import Derived.Test.YthllbcjglcplhaaDoorL3
import Derived.Test.YthllbcjglcplhaaDoorL4
import Derived.Test.YthllbcjglcplhaaDoorL5
import Derived.Test.YthllbcjglcplhaaDoorL8
import Derived.Test.YthllbcjglcplhaaDoorL9
import Derived.Test.YthllbcjglcplhaaDoorL10
import Derived.Test.YthllbcjglcplhaaDoorL11
/- Texts of laces in plain Lean: what Parse finds, and that Text undoes it. -/
namespace Go.Proofs.YthllbcjglcplhaaDoor
set_option linter.unusedVariables false
set_option linter.unusedSimpArgs false
set_option maxRecDepth 8000

def bi (l : List UInt8) : List Int := l.map fun b => (b.toNat : Int)
theorem bts_bi (s : ByteArray) : bts s = bi s.data.toList := rfl
theorem bi_len (l : List UInt8) : (bi l).length = l.length := by unfold bi; simp
theorem bi_app (a b : List UInt8) : bi (a ++ b) = bi a ++ bi b := by unfold bi; simp
/-- The lines of a text, if its last one is ended. -/
def pA : List UInt8 → List UInt8 → Option (List (List UInt8))
  | [], l => if l = [] then some [] else none
  | c :: t, l => if c = 10 then (pA t []).map (l :: ·) else pA t (l ++ [c])
theorem pA_nl : ∀ (u t l : List UInt8), (10 : UInt8) ∉ u → pA (u ++ 10 :: t) l = (pA t []).map ((l ++ u) :: ·)
  | [], t, l, _ => by simp [pA]
  | c :: u, t, l, h => by
    simp only [List.mem_cons, not_or] at h
    rw [List.cons_append, pA, if_neg (fun e => h.1 e.symm), pA_nl u t _ h.2, List.append_assoc]
    rfl
theorem pA_no : ∀ (u l : List UInt8), (10 : UInt8) ∉ u → pA u l = if l ++ u = [] then some [] else none
  | [], l, _ => by simp [pA]
  | c :: u, l, h => by
    simp only [List.mem_cons, not_or] at h
    rw [pA, if_neg (fun e => h.1 e.symm), pA_no u _ h.2, List.append_assoc]
    rfl
theorem pA_last {c : UInt8} (hc : c ≠ 10) : ∀ (xs l : List UInt8), pA (xs ++ [c]) l = none
  | [], l => by simp [pA, hc]
  | x :: xs, l => by
    rw [List.cons_append, pA, pA_last hc xs, pA_last hc xs]; simp
def flat (ls : List (List UInt8)) : List UInt8 := (ls.map (· ++ [10])).flatten
theorem flat_cons (l : List UInt8) (ls : List (List UInt8)) : flat (l :: ls) = l ++ 10 :: flat ls := by unfold flat; simp
theorem pA_flat : ∀ ls : List (List UInt8), (∀ l ∈ ls, (10 : UInt8) ∉ l) → pA (flat ls) [] = some ls
  | [], _ => rfl
  | l :: ls, h => by
    rw [flat_cons, pA_nl _ _ _ (h l (by simp)), pA_flat ls (fun x hx => h x (by simp [hx]))]; rfl
theorem pA_back : ∀ (xs l : List UInt8) (ls : List (List UInt8)), pA xs l = some ls → l ++ xs = flat ls
  | [], l, ls, h => by
    rw [pA] at h
    split at h
    · rename_i e; rw [e]; cases h; rfl
    · cases h
  | c :: t, l, ls, h => by
    rw [pA] at h
    split at h
    · rename_i e
      obtain ⟨ls', h1, rfl⟩ := Option.map_eq_some_iff.1 h
      have := pA_back t [] ls' h1
      rw [flat_cons, ← this, e]; rfl
    · have := pA_back t _ ls h
      rw [← this, List.append_assoc]; rfl
def hsl (l : List UInt8) : List Ho := (rdL 0 (bi l)).getD []
def okL (W : Nat) (l : List UInt8) : Bool := (rdL 0 (bi l)).isSome && decide (l.length = W)
theorem okL_iff {W : Nat} {l : List UInt8} : okL W l = true ↔ rdL 0 (bi l) = some (hsl l) ∧ l.length = W := by
  unfold okL hsl
  cases h : rdL 0 (bi l) <;> simp
theorem okL_sgn {W : Nat} {l : List UInt8} (h : okL W l = true) : sgn W (hsl l) = bi l ∧ rowE W (hsl l) 0 = true := by
  obtain ⟨h1, h2⟩ := okL_iff.1 h
  obtain ⟨h3, h4⟩ := rdL_back0 h1
  rw [bi_len, h2] at h3 h4
  exact ⟨h4, h3⟩
def pRw (ls : List (List UInt8)) : List (List Ho) := (ls.map hsl).reverse
theorem pRw_len (ls : List (List UInt8)) : (pRw ls).length = ls.length := by unfold pRw; simp
/-- What Parse finds. -/
def pR (xs : List UInt8) : Option (Nat × List (List Ho)) :=
  match pA xs [] with
  | none => none
  | some ls => if ls.all (okL (ls.headD []).length) = true ∧ lchk ((ls.headD []).length : Int) (pRw ls) = 0 then some ((ls.headD []).length, pRw ls) else none
theorem pR_none {xs : List UInt8} (h : pA xs [] = none) : pR xs = none := by unfold pR; rw [h]
theorem pR_nil : pR [] = none := by
  unfold pR pA
  simp [pRw, lchk]
theorem pR_some {xs : List UInt8} {ls : List (List UInt8)} {W : Nat} (h : pA xs [] = some ls) (hW : (ls.headD []).length = W) (ha : ls.all (okL W) = true) : pR xs = if lchk (W : Int) (pRw ls) = 0 then some (W, pRw ls) else none := by
  unfold pR
  rw [h]
  simp only [hW, ha, true_and]
theorem pR_bad {xs rest u t : List UInt8} {d : List (List UInt8)} {W : Nat} (hp : pA xs [] = (pA rest []).map (d ++ ·)) (hr : pA rest [] = (pA t []).map (u :: ·)) (hW : ∀ ls, pA xs [] = some ls → (ls.headD []).length = W) (hb : okL W u = false) : pR xs = none := by
  rcases h : pA xs [] with _ | ls
  · exact pR_none h
  · unfold pR
    rw [h]
    have h1 := hW ls h
    rw [hp, hr] at h
    obtain ⟨a, h2, h3⟩ := Option.map_eq_some_iff.1 h
    obtain ⟨b, h4, h5⟩ := Option.map_eq_some_iff.1 h2
    simp only [h1]
    rw [if_neg]
    rintro ⟨h6, _⟩
    rw [← h3, ← h5, List.all_eq_true] at h6
    have := h6 u (by simp)
    rw [hb] at this; cases this
theorem rT_pre (W : Nat) (R : List (List Ho)) (r : List Ho) : ∀ k, k ≤ R.length → rT W (R ++ [r]) k = rT W R k
  | 0, _ => rfl
  | k + 1, h => by
    rw [rT, rT, rT_pre W R r k (by omega)]
    have : ow (R ++ [r]) k = ow R k := by unfold ow; simp [List.getD, List.getElem?_append_left (show k < R.length by omega)]
    rw [this]
theorem rT_flat (W : Nat) : ∀ ls : List (List UInt8), ls.all (okL W) = true → rT W (pRw ls) ls.length = bi (flat ls)
  | [], _ => rfl
  | l :: ls, h => by
    rw [List.all_cons, Bool.and_eq_true] at h
    have e : pRw (l :: ls) = pRw ls ++ [hsl l] := by unfold pRw; simp
    rw [e, List.length_cons, rT, rT_pre _ _ _ _ (by rw [pRw_len]; exact Nat.le_refl _), rT_flat W ls h.2, flat_cons, bi_app]
    have : ow (pRw ls ++ [hsl l]) ls.length = hsl l := by unfold ow; simp [List.getD, pRw]
    rw [this, (okL_sgn h.1).1]
    unfold bi; simp
/-- Text undoes Parse. -/
theorem pR_text {xs : List UInt8} {W : Nat} {rows : List (List Ho)} (h : pR xs = some (W, rows)) : lchk (W : Int) rows = 0 ∧ ltx W rows = bi xs := by
  unfold pR at h
  rcases hp : pA xs [] with _ | ls
  · rw [hp] at h; cases h
  · rw [hp] at h
    simp only at h
    split at h
    · rename_i e
      obtain ⟨e1, e2⟩ := e
      simp only [Option.some.injEq, Prod.mk.injEq] at h
      obtain ⟨rfl, rfl⟩ := h
      refine ⟨e2, ?_⟩
      unfold ltx
      rw [if_pos e2, Int.toNat_natCast, pRw_len, rT_flat _ _ e1, ← pA_back _ _ _ hp]
      rfl
    · cases h
def ub (xs : List Int) : List UInt8 := xs.map fun x => UInt8.ofNat x.toNat
theorem ub_bi (l : List UInt8) : ub (bi l) = l := by
  unfold ub bi
  rw [List.map_map]
  conv => rhs; rw [← List.map_id l]
  exact List.map_congr_left fun x _ => by simp
theorem bi_ub {xs : List Int} (h : Byt xs) : bi (ub xs) = xs := by
  unfold ub bi
  rw [List.map_map]
  conv => rhs; rw [← List.map_id xs]
  refine List.map_congr_left fun x hx => ?_
  have := h x hx
  simp only [Function.comp_apply, id]
  rw [UInt8.toNat_ofNat_of_lt' (by show x.toNat < 256; omega)]
  omega
theorem bstr_ub (xs : List Int) : (bstr xs).data.toList = ub xs := bstr_data xs
/-- Parse undoes Text. -/
theorem text_pR {W : Nat} {rows : List (List Ho)} (h : lchk (W : Int) rows = 0) : pR (bstr (ltx W rows)).data.toList = some (W, rows) := by
  obtain ⟨z1, z2, z3, z4, z5⟩ := lchk_zero h
  obtain ⟨ls, hls⟩ : ∃ ls, ls = rows.reverse.map (fun r => ub (sgn W r)) := ⟨_, rfl⟩
  have hr : ∀ r ∈ rows, rowE W r 0 = true := fun r hr => by
    obtain ⟨i, hi, rfl⟩ := List.mem_iff_getElem.1 hr
    rw [← ow_of_lt hi]; exact z5 i hi
  have hh : ∀ r ∈ rows, hsl (ub (sgn W r)) = r ∧ okL W (ub (sgn W r)) = true := fun r hx => by
    have h1 : rdL 0 (bi (ub (sgn W r))) = some r := by rw [bi_ub (byt_sgn W r), rdL_sgn (hr r hx)]
    have h2 : (ub (sgn W r)).length = W := by unfold ub; rw [List.length_map, sgn_len]
    constructor
    · unfold hsl; rw [h1]; rfl
    · unfold okL; rw [h1]; simp [h2]
  have h1 : pRw ls = rows := by
    unfold pRw
    rw [hls, List.map_map, List.reverse_eq_iff]
    conv => rhs; rw [← List.map_id rows.reverse]
    exact List.map_congr_left fun r hx => (hh r (List.mem_reverse.1 hx)).1
  have h2 : ls.all (okL W) = true := by
    rw [List.all_eq_true, hls]
    intro l hl
    obtain ⟨r, hx, rfl⟩ := List.mem_map.1 hl
    exact (hh r (List.mem_reverse.1 hx)).2
  have hlen : ls.length = rows.length := by rw [hls]; simp
  have h3 : (ls.headD []).length = W := by
    cases hc : ls with
    | nil => rw [hc] at hlen; simp at hlen; omega
    | cons a t =>
      rw [hc, List.all_cons, Bool.and_eq_true] at h2
      exact (okL_iff.1 h2.1).2
  have h4 : (bstr (ltx W rows)).data.toList = flat ls := by
    rw [bstr_ub]
    unfold ltx
    have := rT_flat W ls h2
    rw [h1, hlen] at this
    rw [if_pos h, Int.toNat_natCast, this, ub_bi]
  have h5 : pA (bstr (ltx W rows)).data.toList [] = some ls := by
    rw [h4]
    refine pA_flat ls fun l hl h10 => ?_
    rw [hls] at hl
    obtain ⟨r, hx, rfl⟩ := List.mem_map.1 hl
    have : (10 : Int) ∈ bi (ub (sgn W r)) := by unfold bi; exact List.mem_map.2 ⟨10, h10, rfl⟩
    rw [bi_ub (byt_sgn W r)] at this
    rcases sg_sgn_mem _ this with e | e | e <;> omega
  rw [pR_some h5 h3 h2, h1, if_pos h]
end Go.Proofs.YthllbcjglcplhaaDoor
/- slices.Reverse and slices.Clip of rows of holes. -/
namespace Go.Proofs.YthllbcjglcplhaaDoor
set_option linter.unusedVariables false
set_option linter.unusedSimpArgs false
set_option maxRecDepth 8000
open Go Go.RowKit

/-- Nothing but block q may have changed. -/
def But (q : Nat) (w w' : World) : Prop := w'.os = w.os ∧ w'.tape = w.tape ∧ w'.output = w.output ∧ w.heap.size ≤ w'.heap.size ∧ ∀ b, b < w.heap.size → b ≠ q → w'.heap[b]? = w.heap[b]?
theorem But.refl (q : Nat) (w : World) : But q w w := ⟨rfl, rfl, rfl, Nat.le_refl _, fun _ _ _ => rfl⟩
theorem But.drew {q : Nat} {w w' : World} (h : But q w w') : But q w w'.drew := h
theorem But.set {q o : Nat} {w w' : World} (h : But q w w') (v : Value) : But q w (w'.setCell ⟨q, o, none⟩ v) := by
  obtain ⟨h1, h2, h3, h4, h5⟩ := h
  refine ⟨h1, h2, h3, by simpa [World.setCell] using h4, fun b hb hq => ?_⟩
  rw [Deep.blk_setCell_other _ _ _ _ hq]; exact h5 b hb hq
theorem But.ext {q : Nat} {w0 w w' : World} (h : But q w w') (x : Ext w0 w) (hq : w0.heap.size ≤ q) : Ext w0 w' :=
  ⟨h.1.trans x.os, h.2.1.trans x.tape, h.2.2.1.trans x.output, Nat.le_trans x.size h.2.2.2.1, fun b hb => (h.2.2.2.2 b (Nat.lt_of_lt_of_le hb x.size) (by omega)).trans (Below.block x b hb)⟩

/-- The first n turned round, as far as k steps have come. -/
def rvf (f : Nat → Value) (n k j : Nat) : Value := if j < k ∨ (n ≤ j + k ∧ j < n) then f (n - 1 - j) else f j
theorem rvf_zero (f : Nat → Value) (n : Nat) : rvf f n 0 = f := by
  funext j; unfold rvf; rw [if_neg (by omega)]
theorem rvf_step {f : Nat → Value} {n k : Nat} (h : k + k + 1 < n) : (fun i => if i = n - 1 - k then rvf f n k k else (fun i => if i = k then rvf f n k (n - 1 - k) else rvf f n k i) i) = rvf f n (k + 1) := by
  funext j
  unfold rvf
  by_cases e1 : j = n - 1 - k
  · subst e1
    rw [if_pos rfl, if_neg (by omega), if_pos (by omega)]
    congr 1; omega
  · rw [if_neg e1]
    by_cases e2 : j = k
    · subst e2
      simp only [if_true]
      rw [if_neg (by omega), if_pos (by omega)]
    · simp only [if_neg e2]
      by_cases c : j < k ∨ (n ≤ j + k ∧ j < n)
      · rw [if_pos c, if_pos (by omega)]
      · rw [if_neg c, if_neg (by omega)]
theorem rvf_end {f : Nat → Value} {n k : Nat} (h : n ≤ k + k + 1) (hk : k + k ≤ n) {j : Nat} (hj : j < n) : rvf f n k j = f (n - 1 - j) := by
  unfold rvf
  by_cases c : j < k ∨ (n ≤ j + k ∧ j < n)
  · rw [if_pos c]
  · rw [if_neg c]; congr 1; omega

set_option maxHeartbeats 2000000 in
theorem Reverse_calls (q n c : Nat) (f : Nat → Value) (w : World) (hr : w.rowIs q 37 c f) (hn : n ≤ c) (hc : n ≤ 1000000) (hf : ∀ j, j < n → ∃ a m d, f j = .slice a m d) :
    Calls Tryd.prog 53 #[.slice (some ⟨q, 0, none⟩) n c] w fun e w' => e = .returned (.tuple #[]) ∧ But q w w' ∧ ∃ f', w'.rowIs q 37 c f' ∧ ∀ j, j < n → f' j = f (n - 1 - j) := by
  have HR := Lib.hid hr
  have HF := Lib.hid hf
  clear hr hf
  have hn1 : IntKind.i64.wrap ((n : Int) - 1) = (n : Int) - 1 := IntWalk.i64_in _ ⟨by omega, by omega⟩
  go_enter Tryd.func53, Tryd.ntmps53
  go_wp2
  go_loopw [2, 3] (fun i j wr => ∃ k : Nat, k + k ≤ n ∧ i = .int .i64 k ∧ j = .int .i64 ((n : Int) - 1 - k) ∧ Hid (wr.rowIs q 37 c (rvf f n k) ∧ But q w wr)) (fun i _ _ => n - (intOf i).toNat)
  case atStart => exact ⟨0, by omega, rfl, by simp, Lib.hid ⟨by rw [rvf_zero]; exact HR.out, But.refl _ _⟩⟩
  case round =>
    obtain ⟨k, hk, rfl, rfl, H⟩ := hrel
    by_cases hlt : k + k + 1 < n
    · obtain ⟨l, hl⟩ : ∃ l : Nat, (n : Int) - 1 - k = l := ⟨n - 1 - k, by omega⟩
      rw [hl]
      have hlk : l = n - 1 - k := by omega
      have t1 : (k : Int) < (l : Int) := by omega
      have t2 : (k : Int) < (n : Int) := by omega
      have t3 : (l : Int) < (n : Int) := by omega
      have hck := H.out.1.cell (i := k) (by omega)
      have hcl := H.out.1.cell (i := l) (by omega)
      have hfz := H.out.1.frozen k
      have hfl := H.out.1.frozen l
      obtain ⟨a1, m1, d1, hv1⟩ := HF.out k (by omega)
      obtain ⟨a2, m2, d2, hv2⟩ := HF.out (n - 1 - k) (by omega)
      have e1 : rvf f n k k = .slice a1 m1 d1 := by unfold rvf; rw [if_neg (by omega)]; exact hv1
      have e2 : rvf f n k l = .slice a2 m2 d2 := by unfold rvf; rw [if_neg (by omega), hlk]; exact hv2
      rw [e1] at hck
      rw [e2] at hcl
      have hstep := rvf_step (f := f) hlt
      rw [← hlk, e1, e2] at hstep
      have HSp := Lib.hid hstep
      have hne : k ≠ l := by omega
      have w1 : IntKind.i64.wrap ((l : Int) - 1) = (l : Int) - 1 := IntWalk.i64_in _ ⟨by omega, by omega⟩
      have Hl := Lib.hid hl
      clear hstep hv1 hv2 e1 e2 hl hlk
      go_wp2
      go_region
      all_goals
        go_wp2
        go_roundw
        case rel =>
          refine ⟨k + 1, by omega, by go_num, by rw [← Hl.out]; congr 1; omega, Lib.hid ⟨?_, ((H.out.2.set _).set _).drew⟩⟩
          have := (H.out.1.set k (.slice a2 m2 d2)).set l (.slice a1 m1 d1)
          rw [HSp.out] at this
          exact this
        case measure => simp [intOf]; omega
    · have t1 : ¬ (k : Int) < (n : Int) - 1 - k := by omega
      have HE := Lib.hid (show ∀ j, j < n → rvf f n k j = f (n - 1 - j) from fun j hj => rvf_end (by omega) hk hj)
      go_wp2
      go_end0
      exact ⟨rfl, H.out.2, _, H.out.1, HE.out⟩
theorem Reverse_nil (w : World) : Calls Tryd.prog 53 #[.slice none 0 0] w fun e w' => e = .returned (.tuple #[]) ∧ w = w' := by
  go_enter Tryd.func53, Tryd.ntmps53
  go_wp2
  go_loopw [2, 3] (fun i j wr => i = .int .i64 0 ∧ j = .int .i64 (-1) ∧ Hid (w = wr)) (fun i _ _ => 0)
  case atStart => exact ⟨rfl, rfl, Lib.hid rfl⟩
  case round =>
    obtain ⟨rfl, rfl, H⟩ := hrel
    go_wp2
    go_end0
    exact ⟨rfl, H.out⟩
theorem Clip_calls (a : Option Addr) (n c : Nat) (w : World) (h : n ≤ c) (ha : ∀ x, a = some x → x.spot = none) (hz : a = none → c = 0) : Calls Tryd.prog 54 #[.slice a n c] w fun e w' => e = .returned (.slice a n n) ∧ w = w' := by
  have h1 : (n : Int) ≤ (c : Int) := by omega
  go_enter Tryd.func54, Tryd.ntmps54
  go_wp2
  go_ret
  exact ⟨rfl, rfl⟩
end Go.Proofs.YthllbcjglcplhaaDoor
/- Rows of holes that are appended; turned round. -/
namespace Go.Proofs.YthllbcjglcplhaaDoor
set_option linter.unusedVariables false
set_option linter.unusedSimpArgs false
set_option maxRecDepth 8000
open Go Go.RowKit

theorem HU.grown {w w' : World} {B n : Nat} {e : TypeId} {u : Value} {l : List Ho} {v : Value} {xs : List Value} {z : Nat} (h : HU w u l) (ho : w.ownsRow B e z v n xs) (hg : w.grownBy w' v.ownBlock) (ht : 39 ≠ e) : HU w' u l := by
  rcases h with h | ⟨q, c, d, h1, h2, h3, h4⟩
  · exact .inl h
  · exact .inr ⟨q, c, d, h1, h2, h3, h4.grown ho hg ht⟩
/-- The rows that were appended so far. -/
def HCU (w wr : World) (v : Value) (rows : List (List Ho)) : Prop :=
  Ext w wr ∧ ∃ vs : List Value, wr.ownsRow w.heap.size 37 1 v rows.length vs ∧ ∀ i, i < rows.length → ∃ u, vs[i]? = some u ∧ HU wr u (ow rows i)
theorem HCU.nil {w wr : World} (x : Ext w wr) : HCU w wr (.slice Option.none 0 0) [] := ⟨x, [], World.ownsRow_nil _ _ _ _, fun i hi => by simp at hi⟩
theorem HCU.later {w wr w' : World} {v : Value} {rows : List (List Ho)} (h : HCU w wr v rows) (x : Ext wr w') : HCU w w' v rows := by
  obtain ⟨h1, vs, h2, h3⟩ := h
  exact ⟨h1.trans x, vs, own_ext h2 x, fun i hi => by obtain ⟨u, a, b⟩ := h3 i hi; exact ⟨u, a, b.ext x⟩⟩
theorem HCU.setOther {w wr : World} {v u' : Value} {rows : List (List Ho)} (h : HCU w wr v rows) {a : Addr} {cs : Array Value} {t : TypeId} {q : Nat × Nat} (hb : wr.heap[a.block]? = some (.cells cs t q)) (ht1 : 39 ≠ t) (ht2 : t ≠ 37) (hw : w.heap.size ≤ a.block) : HCU w (wr.setCell a u') v rows := by
  obtain ⟨h1, vs, h2, h3⟩ := h
  exact ⟨h1.setCell hw _, vs, own_setOther h2 (own_ne h2 hb ht2), fun i hi => by obtain ⟨u, a', b⟩ := h3 i hi; exact ⟨u, a', b.setOther hb ht1⟩⟩
theorem HCU.form {w wr : World} {v : Value} {rows : List (List Ho)} (h : HCU w wr v rows) : ∃ a n c, v = .slice a n c ∧ n = rows.length := by
  obtain ⟨_, vs, ⟨_, ⟨hv, hn⟩ | ⟨g, cap, cur, hv, _⟩⟩, _⟩ := h
  · exact ⟨_, _, _, hv, hn.symm⟩
  · exact ⟨_, _, _, hv, rfl⟩
theorem HCU.rr {w wr : World} {v : Value} {rows : List (List Ho)} (h : HCU w wr v rows) : ∃ c, HR wr v c rows := by
  obtain ⟨h1, vs, h2, h3⟩ := h
  obtain ⟨c, ao, hv, hl, hm, hno, hc⟩ := VS.of_own h2
  have hlen : vs.length = rows.length := by have := h2.1; omega
  have hcap : ∀ i, ∃ c', i < rows.length → HS wr (vs.getD i undef) c' (ow rows i) := fun i => by
    by_cases hi : i < rows.length
    · obtain ⟨u, a, b⟩ := h3 i hi
      obtain ⟨c', hr⟩ := b.hs
      exact ⟨c', fun _ => by rw [show vs.getD i undef = u by simp [List.getD, a]]; exact hr⟩
    · exact ⟨0, fun h => absurd h hi⟩
  refine ⟨c, ao, fun i => vs.getD i undef, fun i => (hcap i).choose, by rw [hv, hlen], by omega, hm, ?_, fun i hi => (hcap i).choose_spec hi⟩
  by_cases h0 : rows.length = 0
  · exact .inl (List.eq_nil_of_length_eq_zero h0)
  · cases ao with
    | none => have := hno rfl; omega
    | some a =>
      obtain ⟨b, o, s⟩ := a
      obtain ⟨hs, hcell⟩ := hc _ rfl
      have hs' : s = Option.none := hs (by omega)
      subst hs'
      exact .inr ⟨b, o, rfl, fun i hi => hcell i _ (by obtain ⟨u, a, _⟩ := h3 i hi; rw [a]; simp [List.getD, a])⟩
/-- 'c.Rows = append(c.Rows, row)'. -/
theorem app_hou {w : World} {ops : Array Oper} {rest : List Oper} {o : Oper} {a : Act} {Q : Exit → Act → World → Prop}
    (hg : o.guard = Option.none) (s x : Operand) (hop : o.op = Op.call { callee := Callee.builtin Builtin.append, args := #[s, x], argTypes := #[22, 22] })
    (wb : World) (v : Value) (rows : List (List Ho)) (hs : a.eval s = v) (hco : HCU wb w v rows) (u : Value) (l : List Ho) (hu : HU w u l)
    (g : Nat) (hx : a.eval x = .slice (some ⟨g, 0, Option.none⟩) 1 1) (hgw : g = w.heap.size) (hlen : rows.length ≤ 100000)
    (hK : ∀ v' w', HCU wb w' v' (rows ++ [l]) → (∀ (b : Nat) (cs : Array Value) (t : TypeId) (q : Nat × Nat), w.heap[b]? = some (Obj.cells cs t q) → t ≠ 37 → w'.heap[b]? = some (Obj.cells cs t q)) → wpList Tryd.prog ops Q rest (a.put o.dst v') w') :
    wpList Tryd.prog ops Q (o :: rest) a (w.alloc (.cells #[u] 37)) := by
  obtain ⟨h1, vs, h2, h3⟩ := hco
  subst hgw
  have hvl : vs.length = rows.length := by have := h2.1; omega
  have h1u : ∀ y ∈ [u], y.oneCell' = true := by
    intro y hy
    obtain rfl := List.mem_singleton.1 hy
    obtain ⟨a', n', c', rfl, _⟩ := hu.form
    rfl
  have xa : Ext w (w.alloc (.cells #[u] 37)) := (Ext.refl w).alloc _
  refine app_own_g eiHows hg s x hop wb.heap.size v rows.length vs hs (own_ext h2 xa) _ 1 [u] hx (VS.one _ _ _) h1u (by simp; omega) (by simp; omega) (Nat.le_trans h1.size xa.size) ?_
  intro v' w' ho hgr
  have hst : 39 ≠ 37 := by decide
  refine hK v' w' ⟨?_, vs ++ [u], by simpa using ho, fun i hi => ?_⟩ (fun b cs t q hb ht => blk_grown (own_ext h2 xa) hgr (xa.block hb) ht)
  · refine (h1.trans xa).grown hgr fun k hk => ?_
    obtain ⟨_, ⟨hv, _⟩ | ⟨g', cap, cur, hv, hBg, _⟩⟩ := h2
    · rw [hv] at hk; cases hk
    · rw [hv] at hk; have : g' = k := by simpa [Value.ownBlock] using hk
      omega
  · rw [List.length_append, List.length_singleton] at hi
    by_cases e : i < rows.length
    · obtain ⟨u', a', b'⟩ := h3 i e
      rw [ow_app _ _ e]
      exact ⟨u', by rw [List.getElem?_append_left (by omega)]; exact a', (b'.ext xa).grown (own_ext h2 xa) hgr hst⟩
    · obtain rfl : i = rows.length := by omega
      rw [ow_new]
      exact ⟨u, by rw [List.getElem?_append_right (by omega)]; simp [hvl], (hu.ext xa).grown (own_ext h2 xa) hgr hst⟩

/-- The rows that were appended, as they lie. -/
theorem HCU.lies {w wr : World} {a : Option Addr} {n c : Nat} {rows : List (List Ho)} (h : HCU w wr (.slice a n c) rows) (hn : 0 < rows.length) :
    n = rows.length ∧ n ≤ c ∧ c ≤ maxLen ∧ ∃ q f, a = some ⟨q, 0, none⟩ ∧ w.heap.size ≤ q ∧ wr.rowIs q 37 c f ∧ ∀ i, i < n → HU wr (f i) (ow rows i) := by
  obtain ⟨h1, vs, h2, h3⟩ := h
  have hl := h2.1
  obtain ⟨_, ⟨hv, h0⟩ | ⟨g, cap, cur, hv, hB, hb, hnc, hm, hsz, htk⟩⟩ := h2
  · omega
  · simp only [Value.slice.injEq] at hv
    obtain ⟨rfl, rfl, rfl⟩ := hv
    simp only [Nat.mul_one] at hsz htk hl
    refine ⟨rfl, hnc, hm, g, fun i => (cur[i]?).getD undef, rfl, hB, ⟨cur, hb, hsz, fun i hi => by simp [Array.getElem?_eq_getElem (show i < cur.size by omega)]⟩, fun i hi => ?_⟩
    obtain ⟨u, hu, hr⟩ := h3 i hi
    have : cur[i]? = some u := by
      rw [← hu, ← htk, List.getElem?_take, if_pos hi, Array.getElem?_toList]
    simp only [this, Option.getD_some]
    exact hr
theorem HU.but {w w' : World} {u : Value} {l : List Ho} {q c : Nat} {f : Nat → Value} (h : HU w u l) (hb : But q w w') (hr : w.rowIs q 37 c f) : HU w' u l := by
  rcases h with h | ⟨g, cc, dd, h1, h2, h3, h4⟩
  · exact .inl h
  · refine .inr ⟨g, cc, dd, h1, h2, h3, ?_⟩
    obtain ⟨cs, hcs⟩ := h4.block
    obtain ⟨cur, hcur, _⟩ := hr
    refine h4.of_block (hb.2.2.2.2 g h4.lt fun e => ?_)
    rw [e, hcur] at hcs
    simp only [Option.some.injEq, Obj.cells.injEq] at hcs
    exact absurd hcs.2.1 (by decide)
/-- Turned round, and without spare capacity. -/
theorem HR.turned {w' : World} {q n c c2 : Nat} {f f' : Nat → Value} {rows : List (List Ho)} (hn : n = rows.length) (hnc : n ≤ c2) (hn2 : c2 ≤ c) (hm : c ≤ maxLen) (hr : w'.rowIs q 37 c f') (hf : ∀ j, j < n → f' j = f (n - 1 - j)) (hv : ∀ i, i < n → HU w' (f i) (ow rows i)) :
    HR w' (.slice (some ⟨q, 0, none⟩) n c2) c2 rows.reverse := by
  have how : ∀ i, i < n → ow rows.reverse i = ow rows (n - 1 - i) := fun i hi => by
    rw [ow_of_lt (by simpa [← hn] using hi), ow_of_lt (by omega), List.getElem_reverse]
    congr 1; omega
  have hcap : ∀ i, ∃ d, i < n → HS w' (f' i) d (ow rows.reverse i) := fun i => by
    by_cases hi : i < n
    · obtain ⟨d, hd⟩ := (hv (n - 1 - i) (by omega)).hs
      exact ⟨d, fun _ => by rw [hf i hi, how i hi]; exact hd⟩
    · exact ⟨0, fun h => absurd h hi⟩
  refine ⟨some ⟨q, 0, none⟩, f', fun i => (hcap i).choose, by rw [List.length_reverse, hn], by rw [List.length_reverse]; omega, by omega, .inr ⟨q, 0, rfl, fun i hi => ?_⟩, fun i hi => ?_⟩
  · rw [List.length_reverse] at hi
    rw [Nat.zero_add]; exact hr.cell (by omega)
  · rw [List.length_reverse] at hi
    exact (hcap i).choose_spec (by omega)

end Go.Proofs.YthllbcjglcplhaaDoor
/- laces.Parse. -/
namespace Go.Proofs.YthllbcjglcplhaaDoor
set_option linter.unusedVariables false
set_option linter.unusedSimpArgs false
set_option maxRecDepth 8000
open Go Go.RowKit

def Mx (w : World) : Prop := ∃ m, w.cell? ⟨1, 0, none⟩ = some (.int .i64 m)
theorem Mx.ext {w w' : World} (h : Mx w) (hx : Ext w w') : Mx w' := by
  obtain ⟨m, hm⟩ := h
  exact ⟨m, hx.cell hm⟩
theorem index_nl (r : List UInt8) : ∀ {x : List UInt8}, (10 : UInt8) ∉ x → Lib.index (x ++ 10 :: r) [10] = (x.length : Int)
  | [], _ => by rw [List.nil_append, Lib.index]; simp [List.isPrefixOf]
  | b :: x, h => by
    simp only [List.mem_cons, not_or] at h
    have ih := index_nl r (x := x) h.2
    have hp : ([10] : List UInt8).isPrefixOf (b :: (x ++ 10 :: r)) = false := by simp [List.isPrefixOf, h.1]
    rw [List.cons_append, Lib.index, hp, ih]
    simp
theorem cut_nl {x r : List UInt8} (h : (10 : UInt8) ∉ x) : Lib.cut (x ++ 10 :: r) [10] = (x, r, true) := by
  unfold Lib.cut
  rw [index_nl r h, if_pos (by omega)]
  have e : ((x.length : Int).toNat) = x.length := by omega
  rw [e]
  simp
theorem split_nl : ∀ {xs : List UInt8}, (10 : UInt8) ∈ xs → ∃ u t, xs = u ++ 10 :: t ∧ (10 : UInt8) ∉ u
  | [], h => by simp at h
  | c :: xs, h => by
    by_cases e : c = 10
    · exact ⟨[], xs, by rw [e]; rfl, by simp⟩
    · have h1 : (10 : UInt8) ∈ xs := by
        rcases List.mem_cons.1 h with h | h
        · exact absurd h.symm e
        · exact h
      obtain ⟨u, t, rfl, h3⟩ := split_nl h1
      exact ⟨c :: u, t, rfl, by simp [h3, Ne.symm e]⟩
theorem index_no : ∀ {xs : List UInt8}, (10 : UInt8) ∉ xs → Lib.index xs [10] = -1
  | [], _ => rfl
  | b :: x, h => by
    simp only [List.mem_cons, not_or] at h
    have ih := index_no (xs := x) h.2
    have hp : ([10] : List UInt8).isPrefixOf (b :: x) = false := by simp [List.isPrefixOf, h.1]
    rw [Lib.index, hp, ih]
    simp
theorem cut_no {xs : List UInt8} (h : (10 : UInt8) ∉ xs) : Lib.cut xs [10] = (xs, [], false) := by
  unfold Lib.cut
  rw [index_no h, if_neg (by omega)]
theorem ib_nl (r : List UInt8) : ∀ {x : List UInt8}, (10 : UInt8) ∉ x → Lib.indexByte (x ++ 10 :: r) 10 = (x.length : Int)
  | [], _ => by rw [List.nil_append, Lib.indexByte]; simp
  | b :: x, h => by
    simp only [List.mem_cons, not_or] at h
    have ih := ib_nl r (x := x) h.2
    rw [List.cons_append, Lib.indexByte, ih, if_neg (by simpa using Ne.symm h.1), if_neg (by simp)]
    simp
/-- The width that Parse begins with. -/
def pW (xs : List UInt8) : Nat := (if 0 < Lib.indexByte xs 10 then Lib.indexByte xs 10 else 0).toNat
theorem pW_head {xs : List UInt8} {ls : List (List UInt8)} (h : pA xs [] = some ls) : (ls.headD []).length = pW xs := by
  by_cases h10 : (10 : UInt8) ∈ xs
  · obtain ⟨u, t, rfl, h3⟩ := split_nl h10
    rw [pA_nl _ _ _ h3] at h
    obtain ⟨a, _, rfl⟩ := Option.map_eq_some_iff.1 h
    unfold pW
    rw [ib_nl _ h3]
    simp only [List.nil_append, List.headD_cons]
    split <;> omega
  · rw [pA_no _ _ h10] at h
    split at h
    · rename_i e
      simp only [List.nil_append] at e
      cases h
      rw [e]; rfl
    · cases h
/-- What Parse returns. -/
def RetP (w0 : World) (R : Option (Nat × List (List Ho))) (e : Ending) (w' : World) : Prop := Ext w0 w' ∧ match R with
  | some (W, rows) => ∃ v, e = .returned (.tuple #[.agg #[.int .i64 (W : Int), v], .int .i64 0]) ∧ HR w' v rows.length rows
  | none => e = .returned (.tuple #[.agg #[.int .i64 0, .slice Option.none 0 0], .int .i64 4])
/-- The lace that is being read: its block M. -/
def LMU (B wr : World) (W : Int) (M : Nat) (vl : Value) (rows : List (List Ho)) : Prop := HCU B wr vl rows ∧ B2 wr M (.int .i64 W) vl 24
def slen : Value → Nat
  | .string s => s.size
  | _ => 0
theorem data_size (s : ByteArray) : s.size = s.data.toList.length := by rw [Array.length_toList]; rfl
theorem Reverse0_calls (a : Option Addr) (c : Nat) (w : World) : Calls Tryd.prog 53 #[.slice a 0 c] w fun e w' => e = .returned (.tuple #[]) ∧ w = w' := by
  go_enter Tryd.func53, Tryd.ntmps53
  go_wp2
  go_loopw [2, 3] (fun i j wr => i = .int .i64 0 ∧ j = .int .i64 (-1) ∧ Hid (w = wr)) (fun i _ _ => 0)
  case atStart => exact ⟨rfl, rfl, Lib.hid rfl⟩
  case round =>
    obtain ⟨rfl, rfl, H⟩ := hrel
    go_wp2
    go_end0
    exact ⟨rfl, H.out⟩
set_option maxHeartbeats 16000000 in
theorem Parse_calls (s : ByteArray) (w : World) (hs : s.size ≤ 100000) (hm : Mx w) :
    Calls Tryd.prog 33 #[.string s] w (RetP w (pR s.data.toList)) := by
  obtain ⟨xs, hxs⟩ : ∃ xs, xs = s.data.toList := ⟨_, rfl⟩
  have hsll : xs.length ≤ 100000 := by rw [hxs, ← data_size]; exact hs
  rw [← hxs]
  obtain ⟨PR, hPR⟩ : ∃ PR, PR = pR xs := ⟨_, rfl⟩
  rw [← hPR]
  obtain ⟨W0, hW0⟩ : ∃ W0, W0 = pW xs := ⟨_, rfl⟩
  obtain ⟨B, hB⟩ : ∃ B, B = w.alloc (.cells #[.int .i64 0, .slice none 0 0] 24) := ⟨_, rfl⟩
  have xB : Ext w B := by rw [hB]; exact (Ext.refl w).alloc _
  have hB4 : B2 B w.heap.size (.int .i64 0) (.slice none 0 0) 24 := by rw [hB]; exact B2.new _ _ _ _
  have hib := Tryd.strings_IndexByte s 10 B
  rw [← hxs, show (10 : Int).toNat.toUInt8 = 10 by rfl] at hib
  obtain ⟨ib, hibe⟩ : ∃ ib, ib = Lib.indexByte xs 10 := ⟨_, rfl⟩
  rw [← hibe] at hib
  have hmax : max 0 ib = (W0 : Int) := by
    rw [hW0]; unfold pW; rw [← hibe]; split <;> omega
  have HIb := Lib.hid hib; have HB := Lib.hid hB; have XB := Lib.hid xB; have HR4 := Lib.hid (fun w' (x : Ext B w') => hB4.ext x)
  have HBs := Lib.hid (show B.heap.size = w.heap.size + 1 by rw [hB]; simp)
  have HPR := Lib.hid hPR; have HW0 := Lib.hid hW0; have Hxs := Lib.hid hxs; have HM := Lib.hid hm
  have HBad := Lib.hid (fun (wr : World) (x : Ext B wr) (h : PR = none) => show RetP w PR (.returned (.tuple #[.agg #[.int .i64 0, .slice none 0 0], .int .i64 4])) ((wr.setCell ⟨w.heap.size, 0, none⟩ (.int .i64 0)).setCell ⟨w.heap.size, 0 + 1, none⟩ (.slice none 0 0)) from by
    rw [h]
    exact ⟨((xB.trans x).setCell (Nat.le_refl _) _).setCell (Nat.le_refl _) _, rfl⟩)
  clear hib hB xB hB4 hibe hPR hW0 hxs hm hs
  go_enter Tryd.func33, Tryd.ntmps33
  go_wp2_with fail
  rw [← HB.out]
  refine HIb.out.mono ?_
  rintro e w1 ⟨rfl, rfl⟩
  clear HIb
  obtain ⟨W1, hW1⟩ : ∃ W1, W1 = w1.alloc (.cells #[.int .i64 (W0 : Int), .slice none 0 0] 24) := ⟨_, rfl⟩
  have hLM : LMU w1 W1 W0 w1.heap.size (.slice none 0 0) [] := by
    rw [hW1]; exact ⟨HCU.nil ((Ext.refl _).alloc _), B2.new _ _ _ _⟩
  have HLM0 := Lib.hid hLM; have HW1 := Lib.hid hW1
  clear hW1 hLM
  go_wp2
  rw [← HW1.out]
  have HG := Lib.hid (show w.heap.size < w1.heap.size by have := HBs.out; omega)
  go_loopw [0, 5, 6, 7, 8, 9] (fun sv _ _ _ _ _ wr => ∃ (sk : ByteArray) (al : Option Addr) (nl cl : Nat) (d : List (List UInt8)), sv = .string sk ∧ sk.size + d.length ≤ 100000 ∧ Hid (LMU w1 wr W0 w1.heap.size (.slice al nl cl) (d.map hsl)) ∧ Hid (pA xs [] = (pA sk.data.toList []).map (d ++ ·)) ∧ Hid (d.all (okL W0) = true)) (fun sv _ _ _ _ _ _ => slen sv)
  case atStart => exact ⟨s, none, 0, 0, [], rfl, by rw [data_size, ← Hxs.out]; simpa using hsll, HLM0, Lib.hid (by rw [← Hxs.out]; cases pA xs [] <;> rfl), Lib.hid rfl⟩
  case round =>
    obtain ⟨sk, al, nl, cl, d, rfl, hsd, HL, HP, HD⟩ := hrel
    by_cases hsk : sk.data.toList = []
    case neg =>
      have hne : sk ≠ { data := #[] } := fun e => hsk (by rw [e])
      have hnb := str_nonempty (a := sk) (by
        rw [data_size]; exact Nat.pos_of_ne_zero (fun h => hsk (List.eq_nil_of_length_eq_zero h)))
      obtain ⟨mm, hmm⟩ := HM.out.ext (XB.out.trans HL.out.1.1)
      have hcut := Tryd.strings_Cut sk { data := #[10] } mm wr (by omega) hmm
      rw [show ({ data := #[10] } : ByteArray).data.toList = [10] from rfl] at hcut
      have hcl : ∃ (J T : ByteArray) (f : Bool), (Calls Tryd.prog 52 #[.string sk, .string { data := #[10] }] wr fun e w' => e = .returned (.tuple #[.string J, .string T, .bool f]) ∧ ∃ n, w' = wr.drewN n) ∧ J.size ≤ sk.size ∧
          ((f = false ∧ PR = none) ∨ (f = true ∧ T.size + 1 ≤ sk.size ∧ pA sk.data.toList [] = (pA T.data.toList []).map (J.data.toList :: ·))) := by
        by_cases h10 : (10 : UInt8) ∈ sk.data.toList
        · obtain ⟨u, t, e, hu⟩ := split_nl h10
          rw [e, cut_nl hu] at hcut
          refine ⟨⟨u.toArray⟩, ⟨t.toArray⟩, true, hcut, ?_, .inr ⟨rfl, ?_, ?_⟩⟩
          · rw [data_size, data_size sk, e]; simp
          · rw [data_size, data_size sk, e]; simp
          · rw [e, pA_nl _ _ _ hu]; rfl
        · rw [cut_no h10] at hcut
          refine ⟨_, _, false, hcut, ?_, .inl ⟨rfl, ?_⟩⟩
          · show sk.data.toList.toArray.size ≤ sk.data.size
            rw [List.size_toArray, Array.length_toList]; exact Nat.le_refl _
          · rw [HPR.out]
            refine pR_none ?_
            rw [HP.out, pA_no _ _ h10, List.nil_append, if_neg hsk]; rfl
      obtain ⟨J, T, f, hcut2, hJs, hcs⟩ := hcl
      have hrd := fun w' => read_calls J w' (by omega)
      rw [bts_bi] at hrd
      have HRd := Lib.hid hrd; have HCut := Lib.hid hcut2; have HCs := Lib.hid hcs
      clear hsk hne hmm hcut hcut2 hrd hcs
      go_wp2_with fail
      refine HCut.out.mono ?_
      rintro e w2 ⟨rfl, nq, rfl⟩
      clear HCut
      go_wp2_with fail
      refine (HRd.out _).mono ?_
      rintro e w3 ⟨x3, vr, hrs, hrn⟩
      have X3 := Lib.hid (((Ext.refl wr).drewN nq).trans x3)
      have HL3c := Lib.hid (HL.out.1.later X3.out); have HL3b := Lib.hid (HL.out.2.ext X3.out)
      have XR := Lib.hid HL3c.out.1
      have r4 := HR4.out w3 XR.out
      have c4 := r4.c0; have c5 := r4.c1; have f4 := r4.f0; have f5 := r4.f1
      have c6 := (r4.set2 (.int .i64 0) (.slice none 0 0)).c0; have c7 := (r4.set2 (.int .i64 0) (.slice none 0 0)).c1
      have HF := Lib.hid (HBad.out w3 XR.out)
      have q0 := HL3b.out.c0; have q1 := HL3b.out.c1; have g1 := HL3b.out.f1
      clear x3 HRd r4
      rcases HCs.out with ⟨rfl, hPR⟩ | ⟨rfl, hT, hPA⟩
      · have HF2 := Lib.hid (HF.out hPR)
        have he : ∃ ok, e = .returned (.tuple #[vr, .bool ok]) := by
          rcases hh : rdL 0 (bi J.data.toList) with _ | r
          · exact ⟨_, hrn hh⟩
          · exact ⟨_, (hrs r hh).1⟩
        obtain ⟨ok, rfl⟩ := he
        clear hPR HCs hrs hrn HF
        go_wp2
        exact bodyPost_ret (v := .tuple #[.agg #[.int .i64 0, .slice none 0 0], .int .i64 4]) (by simp [results, Tryd.results33, go_sem, c6, c7]) rfl HF2.out
      · rcases hh : rdL 0 (bi J.data.toList) with _ | r
        · have hbad := pR_bad HP.out hPA (fun ls h => (pW_head h).trans HW0.out.symm) (by unfold okL; rw [hh]; rfl)
          have HF2 := Lib.hid (HF.out (HPR.out.trans hbad))
          obtain rfl := hrn hh
          clear hbad hh HCs hrs hrn HF hPA
          go_wp2
          exact bodyPost_ret (v := .tuple #[.agg #[.int .i64 0, .slice none 0 0], .int .i64 4]) (by simp [results, Tryd.results33, go_sem, c6, c7]) rfl HF2.out
        · obtain ⟨rfl, hvr⟩ := hrs r hh
          by_cases hJW : J.size = W0
          case neg =>
            have tw : ((J.size : Int) != (W0 : Int)) = true := bne_iff_ne.2 (by omega)
            have hbad := pR_bad HP.out hPA (fun ls h => (pW_head h).trans HW0.out.symm) (by unfold okL; rw [hh, ← data_size]; simp [hJW])
            have HF2 := Lib.hid (HF.out (HPR.out.trans hbad))
            clear hbad hh HCs hrs hrn HF hPA hJW hvr
            go_wp2
            exact bodyPost_ret (v := .tuple #[.agg #[.int .i64 0, .slice none 0 0], .int .i64 4]) (by simp [results, Tryd.results33, go_sem, c6, c7]) rfl HF2.out
          have tw : ((J.size : Int) != (W0 : Int)) = false := by rw [hJW]; exact bne_self_eq_false _
          have HP2 := Lib.hid (show pA xs [] = (pA T.data.toList []).map ((d ++ [J.data.toList]) ++ ·) from by
            rw [HP.out, hPA]; cases pA T.data.toList [] <;> simp)
          have HD2 := Lib.hid (show (d ++ [J.data.toList]).all (okL W0) = true from by
            rw [List.all_append, HD.out, Bool.true_and, List.all_cons, List.all_nil, Bool.and_true]
            unfold okL; rw [hh, ← data_size]; simp [hJW])
          have hhr : hsl J.data.toList = r := by unfold hsl; rw [hh]; rfl
          have HHr := Lib.hid (show (d ++ [J.data.toList]).map hsl = d.map hsl ++ [r] from by rw [List.map_append]; simp [hhr])
          have HVr := Lib.hid hvr
          have hlen : (d.map hsl).length ≤ 100000 := by rw [List.length_map]; omega
          obtain ⟨ar, nr, cr, rfl, hnr⟩ := hvr.form
          clear hnr hhr hh hrs hrn HF hPA hJW hvr c4 c5 c6 c7 f4 f5 HCs
          go_wp2_with (at_builtin; go_loud (refine app_hou rfl _ _ rfl w1 _ (d.map hsl) rfl HL3c.out _ _ HVr.out w3.heap.size rfl rfl hlen ?_))
          intro v' w' hco' hkeep
          have hm' := (by first | exact hkeep _ _ _ _ HL3b.out (by decide) | exact hkeep _ _ _ _ _ HL3b.out (by decide) : w'.heap[w1.heap.size]? = some (.cells #[.int .i64 (W0 : Int), .slice al nl cl] 24 (0, 0)))
          have hm9 : B2 w' w1.heap.size (.int .i64 (W0 : Int)) (.slice al nl cl) 24 := hm'
          have hc1 := hm9.c1; have hf9 := hm9.f1
          have HN := Lib.hid (show LMU w1 (w'.setCell ⟨w1.heap.size, 1, none⟩ v') W0 w1.heap.size v' ((d ++ [J.data.toList]).map hsl) from by
            rw [HHr.out]
            exact ⟨hco'.setOther (a := ⟨w1.heap.size, 1, none⟩) hm9 (by decide) (by decide) (Nat.le_refl _), hm9.set1⟩)
          obtain ⟨a2, n2, c2', rfl, hn2⟩ := hco'.form
          clear hco' hkeep hm' hm9 hn2 q0 q1 g1
          go_wp2
          go_roundw
          case rel => exact ⟨T, _, _, _, d ++ [J.data.toList], rfl, by simp; omega, HN, HP2, HD2⟩
          case measure => simp [slen]; omega
    · have hse : sk.toList = [] := by rw [ByteArray.toList_eq]; exact hsk
      have hp := HP.out
      rw [hsk] at hp
      have hpd : pA xs [] = some d := by rw [hp]; simp [pA]
      have hPR := pR_some hpd ((pW_head hpd).trans HW0.out.symm) HD.out
      rw [← HPR.out] at hPR
      have Hpr := Lib.hid hPR
      have XR := Lib.hid HL.out.1.1
      have q0 := HL.out.2.c0; have q1 := HL.out.2.c1
      clear hp hpd hPR hsk
      by_cases hd0 : d = []
      · subst hd0
        obtain ⟨cx, hrx⟩ := HL.out.1.rr
        obtain ⟨an, nn, cn, hform, hnn⟩ := HL.out.1.form
        simp only [Value.slice.injEq] at hform
        obtain ⟨rfl, rfl, rfl⟩ := hform
        obtain rfl : nl = 0 := by rw [hnn]; rfl
        have hck := LCheck_calls W0 _ _ _ wr hrx
        have hne : lchk (W0 : Int) ([] : List (List Ho)) ≠ 0 := by unfold lchk; split <;> simp
        have hne2 : (lchk (W0 : Int) ([] : List (List Ho)) != 0) = true := bne_iff_ne.2 hne
        have hno : PR = none := by rw [Hpr.out]; exact if_neg hne
        have HCk := Lib.hid hck
        have HF2 := Lib.hid (fun wx (x : Ext w1 wx) => HBad.out wx x hno)
        clear hck hnn hno hne hrx
        go_wp2_with fail
        refine (Reverse0_calls _ _ _).mono ?_
        rintro e w5 ⟨rfl, rfl⟩
        go_wp2_with fail
        refine HCk.out.mono ?_
        rintro e w6 ⟨rfl, x6⟩
        have X6 := Lib.hid (XR.out.trans x6)
        have r4 := HR4.out w6 X6.out
        have c4 := r4.c0; have c5 := r4.c1; have f4 := r4.f0; have f5 := r4.f1
        have c6 := (r4.set2 (.int .i64 0) (.slice none 0 0)).c0; have c7 := (r4.set2 (.int .i64 0) (.slice none 0 0)).c1
        have HF3 := Lib.hid (HF2.out w6 X6.out)
        obtain ⟨E, hE⟩ : ∃ E, E = lchk (W0 : Int) ([] : List (List Ho)) := ⟨_, rfl⟩
        simp only [List.map_nil]
        rw [← hE] at hne2 ⊢
        clear x6 r4 hE q0 q1
        go_wp2
        exact bodyPost_ret (v := .tuple #[.agg #[.int .i64 0, .slice none 0 0], .int .i64 4]) (by simp [results, Tryd.results33, go_sem, c6, c7]) rfl HF3.out
      · have hdl : 0 < (d.map hsl).length := by rw [List.length_map]; exact Nat.pos_of_ne_zero (fun h => hd0 (List.eq_nil_of_length_eq_zero h))
        obtain ⟨hn, hnc, hcm, qq, f, rfl, hq, hrow, hrv⟩ := HL.out.1.lies hdl
        have hn1 : nl ≤ 100000 := by rw [hn, List.length_map]; omega
        have hqM : qq ≠ w1.heap.size := fun e => by
          obtain ⟨cur, hcur, _⟩ := hrow
          have h2 : wr.heap[w1.heap.size]? = _ := HL.out.2
          rw [e, h2] at hcur
          simp only [Option.some.injEq, Obj.cells.injEq] at hcur
          exact absurd hcur.2.1 (by decide)
        have hrev := Reverse_calls qq nl cl f wr hrow hnc (by omega) (fun j hj => by
          obtain ⟨a, m, d, h1, _⟩ := (hrv j hj).form
          exact ⟨a, m, d, h1⟩)
        have HRev := Lib.hid hrev; have HRow := Lib.hid hrow; have HRv := Lib.hid hrv; have Hn := Lib.hid hn; have Hnc := Lib.hid hnc; have Hcm := Lib.hid hcm; have Hq := Lib.hid hq; have HqM := Lib.hid hqM
        clear hrev hrow hrv hn hcm hq hqM hd0 hdl
        go_wp2_with fail
        refine HRev.out.mono ?_
        rintro e w5 ⟨rfl, hbut, f', hrow', hf'⟩
        have X5 := Lib.hid (hbut.ext XR.out Hq.out)
        have hM5 : B2 w5 w1.heap.size (.int .i64 (W0 : Int)) (.slice (some ⟨qq, 0, none⟩) nl cl) 24 := by
          have hlt := lt_of_block (show wr.heap[w1.heap.size]? = _ from HL.out.2)
          exact (hbut.2.2.2.2 _ hlt (fun e => HqM.out e.symm)).trans HL.out.2
        have HM5 := Lib.hid hM5; have HRw5 := Lib.hid hrow'; have Hf' := Lib.hid hf'; have HRv5 := Lib.hid (fun i hi => (HRv.out i hi).but hbut HRow.out)
        have hrr := HR.turned Hn.out Hnc.out (Nat.le_refl _) Hcm.out hrow' hf' HRv5.out
        have hck := LCheck_calls W0 _ _ _ w5 hrr
        have hpe : (d.map hsl).reverse = pRw d := rfl
        rw [hpe] at hck
        have HCk := Lib.hid hck
        replace q0 := hM5.c0; replace q1 := hM5.c1
        clear hbut hrow' hf' HRev hM5 hrr hck hpe
        go_wp2_with fail
        refine HCk.out.mono ?_
        rintro e w9 ⟨rfl, x9⟩
        have X9 := Lib.hid (X5.out.trans x9); have Y9 := Lib.hid x9
        have hM9 := HM5.out.ext x9
        have r4 := HR4.out w9 X9.out
        have HM9 := Lib.hid hM9; have HRr := Lib.hid r4
        clear x9 HCk q0 q1
        by_cases hE : lchk (W0 : Int) (pRw d) = 0
        case neg =>
          have hne2 : (lchk (W0 : Int) (pRw d) != 0) = true := bne_iff_ne.2 hE
          have hno : PR = none := by rw [Hpr.out]; exact if_neg hE
          have HF3 := Lib.hid (HBad.out w9 X9.out hno)
          have c4 := r4.c0; have c5 := r4.c1; have f4 := r4.f0; have f5 := r4.f1
          have c6 := (r4.set2 (.int .i64 0) (.slice none 0 0)).c0; have c7 := (r4.set2 (.int .i64 0) (.slice none 0 0)).c1
          obtain ⟨E, hEE⟩ : ∃ E, E = lchk (W0 : Int) (pRw d) := ⟨_, rfl⟩
          rw [← hEE] at hne2 ⊢
          clear hE hno r4 hM9 hEE
          go_wp2
          exact bodyPost_ret (v := .tuple #[.agg #[.int .i64 0, .slice none 0 0], .int .i64 4]) (by simp [results, Tryd.results33, go_sem, c6, c7]) rfl HF3.out
        rw [hE]
        have hso : PR = some (W0, pRw d) := by rw [Hpr.out]; exact if_pos hE
        have Hso := Lib.hid hso
        have q1 := hM9.c1; have f1 := hM9.f1
        clear hE hso r4 hM9
        go_wp2_with fail
        refine (Clip_calls _ nl cl w9 Hnc.out (fun x hx => by cases hx; rfl) (fun h => by cases h)).mono ?_
        rintro e w6 ⟨rfl, rfl⟩
        have hRM : w.heap.size ≠ w1.heap.size := by have := HG.out; omega
        obtain ⟨wA, hwA⟩ : ∃ wA, wA = w9.setCell ⟨w1.heap.size, 1, none⟩ (.slice (some ⟨qq, 0, none⟩) nl nl) := ⟨_, rfl⟩
        have hMA : B2 wA w1.heap.size (.int .i64 (W0 : Int)) (.slice (some ⟨qq, 0, none⟩) nl nl) 24 := by rw [hwA]; exact HM9.out.set1
        have hRA : B2 wA w.heap.size (.int .i64 0) (.slice none 0 0) 24 := by
          rw [hwA]; exact (Deep.blk_setCell_other _ _ _ _ hRM).trans HRr.out
        have a0 := hMA.c0; have a1 := hMA.c1
        have c4 := hRA.c0; have c5 := hRA.c1; have f4 := hRA.f0; have f5 := hRA.f1
        have c6 := (hRA.set2 (.int .i64 (W0 : Int)) (.slice (some ⟨qq, 0, none⟩) nl nl)).c0; have c7 := (hRA.set2 (.int .i64 (W0 : Int)) (.slice (some ⟨qq, 0, none⟩) nl nl)).c1
        have HF := Lib.hid (show RetP w PR (.returned (.tuple #[.agg #[.int .i64 (W0 : Int), .slice (some ⟨qq, 0, none⟩) nl nl], .int .i64 0])) ((wA.setCell ⟨w.heap.size, 0, none⟩ (.int .i64 (W0 : Int))).setCell ⟨w.heap.size, 0 + 1, none⟩ (.slice (some ⟨qq, 0, none⟩) nl nl)) from by
          rw [Hso.out]
          have hqb : w1.heap.size ≤ qq := Hq.out
          have hg := HG.out
          have xA : Ext w wA := by rw [hwA]; exact (XB.out.trans X9.out).setCell (by show w.heap.size ≤ w1.heap.size; omega) _
          refine ⟨(xA.setCell (Nat.le_refl _) _).setCell (Nat.le_refl _) _, _, rfl, ?_⟩
          have hr1 : wA.rowIs qq 37 cl f' := by rw [hwA]; exact (Y9.out.row HRw5.out).setOther (a := ⟨w1.heap.size, 1, none⟩) (by simpa using HqM.out) _
          have hu1 : ∀ i, i < nl → HU wA (f i) (ow (d.map hsl) i) := fun i hi => by rw [hwA]; exact ((HRv5.out i hi).ext Y9.out).setOther (a := ⟨w1.heap.size, 1, none⟩) HM9.out (by decide)
          have hne : qq ≠ w.heap.size := by omega
          have h2 := ((hr1.setOther (a := ⟨w.heap.size, 0, none⟩) (by simpa using hne) (.int .i64 (W0 : Int))).setOther (a := ⟨w.heap.size, 0 + 1, none⟩) (by simpa using hne) (.slice (some ⟨qq, 0, none⟩) nl nl))
          have h3 := HR.turned (rows := d.map hsl) Hn.out (Nat.le_refl nl) Hnc.out Hcm.out h2 Hf'.out (fun i hi => ((hu1 i hi).setOther (a := ⟨w.heap.size, 0, none⟩) hRA (by decide)).setOther (a := ⟨w.heap.size, 0 + 1, none⟩) (show (wA.setCell ⟨w.heap.size, 0, none⟩ (.int .i64 (W0 : Int))).heap[w.heap.size]? = _ from B2.set0 (u := .int .i64 (W0 : Int)) hRA) (by decide))
          have hl : (pRw d).length = nl := by rw [pRw_len, Hn.out, List.length_map]
          rw [hl]; exact h3)
        rw [hwA] at a0 a1 c4 c5 f4 f5 c6 c7 HF
        clear hMA hRA hwA hRM
        go_wp2
        exact bodyPost_ret (v := .tuple #[.agg #[.int .i64 (W0 : Int), .slice (some ⟨qq, 0, none⟩) nl nl], .int .i64 0]) (by simp [results, Tryd.results33, go_sem, c6, c7]) rfl HF.out
end Go.Proofs.YthllbcjglcplhaaDoor
/- ganseyref20.Text. -/
namespace Go.Proofs.YthllbcjglcplhaaDoor
set_option linter.unusedVariables false
set_option linter.unusedSimpArgs false
set_option maxRecDepth 8000
open Go Go.RowKit

set_option maxHeartbeats 4000000 in
theorem RText20_calls (W : Nat) (v : Value) (c : Nat) (rows : List (List Ho)) (w : World) (h : HR w v c rows) (hk : lchk W rows = 0) :
    Calls Tryd.prog 32 #[.agg #[.int .i64 (W : Int), v]] w fun e w' => e = .returned (.string (bstr (ltx W rows))) ∧ Ext w w' := by
  obtain ⟨z1, z2, z3, z4, z5⟩ := lchk_zero hk
  have hl : ltx W rows = rT W rows rows.length := by unfold ltx; rw [if_pos hk, Int.toNat_natCast]
  rw [hl]
  obtain ⟨ao, N, rfl, hn, hc, hcm, hat⟩ := h.open
  unfold maxLen at hcm
  obtain ⟨B, hB⟩ : ∃ B, B = w.alloc (.cells #[.int .i64 (W : Int), .slice ao N c] 24) := ⟨_, rfl⟩
  have xB : Ext w B := by rw [hB]; exact (Ext.refl w).alloc _
  have hB1 := B2.new w (.int .i64 (W : Int)) (.slice ao N c) 24
  rw [← hB] at hB1
  have HA := Lib.hid hat; have Hn := Lib.hid hn; have XB := Lib.hid xB; have HB := Lib.hid hB; have HB1 := Lib.hid hB1; have Z5 := Lib.hid z5
  have hN : N ≤ 31 := by omega
  have hW : W ≤ 16 := by omega
  clear hat hn xB hB hB1 h hl hk z1 z2 z3 z4 z5
  go_enter Tryd.func32, Tryd.ntmps32
  go_wp2
  rw [← HB.out]
  go_loopw [3, 4, 5, 6] (fun out i _ _ wr => ∃ k : Nat, k ≤ N ∧ i = .int .i64 k ∧ out = .string (bstr (rT W rows k)) ∧ Hid (Ext B wr)) (fun _ i _ _ _ => N - (intOf i).toNat)
  case atStart => exact ⟨0, Nat.zero_le _, rfl, rfl, Lib.hid (Ext.refl _)⟩
  case round =>
    obtain ⟨k, hk, rfl, rfl, HX⟩ := hrel
    have q0_1 := (HB1.out.ext HX.out).c0; have q0_2 := (HB1.out.ext HX.out).c1
    by_cases hlt : k < N
    · have t1 : (k : Int) < N := by omega
      have t1' : (0 : Int) ≤ k := by omega
      obtain ⟨b, o, a, m, d, rfl, g1, g2⟩ := HA.out k hlt
      have q0_3 := (XB.out.trans HX.out).cell g1
      have hre := Z5.out k (by rw [← Hn.out]; exact hlt)
      have hrow := fun w' (x : Ext w w') => RRow20_calls _ _ W (ow rows k) w' (g2.ext x) (by omega)
      rw [show rowT1 W (ow rows k) = sgn W (ow rows k) by unfold rowT1; rw [if_pos hre], show rowN W (ow rows k) = 1 by unfold rowN; rw [if_pos hre]] at hrow
      have HRow := Lib.hid hrow
      have HSt := Lib.hid (show bstr (sgn W (ow rows k)) ++ { data := #[10] } ++ bstr (rT W rows k) = bstr (rT W rows (k + 1)) from by
        rw [rT, ← bstr_app, ← bstr_app]; rfl)
      have s1 : (bstr (sgn W (ow rows k))).size = W := by rw [bstr_size, sgn_len]
      have s2 : (bstr (rT W rows k)).size = (W + 1) * k := by rw [bstr_size, rT_len]
      have s3 : (bstr (sgn W (ow rows k)) ++ { data := #[10] }).size = W + 1 := by rw [ByteArray.size_append, s1]; rfl
      have s4 : (W + 1) * k ≤ 17 * 31 := Nat.mul_le_mul (by omega) (by omega)
      have t3 : ¬ 9223372036854775807 < (bstr (sgn W (ow rows k))).size + 1 := by omega
      have t4 : ¬ 9223372036854775807 < (bstr (sgn W (ow rows k)) ++ { data := #[10] }).size + (bstr (rT W rows k)).size := by omega
      obtain ⟨S, hS⟩ : ∃ S, S = bstr (sgn W (ow rows k)) := ⟨_, rfl⟩
      obtain ⟨O, hO⟩ : ∃ O, O = bstr (rT W rows k) := ⟨_, rfl⟩
      rw [← hS] at HRow HSt t3 t4; rw [← hO] at HSt t4 ⊢
      have Xw := Lib.hid (XB.out.trans HX.out)
      clear g1 g2 hre hrow s1 s2 s3 s4 hS hO
      go_wp2
      go_region_held3 (fun w' => w'.cell? ⟨w.heap.size, 0, Option.none⟩ = some (.int .i64 (W : Int)) ∧ w'.cell? ⟨w.heap.size, 1, Option.none⟩ = some (.slice (some ⟨b, o, Option.none⟩) N c) ∧ w'.cell? ⟨b, o + k, Option.none⟩ = some (.slice a m d)) (first | (with_reducible exact ⟨q0_1, q0_2, q0_3⟩) | (with_reducible exact ⟨q1_1, q1_2, q1_3⟩) | go_keep) (first
        | (go_at_call 24; (refine (HRow.out _ (Xw.out.trans ?_)).mono ?_); (focus (repeat (first | (with_reducible exact Ext.refl _) | (with_reducible apply Ext.drew) | (with_reducible apply Ext.drewN) | (with_reducible apply Ext.alloc)))); intro e wa hh; obtain ⟨rfl, x⟩ := hh; have Xa : Hid (Ext wr wa) := Lib.hid (Ext.trans (by ((repeat (first | (with_reducible exact Ext.refl _) | (with_reducible apply Ext.drew) | (with_reducible apply Ext.drewN) | (with_reducible apply Ext.alloc))); done)) x); have q1_1 := Xa.out.cell q0_1; have q1_2 := Xa.out.cell q0_2; have q1_3 := Xa.out.cell q0_3; clear x))
      clear q0_1 q0_2 q0_3 q1_1 q1_2 q1_3
      go_wp2
      go_roundw
      case rel => exact ⟨k + 1, by omega, by go_num, by rw [← HSt.out], Lib.hid (HX.out.trans Xa.out)⟩
      case measure => simp [intOf]; omega
    · obtain rfl : k = N := by omega
      have t1 : ¬ (k : Int) < k := by omega
      go_wp2
      go_ret
      exact ⟨by rw [← Hn.out]; rfl, XB.out.trans HX.out⟩
end Go.Proofs.YthllbcjglcplhaaDoor
/- A row that is put ahead of the others; reading a text line by line. -/
namespace Go.Proofs.YthllbcjglcplhaaDoor
set_option linter.unusedVariables false
set_option linter.unusedSimpArgs false
set_option maxRecDepth 8000
open Go Go.RowKit

/-- 'o.Rows = append([][]Hole{h}, o.Rows...)'. -/
theorem app_pre {w : World} {ops : Array Oper} {rest : List Oper} {o : Oper} {a : Act} {Q : Exit → Act → World → Prop}
    (hg : o.guard = Option.none) (s x : Operand) (hop : o.op = Op.call { callee := Callee.builtin Builtin.append, args := #[s, x], argTypes := #[22, 22] })
    (wb : World) (v : Value) (rows : List (List Ho)) (hx : a.eval x = v) (hco : HC wb w v rows) (u : Value) (l : List Ho) (hu : HV w u l)
    (g : Nat) (hs : a.eval s = .slice (some ⟨g, 0, Option.none⟩) 1 1) (hgw : g = w.heap.size) (hlen : rows.length ≤ 100000)
    (hK : ∀ v' w', HC wb w' v' (l :: rows) → (∀ (b : Nat) (cs : Array Value) (t : TypeId) (q : Nat × Nat), w.heap[b]? = some (Obj.cells cs t q) → t ≠ 37 → w'.heap[b]? = some (Obj.cells cs t q)) → wpList Tryd.prog ops Q rest (a.put o.dst v') w') :
    wpList Tryd.prog ops Q (o :: rest) a (w.alloc (.cells #[u] 37)) := by
  obtain ⟨h1, vs, h2, h3⟩ := hco
  subst hgw
  have hvl : vs.length = rows.length := by have := h2.1; omega
  have h1u : ∀ y ∈ vs, y.oneCell' = true := by
    intro y hy
    obtain ⟨i, hi, rfl⟩ := List.mem_iff_getElem.1 hy
    obtain ⟨u', e, hu'⟩ := h3 i (by omega)
    rw [List.getElem?_eq_getElem hi] at e
    cases e
    obtain ⟨a', n', c', e, _⟩ := hu'.form
    rw [e]; rfl
  have xa : Ext w (w.alloc (.cells #[u] 37)) := (Ext.refl w).alloc _
  have hlit := World.ownsRow_lit (base := wb.heap.size) (e := 37) (size := 1) w #[u] 1 h1.size (by unfold maxLen; omega) rfl
  obtain ⟨c, hvs⟩ := VS.of_own (own_ext h2 xa)
  refine app_own_g eiHows hg s x hop wb.heap.size _ 1 [u] hs hlit v c vs hx hvs h1u (by omega) (by omega) (Nat.le_trans h1.size xa.size) ?_
  intro v' w' ho hgr
  have hst : 39 ≠ 37 := by decide
  refine hK v' w' ⟨?_, u :: vs, by rw [List.length_cons, ← hvl, Nat.add_comm]; exact ho, fun i hi => ?_⟩ (fun b cs t q hb ht => blk_grown hlit hgr (xa.block hb) ht)
  · refine (h1.trans xa).grown hgr fun k hk => ?_
    have : w.heap.size = k := by simpa [Value.ownBlock] using hk
    have := h1.size
    omega
  · rw [List.length_cons] at hi
    cases i with
    | zero => exact ⟨u, rfl, (hu.ext xa).grown hlit hgr hst⟩
    | succ i =>
      obtain ⟨u', a', b'⟩ := h3 i (by omega)
      exact ⟨u', a', (b'.ext xa).grown hlit hgr hst⟩
/-- The text that is read: what was found in its first k bytes, L being the line that has begun. -/
def TxR (PR : Option (Nat × List (List Ho))) (xs : List UInt8) (wb : World) (M : Nat) (bd : Bool) (L : ByteArray) (k : Nat) (wr : World) : Prop :=
  Ext wb wr ∧ ((bd = true ∧ PR = none) ∨ (bd = false ∧ ∃ (d : List (List UInt8)) (v : Value), HC wb wr v (pRw d) ∧ B2 wr M (.int .i64 ((d.headD []).length : Nat)) v 24 ∧ pA xs [] = (pA (xs.drop k) L.data.toList).map (d ++ ·) ∧ d.all (okL (d.headD []).length) = true ∧ (L.data.toList ≠ [] → xs.getD (k - 1) 0 ≠ 10) ∧ d.length ≤ k))
theorem ext1_data {s : ByteArray} {k : Nat} (h : k < s.size) : (s.extract k (k + 1)).data.toList = [s[k]'h] := by
  rw [ByteArray.data_extract, Array.toList_extract]
  have h' : k < s.data.toList.length := by rw [Array.length_toList]; exact h
  rw [List.extract_eq_take_drop, show k + 1 - k = 1 by omega, List.drop_eq_getElem_cons h', List.take_succ_cons, List.take_zero]
  rfl
theorem pRw_app (d : List (List UInt8)) (l : List UInt8) : pRw (d ++ [l]) = hsl l :: pRw d := by unfold pRw; simp
theorem drop_at {s : ByteArray} {k : Nat} (h : k < s.size) : s.data.toList.drop k = (s[k]'h) :: s.data.toList.drop (k + 1) := by
  have h' : k < s.data.toList.length := by rw [Array.length_toList]; exact h
  rw [List.drop_eq_getElem_cons h']; rfl
theorem getD_at {s : ByteArray} {k : Nat} (h : k < s.size) : s.data.toList.getD k 0 = s[k]'h := by
  have h' : k < s.data.toList.length := by rw [Array.length_toList]; exact h
  rw [List.getD_eq_getElem?_getD, List.getElem?_eq_getElem h']; rfl
theorem ba_app (a b : ByteArray) : (a ++ b).data.toList = a.data.toList ++ b.data.toList := by
  rw [ByteArray.data_append, Array.toList_append]
theorem tx_nl {xs : List UInt8} {k : Nat} {d : List (List UInt8)} {l : List UInt8} (hk : xs.drop k = 10 :: xs.drop (k + 1)) (h : pA xs [] = (pA (xs.drop k) l).map (d ++ ·)) : pA xs [] = (pA (xs.drop (k + 1)) []).map ((d ++ [l]) ++ ·) := by
  rw [h, hk, pA, if_pos rfl, Option.map_map]
  congr 1
  funext x
  simp
theorem tx_good {d : List (List UInt8)} {l : List UInt8} (ha : d.all (okL (d.headD []).length) = true) (hr : (rdL 0 (bi l)).isSome = true) (hl : d = [] ∨ l.length = (d.headD []).length) : (d ++ [l]).all (okL ((d ++ [l]).headD []).length) = true ∧ ((d ++ [l]).headD []).length = l.length := by
  cases d with
  | nil => refine ⟨?_, rfl⟩; simp [okL, hr]
  | cons a t =>
    have h2 : l.length = a.length := by
      rcases hl with h | h
      · cases h
      · exact h
    refine ⟨?_, h2.symm⟩
    rw [List.all_append, show (a :: t ++ [l]).headD [] = (a :: t).headD [] from rfl, ha]
    simp [okL, hr, h2]
theorem tx_bad {xs : List UInt8} {k : Nat} {d : List (List UInt8)} {l : List UInt8} (h : pA xs [] = (pA (xs.drop (k + 1)) []).map ((d ++ [l]) ++ ·)) (hb : rdL 0 (bi l) = none ∨ (d ≠ [] ∧ l.length ≠ (d.headD []).length)) : pR xs = none := by
  rcases hp : pA xs [] with _ | ls
  · exact pR_none hp
  · unfold pR
    rw [hp]
    rw [h] at hp
    obtain ⟨a, h2, rfl⟩ := Option.map_eq_some_iff.1 hp
    simp only
    rw [if_neg]
    rintro ⟨h6, _⟩
    rw [List.all_eq_true] at h6
    have h7 := h6 l (by simp)
    rcases hb with hb | ⟨hd, hl⟩
    · unfold okL at h7; rw [hb] at h7; simp at h7
    · have h8 := (okL_iff.1 h7).2
      apply hl
      rw [h8]
      cases d with
      | nil => exact absurd rfl hd
      | cons a t => rfl
theorem TxR.char {PR : Option (Nat × List (List Ho))} {s L : ByteArray} {wb wr : World} {M k : Nat} (h : TxR PR s.data.toList wb M false L k wr) (hk : k < s.size) (hc : (s[k]'hk) ≠ 10) : TxR PR s.data.toList wb M false (L ++ s.extract k (k + 1)) (k + 1) wr := by
  obtain ⟨x, ⟨h1, _⟩ | ⟨_, d, v, h1, h2, h3, h4, h5, h6⟩⟩ := h
  · cases h1
  · refine ⟨x, .inr ⟨rfl, d, v, h1, h2, ?_, h4, fun _ => ?_, by omega⟩⟩
    · rw [h3, drop_at hk, pA, if_neg hc, ba_app, ext1_data hk]
    · rw [Nat.add_sub_cancel, getD_at hk]; exact hc
theorem TxR.start {s : ByteArray} {wb wr : World} {M n : Nat} (hc : HC wb wr (.slice Option.none 0 0) []) (hb : B2 wr M (.int .i64 0) (.slice Option.none 0 0) 24) (b : Bool) (hs : s.size = n + 1) (hbd : b = true ↔ s.data.toList.getD n 0 ≠ 10) : TxR (pR s.data.toList) s.data.toList wb M b ⟨#[]⟩ 0 wr := by
  refine ⟨hc.1, ?_⟩
  have hlen : s.data.toList.length = n + 1 := by rw [Array.length_toList]; exact hs
  cases b with
  | true =>
    refine .inl ⟨rfl, ?_⟩
    have h1 := hbd.1 rfl
    have h2 : s.data.toList = s.data.toList.take n ++ [s.data.toList.getD n 0] := by
      have h3 : n < s.data.toList.length := by omega
      conv => lhs; rw [← List.take_append_drop n s.data.toList]
      rw [List.drop_eq_getElem_cons h3, List.drop_eq_nil_of_le (by omega), List.getD_eq_getElem?_getD, List.getElem?_eq_getElem h3]; rfl
    rw [h2]
    exact pR_none (pA_last h1 _ _)
  | false =>
    refine .inr ⟨rfl, [], .slice Option.none 0 0, hc, hb, ?_, rfl, fun h => absurd rfl h, Nat.le_refl _⟩
    rw [List.drop_zero]
    cases pA s.data.toList [] <;> rfl
/-- At the end of the text. -/
theorem TxR.done {s L : ByteArray} {wb wr : World} {M n : Nat} (hs : s.size = n + 1) (hl : s.data.toList.getD n 0 = 10) {PR : Option (Nat × List (List Ho))} (hP : PR = pR s.data.toList) (h : TxR PR s.data.toList wb M false L s.size wr) :
    ∃ (W : Nat) (v : Value) (rows : List (List Ho)), HC wb wr v rows ∧ B2 wr M (.int .i64 (W : Nat)) v 24 ∧ PR = if lchk (W : Int) rows = 0 then some (W, rows) else none := by
  obtain ⟨x, ⟨h1, _⟩ | ⟨_, d, v, h1, h2, h3, h4, h5, h6⟩⟩ := h
  · cases h1
  · refine ⟨_, v, _, h1, h2, ?_⟩
    rw [hP]
    have hL : L.data.toList = [] := Classical.byContradiction fun e => h5 e (by rw [hs, Nat.add_sub_cancel]; exact hl)
    refine pR_some ?_ rfl h4
    rw [h3, List.drop_eq_nil_of_le (by rw [Array.length_toList]; exact Nat.le_refl _), hL]
    simp [pA]
end Go.Proofs.YthllbcjglcplhaaDoor
