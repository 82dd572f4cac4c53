/- Texts of this claim in one file: libraries and walks. -/
import Derived.Deep.MidRow
import Derived.Deep.RegionHeld3
import Derived.RegionTactic
import Derived.Test.YtkolebjpeaigcaaDoorL2
import Derived.Test.YtkolebjpeaigcaaDoorL6
import Derived.Test.YtkolebjpeaigcaaDoorL7
import Derived.Test.YtkolebjpeaigcaaDoorL9
/- Sets of yarns: plain Lean for charts.Yarns and for the law ChartsCheck. -/
namespace Go.Proofs.YtkolebjpeaigcaaDoor
set_option linter.unusedVariables false
set_option linter.unusedSimpArgs false
set_option maxRecDepth 8000
open Go Go.RowKit

/-- The set f with y put in; how many of the first n numbers lie in f; the numbers below n that lie in f, in order. -/
def yadd (f : Nat → Bool) (y : Nat) : Nat → Bool := fun i => f i || decide (i = y)
def ycnt (f : Nat → Bool) (n : Nat) : Nat := ((List.range n).filter f).length
def ylst (f : Nat → Bool) (n : Nat) : List Int := ((List.range n).filter f).map Int.ofNat
theorem ylst_len (f : Nat → Bool) (n : Nat) : (ylst f n).length = ycnt f n := by unfold ylst ycnt; rw [List.length_map]
theorem ycnt_succ (f : Nat → Bool) (n : Nat) : ycnt f (n + 1) = ycnt f n + if f n then 1 else 0 := by
  unfold ycnt
  rw [List.range_succ, List.filter_append, List.length_append]
  by_cases h : f n
  · rw [if_pos h, List.filter_cons_of_pos h]; rfl
  · rw [if_neg h, List.filter_cons_of_neg h]; rfl
theorem ylst_succ (f : Nat → Bool) (n : Nat) : ylst f (n + 1) = ylst f n ++ if f n then [(n : Int)] else [] := by
  unfold ylst
  rw [List.range_succ, List.filter_append, List.map_append]
  by_cases h : f n
  · rw [if_pos h, List.filter_cons_of_pos h]; rfl
  · rw [if_neg h, List.filter_cons_of_neg h]; rfl
theorem ycnt_le (f : Nat → Bool) : ∀ n, ycnt f n ≤ n
  | 0 => Nat.le_refl _
  | n + 1 => by rw [ycnt_succ]; have := ycnt_le f n; split <;> omega
theorem yadd_old {f : Nat → Bool} {y : Nat} (h : f y = true) : yadd f y = f := by
  funext i
  unfold yadd
  by_cases e : i = y
  · subst e; rw [h]; rfl
  · rw [decide_eq_false e, Bool.or_false]
theorem ycnt_add {f : Nat → Bool} {y : Nat} (h : f y = false) : ∀ n, ycnt (yadd f y) n = ycnt f n + if y < n then 1 else 0
  | 0 => rfl
  | n + 1 => by
    rw [ycnt_succ, ycnt_succ, ycnt_add h n]
    by_cases e : n = y
    · subst e
      have : yadd f n n = true := by unfold yadd; rw [decide_eq_true rfl, Bool.or_true]
      rw [this, h, if_neg (Nat.lt_irrefl n), if_pos (Nat.lt_succ_self n)]; simp
    · have : yadd f y n = f n := by unfold yadd; rw [decide_eq_false e, Bool.or_false]
      rw [this]
      by_cases hl : y < n
      · rw [if_pos hl, if_pos (show y < n + 1 by omega)]; omega
      · rw [if_neg hl, if_neg (show ¬ y < n + 1 by omega)]; omega
/-- The set behind the first j stitches of a row; behind the first k rows. -/
def yrow (l : List St) (f : Nat → Bool) : Nat → Nat → Bool
  | 0 => f
  | j + 1 => yadd (yrow l f j) (si l j).y.toNat
def yset (rows : List (List St)) : Nat → Nat → Bool
  | 0 => fun _ => false
  | k + 1 => yrow (sw rows k) (yset rows k) (sw rows k).length
theorem ylst_mem {f : Nat → Bool} {n : Nat} {x : Int} (h : x ∈ ylst f n) : 0 ≤ x ∧ x < n ∧ f x.toNat = true := by
  unfold ylst at h
  obtain ⟨i, hi, rfl⟩ := List.mem_map.1 h
  obtain ⟨h1, h2⟩ := List.mem_filter.1 hi
  have := List.mem_range.1 h1
  exact ⟨Int.natCast_nonneg i, by show (i : Int) < n; omega, h2⟩
/-- The list is in order. -/
theorem ylst_inc (f : Nat → Bool) : ∀ n i, i + 1 < (ylst f n).length → gi (ylst f n) i < gi (ylst f n) (i + 1)
  | 0, i, h => by simp [ylst] at h
  | n + 1, i, h => by
    have ih := ylst_inc f n
    rw [ylst_succ] at h ⊢
    by_cases hf : f n
    · rw [if_pos hf] at h ⊢
      rw [List.length_append, List.length_singleton] at h
      have hg : ∀ j, j < (ylst f n).length → gi (ylst f n ++ [(n : Int)]) j = gi (ylst f n) j := fun j hj => by
        unfold gi; simp [List.getD, List.getElem?_append_left hj]
      rw [hg i (by omega)]
      by_cases e : i + 1 < (ylst f n).length
      · rw [hg (i + 1) e]; exact ih i e
      · have e2 : i + 1 = (ylst f n).length := by omega
        have hl : gi (ylst f n ++ [(n : Int)]) (i + 1) = n := by unfold gi; rw [e2]; simp [List.getD]
        rw [hl]
        exact (ylst_mem (gi_mem (by omega))).2.1
    · rw [if_neg hf, List.append_nil] at h ⊢
      exact ih i h
end Go.Proofs.YtkolebjpeaigcaaDoor
/- The array of the yarns. -/
namespace Go.Proofs.YtkolebjpeaigcaaDoor
set_option linter.unusedVariables false
set_option linter.unusedSimpArgs false
set_option maxRecDepth 8000
open Go Go.RowKit
theorem z58_eq : Tryd.zeroCells58 = Array.replicate 256 (.bool false) := by kernel_rfl
theorem z58_row (w : World) : (w.alloc (.cells Tryd.zeroCells58 58)).rowIs w.heap.size 58 256 (fun _ => .bool false) := by
  rw [z58_eq]
  have h := World.rowIs_alloc w (Array.replicate 256 (.bool false)) 58 (fun _ => .bool false) (fun i hi => by
    rw [Array.size_replicate] at hi
    simp [hi])
  rw [Array.size_replicate] at h
  exact h
end Go.Proofs.YtkolebjpeaigcaaDoor
/- charts.Yarns. -/
namespace Go.Proofs.YtkolebjpeaigcaaDoor
set_option linter.unusedVariables false
set_option linter.unusedSimpArgs false
set_option maxRecDepth 8000
open Go Go.RowKit

theorem eiU8' : EI Tryd.prog 59 5 (.int .u8 0) 1 := ⟨Tryd.underlying59, by kernel_rfl, rfl⟩
theorem und256 : Tryd.prog.underlying 58 = some (.array 256 4) := by kernel_rfl
/-- The array holds the set f. -/
def YI (w wr : World) (g : Nat) (f : Nat → Bool) : Prop := Ext w wr ∧ w.heap.size ≤ g ∧ ∃ h, wr.rowIs g 58 256 h ∧ ∀ i, i < 256 → h i = .bool (f i)
theorem YI.later {w wr w' : World} {g : Nat} {f : Nat → Bool} (h : YI w wr g f) (x : Ext wr w') : YI w w' g f := ⟨h.1.trans x, h.2.1, by obtain ⟨k, h1, h2⟩ := h.2.2; exact ⟨k, x.row h1, h2⟩⟩
theorem YI.cell {w wr : World} {g : Nat} {f : Nat → Bool} (h : YI w wr g f) {i : Nat} (hi : i < 256) : wr.cell? ⟨g, i, none⟩ = some (.bool (f i)) := by
  obtain ⟨k, h1, h2⟩ := h.2.2; rw [h1.cell hi, h2 i hi]
theorem YI.frozen {w wr : World} {g : Nat} {f : Nat → Bool} (h : YI w wr g f) (i : Nat) : wr.frozen? ⟨g, i, none⟩ = false := by
  obtain ⟨k, h1, h2⟩ := h.2.2; exact h1.frozen i
theorem YI.put {w wr : World} {g y : Nat} {f : Nat → Bool} (h : YI w wr g f) (hy : y < 256) : YI w (wr.setCell ⟨g, y, none⟩ (.bool true)) g (yadd f y) := by
  obtain ⟨k, h1, h2⟩ := h.2.2
  refine ⟨h.1.setCell h.2.1 _, h.2.1, _, h1.set y _, fun i hi => ?_⟩
  show (if i = y then _ else _) = _
  by_cases e : i = y
  · rw [if_pos e]; unfold yadd; rw [decide_eq_true e, Bool.or_true]
  · rw [if_neg e, h2 i hi]; unfold yadd; rw [decide_eq_false e, Bool.or_false]
theorem run_ix (cs : List Value) (f : Nat → Bool) (hc : ∀ i, i < 256 → cs[i]? = some (.bool (f i))) (k : Nat) (hk : k < 256) (w : World) :
    (Instr.index 58 (.agg cs.toArray) (.int .i64 (k : Int))).run Tryd.prog w = .ok (.bool (f k)) w := by
  have h1 : (0 : Int) ≤ k ∧ (k : Int) < ((256 : Nat) : Int) := by omega
  have h2 : cs.toArray[k]? = some (.bool (f k)) := by simpa using hc k hk
  have h3 : (sizeOf 4).run Tryd.prog w = .ok 1 w := by kernel_rfl
  have h4 : (part 4 cs.toArray k).run Tryd.prog w = .ok (.bool (f k)) w := by
    unfold part
    simp [go_sem]
    rw [hc k hk]; rfl
  simp only [Instr.index, asIntOf, Sem.run_bind, Sem.run_pure, Result.andThen_ok, run_underlying und256 w]
  rw [if_pos h1]
  simp only [Sem.run_bind, h3, Result.andThen_ok]
  rw [show ((k : Int).toNat * 1) = k by omega]
  exact h4

theorem own_base {w : World} {B B' n z : Nat} {e : TypeId} {v : Value} {xs : List Value} (h : w.ownsRow B e z v n xs) (hb : B' ≤ B) : w.ownsRow B' e z v n xs := by
  obtain ⟨h1, h2 | ⟨g, cap, cur, h3, h4, h5⟩⟩ := h
  · exact ⟨h1, .inl h2⟩
  · exact ⟨h1, .inr ⟨g, cap, cur, h3, Nat.le_trans hb h4, h5⟩⟩
theorem ycnt_mono (f : Nat → Bool) (a b : Nat) (h : a ≤ b) : ycnt f a ≤ ycnt f b := by
  induction b with
  | zero => rw [Nat.le_zero.1 h]; exact Nat.le_refl _
  | succ b ih =>
    by_cases e : a = b + 1
    · rw [e]; exact Nat.le_refl _
    · have := ih (by omega); rw [ycnt_succ]; omega
theorem yset_succ (rows : List (List St)) (k : Nat) : yset rows (k + 1) = yrow (sw rows k) (yset rows k) (sw rows k).length := rfl
theorem yrow_succ (l : List St) (f : Nat → Bool) (j : Nat) : yrow l f (j + 1) = yadd (yrow l f j) (si l j).y.toNat := rfl
set_option maxHeartbeats 4000000 in
theorem Yarns_calls (v : Value) (c : Nat) (rows : List (List St)) (w : World) (h : RR w v c rows) (hin : ∀ k, k < rows.length → ∀ i, i < (sw rows k).length → 0 ≤ (si (sw rows k) i).y ∧ (si (sw rows k) i).y ≤ 255) :
    Calls Tryd.prog 29 #[.agg #[v]] w (RetI .u8 w (ycnt (yset rows rows.length) 256) (ylst (yset rows rows.length) 256)) := by
  obtain ⟨ao, n, rfl, hn, hc, hcm, hat⟩ := h.open
  unfold maxLen at hcm
  obtain ⟨W, hW⟩ : ∃ W, W = w.alloc (.cells #[.slice ao n c] 27) := ⟨_, rfl⟩
  have xW : Ext w W := by rw [hW]; exact (Ext.refl w).alloc _
  have b0 : W.cell? ⟨w.heap.size, 0, none⟩ = some (.slice ao n c) := by rw [hW, World.cell?_alloc_at (hn := rfl)]; rfl
  obtain ⟨W2, hW2⟩ : ∃ W2, W2 = W.alloc (.cells Tryd.zeroCells58 58) := ⟨_, rfl⟩
  have xW2 : Ext W W2 := by rw [hW2]; exact (Ext.refl W).alloc _
  have b1 := xW2.cell b0
  have hg0 : W.heap.size = w.heap.size + 1 := by rw [hW]; simp
  have hY0 : YI w W2 (w.heap.size + 1) (yset rows 0) := ⟨xW.trans xW2, by omega, fun _ => .bool false, by rw [hW2, ← hg0]; exact z58_row W, fun i hi => rfl⟩
  have HA := Lib.hid hat; have HB1 := Lib.hid (fun w' (x : Ext W w') => x.cell b0); have XW2s := Lib.hid xW2; have HY0 := Lib.hid hY0
  have HIn := Lib.hid (fun k (hk : k < n) => hin k (by omega)); have Hn := Lib.hid hn
  have HW := Lib.hid hW; have HW2 := Lib.hid hW2
  have XW2 := Lib.hid xW
  have b2 := b1
  rw [hW2, hW] at b2
  have hyl := fun N => ylst_len (yset rows N) 256
  have hyc := ycnt_le
  rw [← hn]
  have HYL := Lib.hid hyl; have HYC := Lib.hid hyc
  clear hat h hY0 hin hn hW hW2 xW xW2 b0 b1 hyl hyc
  go_enter Tryd.func29, Tryd.ntmps29
  go_wp2
  rw [← HW.out, ← HW2.out]
  clear b2
  go_loopw [4, 6, 8, 15] (fun x _ _ i wr => ∃ k : Nat, k ≤ n ∧ i = .int .i64 k ∧ x = .int .i64 (ycnt (yset rows k) 256 : Nat) ∧ Hid (Ext W wr) ∧ Hid (YI w wr (w.heap.size + 1) (yset rows k))) (fun _ _ _ i _ => n - (intOf i).toNat)
  case atStart => exact ⟨0, Nat.zero_le _, rfl, rfl, XW2s, HY0⟩
  case round =>
    obtain ⟨k, hk, rfl, rfl, HX, HY⟩ := hrel
    by_cases hlt : k < n
    · obtain ⟨b, o, a, m, d, rfl, hc0, hr0⟩ := HA.out k hlt
      replace hc0 := (XW2.out.trans HX.out).cell hc0
      obtain ⟨a0, m0, e1, e2, e3, e4, e5⟩ := hr0.open
      simp only [Value.slice.injEq] at e1
      obtain ⟨rfl, rfl, _⟩ := e1
      have HR := Lib.hid e5; have Hm := Lib.hid e2
      unfold maxLen at e4
      have t0 : (k : Int) < (n : Int) := by omega
      have HIk := Lib.hid (fun i (hi : i < m) => HIn.out k hlt i (by omega))
      obtain ⟨F, hF⟩ : ∃ F, F = yset rows k := ⟨_, rfl⟩
      have hsc := yset_succ rows k
      obtain ⟨L, hL⟩ : ∃ L, L = sw rows k := ⟨_, rfl⟩
      rw [← hF, ← hL] at hsc
      rw [← hL] at HR Hm HIk
      rw [← hF] at HY ⊢
      have HSc := Lib.hid hsc; have HF := Lib.hid hF; have HL := Lib.hid hL
      have HB := HB1.out _ HX.out
      clear hr0 e5 e2 hsc hF hL
      go_wp2
      clear hc0 HB
      go_loopw [4, 8, 21] (fun x _ i wr => ∃ j : Nat, j ≤ m ∧ i = .int .i64 j ∧ x = .int .i64 (ycnt (yrow L F j) 256 : Nat) ∧ Hid (Ext W wr) ∧ Hid (YI w wr (w.heap.size + 1) (yrow L F j))) (fun _ _ i _ => m - (intOf i).toNat)
      case atStart => exact ⟨0, Nat.zero_le _, rfl, rfl, HX, HY⟩
      case round =>
        obtain ⟨j, hj, rfl, rfl, HX2, HY2⟩ := hrel
        by_cases hlt2 : j < m
        · obtain ⟨b', o', hbo, h5⟩ := HR.out j hlt2
          subst hbo
          obtain ⟨u0, u1, u2, u3, u4⟩ := h5.ext (XW2.out.trans HX2.out)
          have hyb := HIk.out j hlt2
          have hst := yrow_succ L F j
          obtain ⟨G, hG⟩ : ∃ G, G = yrow L F j := ⟨_, rfl⟩
          rw [← hG] at HY2 hst ⊢
          obtain ⟨S, hS⟩ : ∃ S, S = si L j := ⟨_, rfl⟩
          rw [← hS] at u0 u1 u2 u3 u4 hst hyb
          obtain ⟨sk, sy, sa, sb', sf⟩ := S
          simp only [] at u0 u1 u2 u3 u4 hst hyb
          have q1 : sy < 256 := by omega
          have q2 := hyb.1
          have q3 : (j : Int) < (m : Int) := by omega
          obtain ⟨W3, hW3⟩ : ∃ W3, W3 = wr.alloc (.cells #[.int .u8 sk, .int .u8 sy, .int .i64 sa, .int .i64 sb', .bool sf] 33) := ⟨_, rfl⟩
          have x3 : Ext wr W3 := by rw [hW3]; exact (Ext.refl wr).alloc _
          have HY3 := Lib.hid (HY2.out.later x3); have HX3 := Lib.hid (HX2.out.trans x3)
          have y1 := HY3.out.cell (i := sy.toNat) (by omega)
          have y2 := HY3.out.frozen sy.toNat
          have HYp := Lib.hid (HY3.out.put (y := sy.toNat) (by omega))
          have HXp := Lib.hid (HX3.out.setCell (p := ⟨w.heap.size + 1, sy.toNat, none⟩) (by rw [HW.out]; simp) (.bool true))
          have hcl := HYC.out G 256
          have hca := ycnt_add (f := G) (y := sy.toNat)
          have hold := yadd_old (f := G) (y := sy.toNat)
          have HW3 := Lib.hid hW3
          rw [hW3] at y1 y2
          have HSt := Lib.hid hst
          clear hS hG hst hW3 x3 h5
          cases hGy : G sy.toNat
          · rw [hGy] at y1
            have hc2 := hca hGy 256
            rw [if_pos (by omega)] at hc2
            have HC := Lib.hid hc2
            have hwp : IntKind.i64.wrap ((ycnt G 256 : Nat) + 1 : Int) = (ycnt G 256 : Nat) + 1 := IntWalk.i64_in _ ⟨by omega, by omega⟩
            have HGy := Lib.hid hGy
            clear hca hold hc2 hGy
            generalize hN : ycnt G 256 = N at hcl hwp ⊢
            have HN := Lib.hid hN
            clear hN
            go_wp2
            rw [← HW3.out]
            go_roundw
            case rel => exact ⟨j + 1, by omega, by go_num, by rw [HSt.out, HC.out, HN.out]; congr 1, HXp, Lib.hid (by rw [HSt.out]; exact HYp.out)⟩
            case measure => simp [intOf]; omega
          · rw [hGy] at y1
            have ho := hold hGy
            have HO := Lib.hid ho
            clear hca hold ho hGy
            go_wp2
            rw [← HW3.out]
            go_roundw
            case rel => exact ⟨j + 1, by omega, by go_num, by rw [HSt.out, HO.out], HX3, Lib.hid (by rw [HSt.out, HO.out]; exact HY3.out)⟩
            case measure => simp [intOf]; omega
        · obtain rfl : m = j := by omega
          have HYn := Lib.hid (show YI w wr (w.heap.size + 1) (yset rows (k + 1)) by rw [HSc.out, ← Hm.out]; exact HY2.out)
          go_wp2
          go_roundw
          case rel => exact ⟨k + 1, by omega, by go_num, by rw [HSc.out, ← Hm.out], HX2, HYn⟩
          case measure => simp [intOf]; omega
    · obtain rfl : n = k := by omega
      have hyl := HYL.out n
      have hyc := HYC.out (yset rows n) 256
      obtain ⟨F, hF⟩ : ∃ F, F = yset rows n := ⟨_, rfl⟩
      rw [← hF] at HY hyl hyc ⊢
      obtain ⟨N, hN⟩ : ∃ N, N = ycnt F 256 := ⟨_, rfl⟩
      rw [← hN] at hyl hyc ⊢
      have hmk := run_make_cap (P := Tryd.prog) eiU8' .i64 .i64 N (by omega) (by omega) wr
      obtain ⟨W3, hW3⟩ : ∃ W3, W3 = wr.alloc (.cells (madeCells #[.int .u8 0] N) 5) := ⟨_, rfl⟩
      have x3 : Ext wr W3 := by rw [hW3]; exact (Ext.refl wr).alloc _
      have HY3 := HY.out.later x3
      have hra : W3.rangeAt (w.heap.size + 1) 0 ((List.range 256).map fun i => Value.bool (F i)) := fun j v hv => by
        rw [Nat.zero_add]
        by_cases hj : j < 256
        · rw [HY3.cell hj]
          simpa [List.getElem?_range hj] using hv
        · rw [List.getElem?_eq_none (by simp; omega)] at hv; cases hv
      have hcs : ∀ i, i < 256 → ((List.range 256).map fun i => Value.bool (F i))[i]? = some (.bool (F i)) := fun i hi => by simp [List.getElem?_range hi]
      have hlen : ((List.range 256).map fun i => Value.bool (F i)).length = 256 := by simp
      generalize ((List.range 256).map fun i => Value.bool (F i)) = cs at hra hcs hlen
      have hix := fun k (hk : k < 256) w' => run_ix cs F hcs k hk w'
      have hrow : W3.rowIs wr.heap.size 5 N (fun _ => .int .u8 0) := by rw [hW3]; exact World.rowIs_made wr (.int .u8 0) N _
      have hown := own_of_row hrow (Nat.zero_le N) (by unfold maxLen; omega)
      have HW3 := Lib.hid hW3; have HRa := Lib.hid hra; have HLen := Lib.hid hlen
      have HIx := Lib.hid hix; have HOwn := Lib.hid hown; have HYn := Lib.hid hyl; have HX3 := Lib.hid (XW2.out.trans (HX.out.trans x3)); have HF := Lib.hid hF; have HN := Lib.hid hN
      have hwg : w.heap.size ≤ wr.heap.size := (XW2.out.trans HX.out).size
      obtain ⟨A, hA⟩ : ∃ A, A = cs.toArray := ⟨_, rfl⟩
      rw [← hA] at HIx
      have HAr := Lib.hid hA
      clear hix hown hyl x3 hrow hra hcs HY3 HA hlt hk hF hN hlen hA hW3
      go_wp2
      rw [← HW3.out]
      refine wp_load_mid (P := Tryd.prog) 58 _ rfl (w.heap.size + 1) 0 rfl cs _ HRa.out und256 rfl (by rw [HLen.out]; kernel_rfl) ?_
      rw [← HAr.out]
      go_wp2
      clear HRa HAr HLen
      have HOwn2 := Lib.hid (show W3.ownsRow w.heap.size 5 1 (.slice (some ⟨wr.heap.size, 0, none⟩) 0 N) 0 [] from own_base HOwn.out hwg)
      have hmn := ycnt_mono F
      have HMn := Lib.hid hmn
      obtain ⟨g, hg⟩ : ∃ g, g = wr.heap.size := ⟨_, rfl⟩
      rw [← hg] at HOwn2 hwg ⊢
      clear hmn hg
      go_loopw [9, 10, 11, 40] (fun l _ _ i wr => ∃ k : Nat, k ≤ 256 ∧ i = .int .i64 k ∧ l = .slice (some ⟨g, 0, none⟩) (ylst F k).length N ∧ Hid (wr.ownsRow w.heap.size 5 1 (.slice (some ⟨g, 0, none⟩) (ylst F k).length N) (ylst F k).length ((ylst F k).map (Value.int .u8)) ∧ Ext w wr)) (fun _ _ _ i _ => 256 - (intOf i).toNat)
      case atStart => exact ⟨0, Nat.zero_le _, rfl, rfl, Lib.hid ⟨HOwn2.out, HX3.out⟩⟩
      case round =>
        obtain ⟨k, hk, rfl, rfl, H⟩ := hrel
        by_cases hlt : k < 256
        · have t1 : (k : Int) < 256 := by omega
          have hix := HIx.out k hlt
          have hs := ylst_succ F k
          have hle := ylst_len F k
          have hyk := ycnt_le F k
          have HLe := Lib.hid hle
          obtain ⟨J, hJ⟩ : ∃ J, J = (ylst F k).length := ⟨_, rfl⟩
          rw [← hJ] at hle ⊢
          rw [← hle] at hyk
          have hJ256 : J ≤ 256 := by omega
          have HJ := Lib.hid hJ
          have cv : IntKind.u8.wrap (k : Int) = (k : Int) := IntWalk.u8_in _ ⟨by omega, by omega⟩
          clear hle hyk hJ
          cases hF : F k
          · rw [hF] at hix hs
            have HS := Lib.hid (show ylst F (k + 1) = ylst F k by rw [hs]; simp)
            clear hs hF
            go_wp2
            go_roundw
            case rel => exact ⟨k + 1, by omega, by go_num, by rw [HS.out, HJ.out], Lib.hid (by rw [HS.out]; exact H.out)⟩
            case measure => simp [intOf]; omega
          · rw [hF] at hix hs
            have HS := Lib.hid (show ylst F (k + 1) = ylst F k ++ [(k : Int)] by rw [hs]; simp)
            have H4 := Lib.hid (show wr.ownsRow w.heap.size 5 1 (.slice (some ⟨g, 0, none⟩) J N) J ((ylst F k).map (Value.int .u8)) ∧ Ext w wr from by rw [HJ.out]; exact H.out)
            have hfit : J + 1 ≤ N := by
              have h1 := HMn.out (k + 1) 256 (by omega)
              rw [← ylst_len F (k + 1), HS.out, List.length_append, ← HJ.out, ← HN.out] at h1
              exact h1
            clear hs hF
            go_wp2_with (at_builtin; refine app_fits eiU8' rfl _ _ rfl w.heap.size g J N _ rfl (H4.out.1.alloc _) _ _ _ rfl (VS.one _ _ _) (one1 _) hfit ?d3 ?_)
            any_goals (first | omega | (simp; done) | (simp only [List.length_cons, List.length_nil]; omega) | (simp; omega) | (have := H4.out.2.size; simp; omega))
            intro w' hown hbel
            have HO := Lib.hid (show w'.ownsRow w.heap.size 5 1 (.slice (some ⟨g, 0, none⟩) (ylst F (k + 1)).length N) (ylst F (k + 1)).length ((ylst F (k + 1)).map (Value.int .u8)) ∧ Ext w w' from ⟨by rw [HS.out, List.map_append, List.length_append, ← HJ.out]; exact hown, Below.trans (H4.out.2.alloc _) hbel⟩)
            clear hown hbel
            go_wp2
            go_roundw
            case rel => exact ⟨k + 1, by omega, by go_num, by rw [HS.out, List.length_append, ← HJ.out]; rfl, HO⟩
            case measure => simp [intOf]; omega
        · obtain rfl : k = 256 := by omega
          have hI : IS .u8 wr (.slice (some ⟨g, 0, none⟩) (ylst F 256).length N) N (ylst F 256) := by
            have hN : (ylst F 256).length = N := HYn.out
            by_cases h0 : N = 0
            · rw [List.eq_nil_of_length_eq_zero (show (ylst F 256).length = 0 by omega), h0]; exact IS.empty _
            · obtain ⟨g', cap, f, e1, e2, e3, e4, e5, e6, e7⟩ := own_open H.out.1 (by omega)
              simp only [Value.slice.injEq, Option.some.injEq, Addr.mk.injEq] at e1
              obtain ⟨⟨rfl, _⟩, _, rfl⟩ := e1
              refine IS.mk rfl e4 e5 (fun i hi => ?_)
              rw [Nat.zero_add, e6.cell (by omega)]
              exact congrArg some (e7 i _ (by rw [List.getElem?_map, gi_some hi]; rfl))
          have HFin := Lib.hid (show RetI .u8 w (ycnt (yset rows n) 256) (ylst (yset rows n) 256) (.returned _) wr from ⟨_, rfl, by rw [← HF.out, ← HN.out]; exact hI, H.out.2, NN.mk⟩)
          clear hI
          go_wp2
          go_ret
          exact HFin.out
end Go.Proofs.YtkolebjpeaigcaaDoor
/- Mirror images of stitches and of charts. -/
namespace Go.Proofs.YtkolebjpeaigcaaDoor
set_option linter.unusedVariables false
set_option linter.unusedSimpArgs false
set_option maxRecDepth 8000
open Go Go.RowKit

def St.mir (s : St) : St := if s.k = 8 then ⟨s.k, s.y, s.b, s.a, !s.f⟩ else s
theorem B5c {w : World} {b : Nat} {s : St} {t : TypeId} (h : B5 w b s t) : w.cell? ⟨b, 0, none⟩ = some (.int .u8 s.k) ∧ w.cell? ⟨b, 1, none⟩ = some (.int .u8 s.y) ∧ w.cell? ⟨b, 2, none⟩ = some (.int .i64 s.a) ∧ w.cell? ⟨b, 3, none⟩ = some (.int .i64 s.b) ∧ w.cell? ⟨b, 4, none⟩ = some (.bool s.f) := by
  obtain ⟨c0, c1, c2, c3, c4⟩ := h.at
  simp only [Nat.zero_add] at c1 c2 c3 c4
  exact ⟨c0, c1, c2, c3, c4⟩
set_option maxHeartbeats 1000000 in
theorem SMirror_calls (s : St) (w : World) : Calls Tryd.prog 31 #[s.val] w fun e w' => e = .returned s.mir.val ∧ Ext w w' := by
  obtain ⟨k, y, a, b, f⟩ := s
  by_cases hk : k = 8
  · have hm : St.mir ⟨k, y, a, b, f⟩ = ⟨8, y, b, a, !f⟩ := by unfold St.mir; rw [if_pos hk, hk]
    rw [hm]
    subst hk
    unfold St.val
    clear hm
    go_enter Tryd.func31, Tryd.ntmps31
    go_wp2
    exact bodyPost_ret (v := .agg #[.int .u8 8, .int .u8 y, .int .i64 b, .int .i64 a, .bool !f]) (by simp [results, Tryd.results31, go_sem]) rfl ⟨rfl, ((Ext.refl w).alloc _).alloc _⟩
  · have hm : St.mir ⟨k, y, a, b, f⟩ = ⟨k, y, a, b, f⟩ := by unfold St.mir; rw [if_neg hk]
    rw [hm]
    have hk' : (k == 8) = false := beq_eq_false_iff_ne.2 hk
    unfold St.val
    clear hm hk
    go_enter Tryd.func31, Tryd.ntmps31
    go_wp2
    exact bodyPost_ret (v := .agg #[.int .u8 k, .int .u8 y, .int .i64 a, .int .i64 b, .bool f]) (by simp [results, Tryd.results31, go_sem]) rfl ⟨rfl, ((Ext.refl w).alloc _).alloc _⟩

/-- The mirror image of a row. -/
def mirR (l : List St) : List St := (l.map St.mir).reverse
def mirC (rows : List (List St)) : List (List St) := rows.map mirR
theorem mirR_len (l : List St) : (mirR l).length = l.length := by simp [mirR]
theorem mirC_len (rows : List (List St)) : (mirC rows).length = rows.length := by simp [mirC]
theorem mirC_sw {rows : List (List St)} {i : Nat} (h : i < rows.length) : sw (mirC rows) i = mirR (sw rows i) := by
  rw [sw_of_lt (by rw [mirC_len]; exact h), sw_of_lt h]; simp [mirC]
theorem mirR_si {l : List St} {i : Nat} (h : i < l.length) : si (mirR l) (l.length - 1 - i) = (si l i).mir := by
  rw [si_of_lt (by rw [mirR_len]; omega), si_of_lt h]
  unfold mirR
  rw [List.getElem_reverse]
  simp only [List.getElem_map, List.length_map]
  congr 2; omega
/-- The last j stitches of the image are laid. -/
def mrU (l : List St) (j : Nat) : List St := List.replicate (l.length - j) St.none ++ (mirR l).drop (l.length - j)
theorem mrU_len (l : List St) {j : Nat} (h : j ≤ l.length) : (mrU l j).length = l.length := by unfold mrU; simp [mirR_len]; try omega
theorem mrU_zero (l : List St) : mrU l 0 = List.replicate l.length St.none := by
  unfold mrU; rw [List.drop_eq_nil_of_le (by rw [mirR_len]; omega)]; simp
theorem mrU_all (l : List St) : mrU l l.length = mirR l := by unfold mrU; simp
theorem mrU_set {l : List St} {j : Nat} (h : j < l.length) : (mrU l j).set (l.length - 1 - j) (si l j).mir = mrU l (j + 1) := by
  unfold mrU
  have hl := mirR_len l
  have e : l.length - j = (l.length - (j + 1)) + 1 := by omega
  have hd : (mirR l).drop (l.length - (j + 1)) = (si l j).mir :: (mirR l).drop (l.length - j) := by
    rw [List.drop_eq_getElem_cons (by omega), ← si_of_lt (by omega), show l.length - (j + 1) = l.length - 1 - j by omega, mirR_si h, show l.length - 1 - j + 1 = l.length - j by omega]
  rw [hd]
  rw [List.set_append_left _ _ (by simp; omega), e, List.replicate_succ', List.set_append_right _ _ (by simp; omega)]
  have e2 : l.length - 1 - j - (List.replicate (l.length - (j + 1)) St.none).length = 0 := by simp; omega
  rw [e2]
  simp
end Go.Proofs.YtkolebjpeaigcaaDoor
/- Mirror images of charts, in plain Lean: the same errors. -/
namespace Go.Proofs.YtkolebjpeaigcaaDoor
set_option linter.unusedVariables false
set_option linter.unusedSimpArgs false
set_option maxRecDepth 8000
open Go Go.RowKit

theorem mir_chk (s : St) : s.mir.chk = s.chk := by
  unfold St.mir
  split
  · rename_i h8
    unfold St.chk
    simp only [h8]
    by_cases h1 : (8 : Int) < 1 ∨ (8 : Int) < 8 ∨ s.y < 1 ∨ 6 < s.y
    · rw [if_pos h1, if_pos h1]
    · rw [if_neg h1, if_neg h1]
      simp only [ne_eq, not_true_eq_false, if_false]
      by_cases h2 : s.b < 1 ∨ 4 < s.b ∨ s.a < 1 ∨ 4 - s.b < s.a
      · rw [if_pos h2, if_pos (by omega)]
      · rw [if_neg h2, if_neg (by omega)]
  · rfl
theorem mir_k (s : St) : s.mir.k = s.k := by unfold St.mir; split <;> rfl
theorem mir_need (s : St) : s.mir.need = s.need := by
  unfold St.need
  rw [mir_chk, mir_k]
  unfold St.mir
  split
  · rfl
  · (repeat' split) <;> first | rfl | (simp only []; omega)
theorem mir_make (s : St) : s.mir.make = s.make := by
  unfold St.make
  rw [mir_chk, mir_k]
  unfold St.mir
  split
  · rfl
  · (repeat' split) <;> first | rfl | (simp only []; omega)
theorem mir_mir (s : St) : s.mir.mir = s := by
  obtain ⟨k, y, a, b, f⟩ := s
  unfold St.mir
  by_cases h : k = 8
  · simp [h]
  · simp [h]
theorem mirR_mirR (l : List St) : mirR (mirR l) = l := by
  unfold mirR
  rw [List.map_reverse, List.reverse_reverse, List.map_map]
  have : ∀ s ∈ l, (St.mir ∘ St.mir) s = id s := fun s _ => mir_mir s
  rw [List.map_congr_left this, List.map_id]
theorem mirC_mirC (l : List (List St)) : mirC (mirC l) = l := by
  unfold mirC
  rw [List.map_map]
  have : ∀ s ∈ l, (mirR ∘ mirR) s = id s := fun s _ => mirR_mirR s
  rw [List.map_congr_left this, List.map_id]
theorem mirR_cons (s : St) (l : List St) : mirR (s :: l) = mirR l ++ [s.mir] := by simp [mirR]
theorem rneed_app2 (a b : List St) : rneed (a ++ b) = rneed a + rneed b := by
  induction a with
  | nil => simp [rneed]
  | cons s a ih => rw [List.cons_append, rneed_cons, rneed_cons, ih]; omega
theorem rmake_app2 (a b : List St) : rmake (a ++ b) = rmake a + rmake b := by
  induction a with
  | nil => simp [rmake]
  | cons s a ih => rw [List.cons_append, rmake_cons, rmake_cons, ih]; omega
theorem mirR_need : ∀ l : List St, rneed (mirR l) = rneed l
  | [] => rfl
  | s :: l => by rw [mirR_cons, rneed_app2, mirR_need l, rneed_cons, rneed_cons, mir_need]; simp [rneed]; omega
theorem mirR_make : ∀ l : List St, rmake (mirR l) = rmake l
  | [] => rfl
  | s :: l => by rw [mirR_cons, rmake_app2, mirR_make l, rmake_cons, rmake_cons, mir_make]; simp [rmake]; omega
theorem mirR_any : ∀ l : List St, (mirR l).any (fun s => decide (s.chk ≠ 0)) = l.any (fun s => decide (s.chk ≠ 0)) := fun l => by
  unfold mirR
  rw [List.any_reverse, List.any_map]
  congr 1
  funext s
  simp only [Function.comp, mir_chk]
theorem mirR_rchk (l : List St) : rchk (mirR l) = rchk l := by
  unfold rchk
  rw [mirR_len, mirR_any, mirR_need, mirR_make]
theorem mirC_ferr : ∀ rows : List (List St), ferr (mirC rows) = ferr rows
  | [] => rfl
  | r :: rs => by
    have ih := mirC_ferr rs
    unfold mirC at ih ⊢
    rw [List.map_cons, ferr, ferr, mirR_rchk, ih]
theorem mirC_fit (rows : List (List St)) : fitB (mirC rows) = fitB rows := by
  rw [Bool.eq_iff_iff]
  unfold fitB
  rw [List.all_eq_true, List.all_eq_true, mirC_len]
  constructor
  · intro h i hi
    have hl := List.mem_range.1 hi
    have := h i hi
    rw [mirC_sw (by omega), mirC_sw (by omega), mirR_need, mirR_make] at this
    exact this
  · intro h i hi
    have hl := List.mem_range.1 hi
    have := h i hi
    rw [mirC_sw (by omega), mirC_sw (by omega), mirR_need, mirR_make]
    exact this
theorem mirC_cerr (rows : List (List St)) : cerr (mirC rows) = cerr rows := by
  unfold cerr
  rw [mirC_len, mirC_ferr, mirC_fit]

/-! ### Loops -/
def Vl (xs : List Int) : Prop := ∀ x ∈ xs, 1 ≤ x ∧ x ≤ 3
theorem Vl.gi {xs : List Int} (h : Vl xs) : ∀ i, i < xs.length → 1 ≤ gi xs i ∧ gi xs i ≤ 3 := fun i hi => h _ (gi_mem hi)
theorem lerr_vals {s : St} {xs : List Int} (hc : s.chk = 0) (hl : (xs.length : Int) = s.need) (hv : Vl xs) : s.lerr xs = 0 ∨ s.lerr xs = 9 := by
  rw [lerr_in hc hl hv.gi]
  (repeat' split) <;> simp
theorem need45 {s : St} (hc : s.chk = 0) (h : s.k = 4 ∨ s.k = 5) : s.need = 2 := by unfold St.need; rw [if_neg (by omega), if_neg (by omega), if_pos h]
theorem need67 {s : St} (hc : s.chk = 0) (h : s.k = 6 ∨ s.k = 7) : s.need = 1 := by unfold St.need; rw [if_neg (by omega), if_neg (by omega), if_neg (by omega), if_neg (by omega)]
theorem two_of {xs : List Int} (h : xs.length = 2) : ∃ x y, xs = [x, y] := by
  match xs, h with
  | [x, y], _ => exact ⟨x, y, rfl⟩
theorem one_of {xs : List Int} (h : xs.length = 1) : ∃ x, xs = [x] := by
  match xs, h with
  | [x], _ => exact ⟨x, rfl⟩
theorem lerr_mir {s : St} {xs : List Int} (hc : s.chk = 0) (hl : (xs.length : Int) = s.need) (hv : Vl xs) : s.mir.lerr xs.reverse = s.lerr xs := by
  have hv' : Vl xs.reverse := fun x hx => hv x (by simpa using hx)
  rw [lerr_in hc hl hv.gi, lerr_in (by rw [mir_chk]; exact hc) (by rw [List.length_reverse, mir_need]; exact hl) hv'.gi, mir_k]
  by_cases h4 : s.k = 4 ∨ s.k = 5
  · rw [if_pos h4, if_pos h4]
    obtain ⟨x, y, rfl⟩ := two_of (xs := xs) (by have := need45 hc h4; omega)
    show (if 4 < y + x then (9 : Int) else 0) = if 4 < x + y then 9 else 0
    rw [Int.add_comm]
  · rw [if_neg h4, if_neg h4]
    by_cases h6 : s.k = 6
    · obtain ⟨x, rfl⟩ := one_of (xs := xs) (by have := need67 hc (.inl h6); omega)
      rfl
    · rw [if_neg (fun h => h6 h.1), if_neg (fun h => h6 h.1)]
theorem lmade_mir {s : St} {xs : List Int} (hc : s.chk = 0) (hl : (xs.length : Int) = s.need) (hv : Vl xs) : s.mir.lmade xs.reverse = (s.lmade xs).reverse := by
  unfold St.lmade
  rw [lerr_mir hc hl hv, mir_k, mir_make]
  by_cases he : s.lerr xs ≠ 0
  · rw [if_pos he, if_pos he]; rfl
  · rw [if_neg he, if_neg he]
    by_cases h6 : s.k = 6
    · rw [if_pos h6, if_pos h6]
      obtain ⟨x, rfl⟩ := one_of (xs := xs) (by have := need67 hc (.inl h6); omega)
      rfl
    · rw [if_neg h6, if_neg h6]
      by_cases h7 : s.k = 7
      · rw [if_pos h7, if_pos h7]
        obtain ⟨x, rfl⟩ := one_of (xs := xs) (by have := need67 hc (.inr h7); omega)
        rfl
      · rw [if_neg h7, if_neg h7, List.reverse_replicate]
theorem lmade_val {s : St} {xs : List Int} (hc : s.chk = 0) (hl : (xs.length : Int) = s.need) (hv : Vl xs) : Vl (s.lmade xs) := by
  have hin := lerr_in hc hl hv.gi
  unfold St.lmade
  by_cases he : s.lerr xs ≠ 0
  · rw [if_pos he]; intro x hx; cases hx
  · rw [if_neg he]
    by_cases h6 : s.k = 6
    · rw [if_pos h6]
      rw [if_neg (by omega)] at hin
      have hg := hv.gi 0 (by have := need67 hc (.inl h6); omega)
      by_cases h3 : gi xs 0 = 3
      · rw [if_pos ⟨h6, h3⟩] at hin; omega
      · intro x hx
        rw [List.mem_singleton.1 hx]; omega
    · rw [if_neg h6]
      by_cases h7 : s.k = 7
      · rw [if_pos h7]
        have hg := hv.gi 0 (by have := need67 hc (.inr h7); omega)
        intro x hx
        rw [List.mem_singleton.1 hx]; omega
      · rw [if_neg h7]
        intro x hx
        rw [List.eq_of_mem_replicate hx]; omega
/-- The loops behind a row, if it can be worked. -/
def lo : List St → List Int → Option (List Int)
  | [], _ => some []
  | s :: r, bf => if s.lerr (bf.take s.need.toNat) ≠ 0 then none else (lo r (bf.drop s.need.toNat)).map (s.lmade (bf.take s.need.toNat) ++ ·)
theorem take_app {b1 b2 : List Int} {n : Nat} (h : b1.length = n) : (b1 ++ b2).take n = b1 ∧ (b1 ++ b2).drop n = b2 := by
  subst h; simp
theorem lo_app : ∀ (r1 r2 : List St) (b1 b2 : List Int), (b1.length : Int) = rneed r1 → lo (r1 ++ r2) (b1 ++ b2) = (lo r1 b1).bind fun o1 => (lo r2 b2).map (o1 ++ ·)
  | [], r2, b1, b2, h => by
    have h0 : b1 = [] := List.eq_nil_of_length_eq_zero (by have : rneed [] = 0 := rfl; omega)
    subst h0
    simp only [List.nil_append, lo, Option.bind_some]
    cases lo r2 b2 <;> simp
  | s :: r1, r2, b1, b2, h => by
    rw [rneed_cons] at h
    have hn := St.need_bd s
    have hr := (rneed_bd r1).1
    have ht : (b1 ++ b2).take s.need.toNat = b1.take s.need.toNat := List.take_append_of_le_length (by omega)
    have hd : (b1 ++ b2).drop s.need.toNat = b1.drop s.need.toNat ++ b2 := List.drop_append_of_le_length (by omega)
    rw [List.cons_append, lo, lo, ht, hd]
    by_cases he : s.lerr (b1.take s.need.toNat) ≠ 0
    · rw [if_pos he, if_pos he]; rfl
    · rw [if_neg he, if_neg he, lo_app r1 r2 (b1.drop s.need.toNat) b2 (by rw [List.length_drop]; omega)]
      cases lo r1 (b1.drop s.need.toNat) with
      | none => rfl
      | some o1 =>
        cases lo r2 b2 with
        | none => rfl
        | some o2 => simp
theorem Vl.take {xs : List Int} (h : Vl xs) (n : Nat) : Vl (xs.take n) := fun x hx => h x (List.mem_of_mem_take hx)
theorem Vl.drop {xs : List Int} (h : Vl xs) (n : Nat) : Vl (xs.drop n) := fun x hx => h x (List.mem_of_mem_drop hx)
theorem lo_mir : ∀ (r : List St) (bf : List Int), (∀ s ∈ r, s.chk = 0) → (bf.length : Int) = rneed r → Vl bf → lo (mirR r) bf.reverse = (lo r bf).map List.reverse
  | [], bf, _, _, _ => rfl
  | s :: r, bf, hc, hl, hv => by
    rw [rneed_cons] at hl
    have hn := St.need_bd s
    have hr := (rneed_bd r).1
    have hcs := hc s (by simp)
    obtain ⟨b1, hb1⟩ : ∃ b1, b1 = bf.take s.need.toNat := ⟨_, rfl⟩
    obtain ⟨b2, hb2⟩ : ∃ b2, b2 = bf.drop s.need.toNat := ⟨_, rfl⟩
    have hbf : bf = b1 ++ b2 := by rw [hb1, hb2, List.take_append_drop]
    have hl1 : (b1.length : Int) = s.need := by rw [hb1, List.length_take]; omega
    have hl2 : (b2.length : Int) = rneed r := by rw [hb2, List.length_drop]; omega
    have hv1 : Vl b1 := by rw [hb1]; exact hv.take _
    have hv2 : Vl b2 := by rw [hb2]; exact hv.drop _
    have ih := lo_mir r b2 (fun x hx => hc x (by simp [hx])) hl2 hv2
    have hone : lo [s.mir] b1.reverse = if s.lerr b1 ≠ 0 then none else some (s.lmade b1).reverse := by
      have ht : b1.reverse.take s.mir.need.toNat = b1.reverse := List.take_of_length_le (by rw [List.length_reverse, mir_need]; omega)
      rw [lo, ht, lerr_mir hcs hl1 hv1, lmade_mir hcs hl1 hv1]
      by_cases he : s.lerr b1 ≠ 0
      · rw [if_pos he, if_pos he]
      · rw [if_neg he, if_neg he, lo]; simp
    rw [mirR_cons, hbf, List.reverse_append, lo_app _ _ _ _ (by rw [List.length_reverse, mirR_need]; exact hl2), ih, hone, lo]
    obtain ⟨ht, hd⟩ := take_app (b1 := b1) (b2 := b2) (n := s.need.toNat) (by omega)
    rw [ht, hd]
    by_cases he : s.lerr b1 ≠ 0
    · rw [if_pos he, if_pos he]; cases lo r b2 <;> rfl
    · rw [if_neg he, if_neg he]
      cases lo r b2 with
      | none => rfl
      | some o => simp
theorem lo_some : ∀ (r : List St) (bf o : List Int), (∀ s ∈ r, s.chk = 0) → (bf.length : Int) = rneed r → Vl bf → lo r bf = some o → Vl o ∧ (o.length : Int) = rmake r
  | [], bf, o, _, _, _, h => by
    rw [lo] at h
    obtain rfl := Option.some.inj h
    exact ⟨fun x hx => by (cases hx), rfl⟩
  | s :: r, bf, o, hc, hl, hv, h => by
    rw [rneed_cons] at hl
    have hn := St.need_bd s
    have hm := St.make_bd s
    have hr := (rneed_bd r).1
    have hcs := hc s (by simp)
    have hl1 : ((bf.take s.need.toNat).length : Int) = s.need := by rw [List.length_take]; omega
    rw [lo] at h
    by_cases he : s.lerr (bf.take s.need.toNat) ≠ 0
    · rw [if_pos he] at h; cases h
    · rw [if_neg he] at h
      obtain ⟨o2, ho2, rfl⟩ := Option.map_eq_some_iff.1 h
      obtain ⟨i1, i2⟩ := lo_some r _ o2 (fun x hx => hc x (by simp [hx])) (by rw [List.length_drop]; omega) (hv.drop _) ho2
      have hml := lmade_len (s := s) (xs := bf.take s.need.toNat) (by omega)
      refine ⟨fun x hx => ?_, by rw [List.length_append, rmake_cons]; omega⟩
      rcases List.mem_append.1 hx with hx | hx
      · exact lmade_val hcs hl1 (hv.take _) x hx
      · exact i1 x hx
theorem ldRow_lo : ∀ (r : List St) (bf acc : List Int), (∀ s ∈ r, s.chk = 0) → (bf.length : Int) = rneed r → Vl bf → ldRow r bf acc = match lo r bf with | some o => (0, acc ++ o) | none => (9, [])
  | [], bf, acc, _, _, _ => by rw [ldRow, lo]; simp
  | s :: r, bf, acc, hc, hl, hv => by
    rw [rneed_cons] at hl
    have hn := St.need_bd s
    have hr := (rneed_bd r).1
    have hcs := hc s (by simp)
    have hl1 : ((bf.take s.need.toNat).length : Int) = s.need := by rw [List.length_take]; omega
    have hev := lerr_vals hcs hl1 (hv.take _)
    rw [ldRow, lo]
    by_cases he : s.lerr (bf.take s.need.toNat) ≠ 0
    · rw [if_pos he, if_pos he]
      have : s.lerr (bf.take s.need.toNat) = 9 := by omega
      rw [this]
    · rw [if_neg he, if_neg he, ldRow_lo r _ _ (fun x hx => hc x (by simp [hx])) (by rw [List.length_drop]; omega) (hv.drop _)]
      cases lo r (bf.drop s.need.toNat) <;> simp
/-- Whether the rows can be worked one behind the other. -/
def lr : List (List St) → List Int → Bool
  | [], _ => true
  | r :: rs, bf => match lo r bf with
    | none => false
    | some o => lr rs o
/-- The rows fit on one another. -/
def FT : List (List St) → Nat → Prop
  | [], _ => True
  | r :: rs, n => (n : Int) = rneed r ∧ (∀ s ∈ r, s.chk = 0) ∧ FT rs (rmake r).toNat
theorem lr_mir : ∀ (rs : List (List St)) (bf : List Int), FT rs bf.length → Vl bf → lr (mirC rs) bf.reverse = lr rs bf
  | [], _, _, _ => rfl
  | r :: rs, bf, ⟨h1, h2, h3⟩, hv => by
    have hm : mirC (r :: rs) = mirR r :: mirC rs := rfl
    rw [hm, lr, lr, lo_mir r bf h2 h1 hv]
    cases ho : lo r bf with
    | none => rfl
    | some o =>
      obtain ⟨i1, i2⟩ := lo_some r bf o h2 h1 hv ho
      exact lr_mir rs o (by rw [show o.length = (rmake r).toNat by omega]; exact h3) i1
theorem ldRows_lr : ∀ (rs : List (List St)) (bf : List Int) (acc : List (List Int)), FT rs bf.length → Vl bf → (ldRows rs bf acc).1 = if lr rs bf then 0 else 9
  | [], _, _, _, _ => rfl
  | r :: rs, bf, acc, ⟨h1, h2, h3⟩, hv => by
    rw [ldRows, lr, ldRow_lo r bf [] h2 h1 hv]
    cases ho : lo r bf with
    | none => simp
    | some o =>
      obtain ⟨i1, i2⟩ := lo_some r bf o h2 h1 hv ho
      simp only [ne_eq, not_true_eq_false, if_false, List.nil_append]
      exact ldRows_lr rs o _ (by rw [show o.length = (rmake r).toNat by omega]; exact h3) i1
theorem FT_of {rows : List (List St)} (h : cerr rows = 0) : ∀ (d k n : Nat), rows.length - k = d → (k < rows.length → (n : Int) = rneed (sw rows k)) → FT (rows.drop k) n
  | 0, k, n, hd, _ => by rw [List.drop_eq_nil_of_le (by omega)]; exact trivial
  | d + 1, k, n, hd, hn => by
    obtain ⟨r1, r2, r3, r4⟩ := cerr_zero h
    rw [drop_sw (show k < rows.length by omega)]
    have hz := rchk_zero (r3 k (by omega))
    refine ⟨hn (by omega), fun s hs => ?_, FT_of h d (k + 1) _ (by omega) (fun hk => ?_)⟩
    · obtain ⟨i, hi, rfl⟩ := List.mem_iff_getElem.1 hs
      have := hz.2.2.1 i hi
      rwa [si_of_lt hi] at this
    · rw [r4 k hk]
      have := hz.2.2.2.2.2.1
      omega
theorem first_val (rows : List (List St)) : Vl (first rows) := fun x hx => by
  unfold first at hx
  rw [List.eq_of_mem_replicate hx]; omega
/-- The error of a chart without an error of its rows. -/
theorem cloads_lr {rows : List (List St)} (h : cerr rows = 0) : (cloads rows).1 = if lr rows (first rows) then 0 else 9 := by
  have hc := h
  unfold cloads
  rw [if_neg (by omega)]
  have hl : (first rows).length = (rneed (sw rows 0)).toNat := by unfold first; simp
  have hn := (rneed_bd (sw rows 0)).1
  exact ldRows_lr rows _ _ (by rw [hl]; exact FT_of h rows.length 0 _ (by omega) (fun _ => by omega)) (first_val rows)
theorem cloads_mir {rows : List (List St)} (h : cerr rows = 0) : (cloads (mirC rows)).1 = (cloads rows).1 := by
  have hm : cerr (mirC rows) = 0 := by rw [mirC_cerr]; exact h
  obtain ⟨r1, r2, r3, r4⟩ := cerr_zero h
  rw [cloads_lr h, cloads_lr hm]
  have hl : (first rows).length = (rneed (sw rows 0)).toNat := by unfold first; simp
  have hn := (rneed_bd (sw rows 0)).1
  have hf : first (mirC rows) = (first rows).reverse := by
    unfold first
    rw [mirC_sw (by omega), mirR_need, List.reverse_replicate]
  rw [hf, lr_mir rows (first rows) (by rw [hl]; exact FT_of h rows.length 0 _ (by omega) (fun _ => by omega)) (first_val rows)]
theorem mir_err (rows : List (List St)) : (cloads (mirC rows)).1 = (cloads rows).1 := by
  by_cases h : cerr rows = 0
  · exact cloads_mir h
  · unfold cloads
    rw [mirC_cerr, if_pos h, if_pos h]
end Go.Proofs.YtkolebjpeaigcaaDoor
/- How long the lists of loops are: plain Lean. -/
namespace Go.Proofs.YtkolebjpeaigcaaDoor
set_option linter.unusedVariables false
set_option linter.unusedSimpArgs false
set_option maxRecDepth 8000
open Go Go.RowKit

theorem ldRows_len : ∀ (rs : List (List St)) (bf : List Int) (acc : List (List Int)), FT rs bf.length → Vl bf → (ldRows rs bf acc).1 = 0 → (ldRows rs bf acc).2.map (fun l => (l.length : Int)) = acc.map (fun l => (l.length : Int)) ++ rs.map rmake
  | [], _, _, _, _, _ => by rw [ldRows]; simp
  | r :: rs, bf, acc, ⟨h1, h2, h3⟩, hv, h0 => by
    rw [ldRows, ldRow_lo r bf [] h2 h1 hv] at h0 ⊢
    cases ho : lo r bf with
    | none => rw [ho] at h0; simp at h0
    | some o =>
      obtain ⟨i1, i2⟩ := lo_some r bf o h2 h1 hv ho
      rw [ho] at h0
      simp only [ne_eq, not_true_eq_false, if_false, List.nil_append] at h0 ⊢
      rw [ldRows_len rs o _ (by rw [show o.length = (rmake r).toNat by omega]; exact h3) i1 h0]
      simp [i2]
theorem cloads_map {rows : List (List St)} (h : (cloads rows).1 = 0) : (cloads rows).2.map (fun l => (l.length : Int)) = wds rows := by
  have hc : cerr rows = 0 := by
    by_cases e : cerr rows = 0
    · exact e
    · unfold cloads at h; rw [if_pos e] at h; exact absurd h e
  have hl : (first rows).length = (rneed (sw rows 0)).toNat := by unfold first; simp
  have hn := (rneed_bd (sw rows 0)).1
  unfold cloads at h ⊢
  rw [if_neg (by omega)] at h ⊢
  rw [ldRows_len rows _ _ (by rw [hl]; exact FT_of hc rows.length 0 _ (by omega) (fun _ => by omega)) (first_val rows) h]
  obtain ⟨_, r2, _⟩ := cerr_zero hc
  unfold wds
  rw [if_neg (fun e => by rw [e] at r2; simp at r2)]
  simp [hl]; omega
theorem ldRows_nil : ∀ (rs : List (List St)) (bf : List Int) (acc : List (List Int)), (ldRows rs bf acc).1 ≠ 0 → (ldRows rs bf acc).2 = []
  | [], _, _, h => by rw [ldRows] at h; simp at h
  | r :: rs, bf, acc, h => by
    rw [ldRows] at h ⊢
    by_cases e : (ldRow r bf []).1 ≠ 0
    · rw [if_pos e]
    · rw [if_neg e] at h ⊢; exact ldRows_nil rs _ _ h
theorem cloads_nil {rows : List (List St)} (h : (cloads rows).1 ≠ 0) : (cloads rows).2 = [] := by
  unfold cloads at h ⊢
  by_cases e : cerr rows ≠ 0
  · rw [if_pos e]
  · rw [if_neg e] at h ⊢; exact ldRows_nil _ _ _ h
/-- Each list is as long as the chart is wide there. -/
theorem cloads_at (rows : List (List St)) : ((cloads rows).2.length = (wds rows).length ∨ (cloads rows).2.length = 0) ∧ ∀ i, i < (cloads rows).2.length → ((ri (cloads rows).2 i).length : Int) = gi (wds rows) i := by
  by_cases h : (cloads rows).1 = 0
  · have hm := cloads_map h
    have hl := congrArg List.length hm
    rw [List.length_map] at hl
    refine ⟨.inl hl, fun i hi => ?_⟩
    rw [← hm, ri_of_lt hi, gi_of_lt (by simpa using hi)]
    simp
  · rw [cloads_nil h]; exact ⟨.inr rfl, fun i hi => by simp at hi⟩
end Go.Proofs.YtkolebjpeaigcaaDoor
/- ganseylaw13.small; the law ChartsSame, walked. -/
namespace Go.Proofs.YtkolebjpeaigcaaDoor
set_option linter.unusedVariables false
set_option linter.unusedSimpArgs false
set_option maxRecDepth 8000
open Go Go.RowKit

/-- 1 for a small chart. -/
def sml (rows : List (List St)) : Int := if 40 < rows.length then 0 else if rows.any (fun r => decide (40 < r.length)) then 0 else 1
theorem sml_long {rows : List (List St)} (h : 40 < rows.length) : sml rows = 0 := if_pos h
theorem sml_bad {rows : List (List St)} (h : rows.length ≤ 40) {k : Nat} (hk : k < rows.length) (hb : 40 < (sw rows k).length) : sml rows = 0 := by
  unfold sml
  rw [if_neg (by omega), if_pos]
  rw [List.any_eq_true]
  exact ⟨sw rows k, by rw [sw_of_lt hk]; exact List.getElem_mem hk, by simpa using hb⟩
theorem sml_ok {rows : List (List St)} (h : rows.length ≤ 40) (hg : ∀ k, k < rows.length → (sw rows k).length ≤ 40) : sml rows = 1 := by
  unfold sml
  rw [if_neg (by omega), if_neg]
  rw [List.any_eq_true]
  rintro ⟨r, hr, hb⟩
  obtain ⟨i, hi, rfl⟩ := List.mem_iff_getElem.1 hr
  have := hg i hi
  rw [sw_of_lt hi] at this
  simp at hb; omega
theorem sml_one {rows : List (List St)} (h : sml rows ≠ 0) : rows.length ≤ 40 ∧ ∀ k, k < rows.length → (sw rows k).length ≤ 40 := by
  by_cases h1 : 40 < rows.length
  · exact absurd (sml_long h1) h
  · refine ⟨by omega, fun k hk => ?_⟩
    by_cases h2 : 40 < (sw rows k).length
    · exact absurd (sml_bad (by omega) hk h2) h
    · omega
theorem sml_cases (rows : List (List St)) : sml rows = 0 ∨ sml rows = 1 := by unfold sml; (repeat' split) <;> simp

set_option maxHeartbeats 1000000 in
theorem small_calls (v : Value) (c : Nat) (rows : List (List St)) (w : World) (h : RR w v c rows) : Calls Tryd.prog 14 #[.agg #[v]] w fun e w' => e = .returned (.int .i64 (sml rows)) ∧ Ext w w' := by
  obtain ⟨ao, n, rfl, hn, hc, hcm, hat⟩ := h.open
  unfold maxLen at hcm
  obtain ⟨W, hW⟩ : ∃ W, W = w.alloc (.cells #[.slice ao n c] 27) := ⟨_, rfl⟩
  have xW : Ext w W := by rw [hW]; exact (Ext.refl w).alloc _
  have b0 : W.cell? ⟨w.heap.size, 0, none⟩ = some (.slice ao n c) := by rw [hW, World.cell?_alloc_at (hn := rfl)]; rfl
  have HBx := Lib.hid (fun w' (x : Ext W w') => x.cell b0); have XW := Lib.hid xW; have HA := Lib.hid hat; have HW := Lib.hid hW
  have hsl : 40 < n → sml rows = 0 := fun h => sml_long (by omega)
  have hsb : n ≤ 40 → ∀ k, k < n → 40 < (sw rows k).length → sml rows = 0 := fun h k hk hb => sml_bad (by omega) (by omega) hb
  have hsg : n ≤ 40 → (∀ k, k < n → (sw rows k).length ≤ 40) → sml rows = 1 := fun h hg => sml_ok (by omega) (fun k hk => hg k (by omega))
  generalize sml rows = S at *
  rw [hW] at b0
  by_cases h40 : 40 < n
  · have h40' : (40 : Int) < n := by omega
    have hS := hsl h40
    subst hS
    clear hat h hn hsl hsb hsg xW hW h40
    go_enter Tryd.func14, Tryd.ntmps14
    go_wp2
    rw [← HW.out]
    go_ret
    exact ⟨rfl, XW.out⟩
  have h40' : ¬ (40 : Int) < n := by omega
  have HSb := Lib.hid (hsb (by omega)); have HSg := Lib.hid (hsg (by omega))
  clear hat h hn hsl hsb hsg xW hW
  go_enter Tryd.func14, Tryd.ntmps14
  go_wp2
  rw [← HW.out]
  clear b0 HW
  go_loopw [3] (fun i wr => ∃ k : Nat, k ≤ n ∧ i = .int .i64 k ∧ Hid (Ext W wr) ∧ Hid (∀ i, i < k → (sw rows i).length ≤ 40)) (fun i _ => n - (intOf i).toNat)
  case atStart => exact ⟨0, Nat.zero_le _, rfl, Lib.hid (Ext.refl _), Lib.hid (fun i hi => by omega)⟩
  case round =>
    obtain ⟨k, hk, rfl, HX, HG⟩ := hrel
    have b1 := HBx.out _ HX.out
    by_cases hlt : k < n
    · obtain ⟨b, o, a, m, d, rfl, hc0, hr0⟩ := HA.out k hlt
      replace hc0 := (XW.out.trans HX.out).cell hc0
      obtain ⟨_, _, e1, e2, _⟩ := hr0.open
      simp only [Value.slice.injEq] at e1
      obtain ⟨rfl, rfl, _⟩ := e1
      have He2 := Lib.hid e2
      clear hr0 e2
      by_cases hm : 40 < m
      · have hm' : (40 : Int) < m := by omega
        have hS := HSb.out k hlt (by have := He2.out; omega)
        subst hS
        clear hm
        go_wp2
        go_ret
        exact ⟨rfl, XW.out.trans HX.out⟩
      · have hm' : ¬ (40 : Int) < m := by omega
        have HG2 := Lib.hid (show ∀ i, i < k + 1 → (sw rows i).length ≤ 40 from fun i hi => by
          by_cases e : i = k
          · rw [e]; have := He2.out; omega
          · exact HG.out i (by omega))
        clear hm
        go_wp2
        go_roundw
        case rel => exact ⟨k + 1, by omega, by go_num, HX, HG2⟩
        case measure => simp [intOf]; omega
    · obtain rfl : n = k := by omega
      have hS := HSg.out HG.out
      subst hS
      have hlt' : ¬ (n : Int) < (n : Int) := by omega
      go_wp2
      go_ret
      exact ⟨rfl, XW.out.trans HX.out⟩

set_option maxHeartbeats 4000000 in
theorem ChartsSame_walk (v1 v2 : Value) (c1 c2 : Nat) (l m : List (List St)) (w : World) (h1 : RR w v1 c1 l) (h2 : RR w v2 c2 m) (hy : Sy w) (hm : Mx w) :
    Calls Tryd.prog 6 #[.agg #[v1], .agg #[v2]] w fun e w' => e = .returned (.bool true) ∧ Ext w w' := by
  have k1 := fun w' (x : Ext w w') => small_calls v1 c1 l w' (h1.ext x)
  have k2 := fun w' (x : Ext w w') => small_calls v2 c2 m w' (h2.ext x)
  have k3 := fun w' (x : Ext w w') => CSame_calls v1 v2 c1 c2 l m w' (h1.ext x) (h2.ext x)
  have k4 := fun w' (x : Ext w w') => Differ_calls v1 v2 c1 c2 l m w' (h1.ext x) (h2.ext x)
  have k5 := fun w' (x : Ext w w') => CSame_calls v1 v1 c1 c1 l l w' (h1.ext x) (h1.ext x)
  have k6 := fun w' (x : Ext w w') => lives13_calls w' (hy.ext x) (hm.ext x)
  rw [decide_eq_true (rfl : l = l)] at k5
  obtain ⟨a1, n1, rfl, hn1⟩ := h1.open
  obtain ⟨a2, n2, rfl, hn2⟩ := h2.open
  clear hn1 hn2
  obtain ⟨W, hW⟩ : ∃ W, W = (w.alloc (.cells #[.slice a1 n1 c1] 27)).alloc (.cells #[.slice a2 n2 c2] 27) := ⟨_, rfl⟩
  have xW : Ext w W := by rw [hW]; exact ((Ext.refl w).alloc _).alloc _
  have b1 : W.heap[w.heap.size]? = some (.cells #[.slice a1 n1 c1] 27 (0, 0)) := by rw [hW]; exact blk_old (blk_at rfl)
  have b2 : W.heap[w.heap.size + 1]? = some (.cells #[.slice a2 n2 c2] 27 (0, 0)) := by rw [hW]; exact blk_at (by simp)
  have d1 : W.cell? ⟨w.heap.size, 0, none⟩ = some (.slice a1 n1 c1) := by simp [World.cell?, b1]
  have d2 : W.cell? ⟨w.heap.size + 1, 0, none⟩ = some (.slice a2 n2 c2) := by simp [World.cell?, b2]
  have HD1 := Lib.hid (fun w' (x : Ext W w') => x.cell d1); have HD2 := Lib.hid (fun w' (x : Ext W w') => x.cell d2)
  have XW := Lib.hid xW; have HW := Lib.hid hW
  have K1 := Lib.hid k1; have K2 := Lib.hid k2; have K5 := Lib.hid k5; have K6 := Lib.hid k6
  rw [hW] at d1 d2
  have hs1 := sml_cases l
  have hs2 := sml_cases m
  have hdm : (decide (l = m) = true ∧ dif l m = 0) ∨ (decide (l = m) = false ∧ dif l m = 1) := by
    by_cases e : l = m
    · exact .inl ⟨decide_eq_true e, if_pos e⟩
    · exact .inr ⟨decide_eq_false e, if_neg e⟩
  generalize sml l = S1 at *
  generalize sml m = S2 at *
  have K3 := Lib.hid k3; have K4 := Lib.hid k4
  clear k1 k2 k3 k4 k5 k6 h1 h2 hy hm xW hW b1 b2
  go_enter Tryd.func6, Tryd.ntmps6
  go_wp2_with fail
  rw [← HW.out]
  refine (K1.out _ XW.out).mono ?_
  rintro e w1 ⟨rfl, x1⟩
  have X1 := Lib.hid x1
  have e1 := HD1.out _ x1; have e2 := HD2.out _ x1
  clear x1 d1 d2 HW
  rcases hs1 with rfl | rfl
  · go_wp2
    go_ret
    exact ⟨rfl, XW.out.trans X1.out⟩
  · go_wp2_with fail
    refine (K2.out _ (XW.out.trans X1.out)).mono ?_
    rintro e w2 ⟨rfl, x2⟩
    have X2 := Lib.hid (X1.out.trans x2)
    have q0_1 := HD1.out _ X2.out; have q0_2 := HD2.out _ X2.out
    clear x2 e1 e2
    rcases hs2 with rfl | rfl
    · go_wp2
      go_ret
      exact ⟨rfl, XW.out.trans X2.out⟩
    · have XX := Lib.hid (XW.out.trans X2.out)
      rcases hdm with ⟨z1, z2⟩ | ⟨z1, z2⟩
      all_goals
        have K3b := K3.out; have K4b := K4.out
        rw [z1] at K3b
        rw [z2] at K4b
        have K3c := Lib.hid K3b; have K4c := Lib.hid K4b
        clear K3b K4b K3 K4 z1 z2
        go_wp2
        go_region_held3 (fun w' => w'.cell? ⟨w.heap.size, 0, Option.none⟩ = some (.slice a1 n1 c1) ∧ w'.cell? ⟨w.heap.size + 1, 0, Option.none⟩ = some (.slice a2 n2 c2)) (first | exact ⟨q0_1, q0_2⟩ | exact ⟨q1_1, q1_2⟩ | exact ⟨q2_1, q2_2⟩ | exact ⟨q3_1, q3_2⟩ | exact ⟨q4_1, q4_2⟩ | go_keep) (first
          | (go_at_call_of 26 (Value.slice a2 n2 c2); (refine (K3c.out _ ?_).mono ?_); (focus (refine Ext.trans XX.out ?_; (repeat (first | (with_reducible exact Ext.refl _) | (with_reducible apply Ext.drew) | (with_reducible apply Ext.drewN) | (with_reducible apply Ext.alloc))))); intro e wa hh; obtain ⟨rfl, x⟩ := hh; have Xa : Hid (Ext w2 wa) := Lib.hid (Ext.trans (by (repeat (first | (with_reducible exact Ext.refl _) | (with_reducible apply Ext.drew) | (with_reducible apply Ext.drewN) | (with_reducible apply Ext.alloc)))) x); have q1_1 := Xa.out.cell q0_1; have q1_2 := Xa.out.cell q0_2; clear x)
          | (go_at_call 18; (refine (K4c.out _ ?_).mono ?_); (focus (refine Ext.trans (XX.out.trans Xa.out) ?_; (repeat (first | (with_reducible exact Ext.refl _) | (with_reducible apply Ext.drew) | (with_reducible apply Ext.drewN) | (with_reducible apply Ext.alloc))))); intro e wb hh; obtain ⟨rfl, x⟩ := hh; have Xb : Hid (Ext w2 wb) := Lib.hid (Ext.trans Xa.out (Ext.trans (by (repeat (first | (with_reducible exact Ext.refl _) | (with_reducible apply Ext.drew) | (with_reducible apply Ext.drewN) | (with_reducible apply Ext.alloc)))) x)); have q2_1 := Xb.out.cell q0_1; have q2_2 := Xb.out.cell q0_2; clear x)
          | (go_at_call 26; (refine (K5.out _ ?_).mono ?_); (focus (refine Ext.trans (XX.out.trans Xb.out) ?_; (repeat (first | (with_reducible exact Ext.refl _) | (with_reducible apply Ext.drew) | (with_reducible apply Ext.drewN) | (with_reducible apply Ext.alloc))))); intro e wd hh; obtain ⟨rfl, x⟩ := hh; have Xd : Hid (Ext w2 wd) := Lib.hid (Ext.trans Xb.out (Ext.trans (by (repeat (first | (with_reducible exact Ext.refl _) | (with_reducible apply Ext.drew) | (with_reducible apply Ext.drewN) | (with_reducible apply Ext.alloc)))) x)); have q3_1 := Xd.out.cell q0_1; have q3_2 := Xd.out.cell q0_2; clear x)
          | (go_at_call 13; (refine (K6.out _ ?_).mono ?_); (focus (refine Ext.trans (XX.out.trans Xd.out) ?_; (repeat (first | (with_reducible exact Ext.refl _) | (with_reducible apply Ext.drew) | (with_reducible apply Ext.drewN) | (with_reducible apply Ext.alloc))))); intro e we hh; obtain ⟨rfl, x⟩ := hh; have Xe : Hid (Ext w2 we) := Lib.hid (Ext.trans Xd.out (Ext.trans (by (repeat (first | (with_reducible exact Ext.refl _) | (with_reducible apply Ext.drew) | (with_reducible apply Ext.drewN) | (with_reducible apply Ext.alloc)))) x)); have q4_1 := Xe.out.cell q0_1; have q4_2 := Xe.out.cell q0_2; clear x))
        go_wp2
        go_ret
        exact ⟨rfl, XX.out.trans Xe.out⟩
end Go.Proofs.YtkolebjpeaigcaaDoor
