/- Texts of this claim in one file: libraries and walks. -/
import Derived.Test.YtinijapkipeamaaDoorMKnown2
import Derived.Test.YtinijapkipeamaaDoorMKnown3
import Derived.Test.YtinijapkipeamaaDoorMKnown4
import Derived.Test.YtinijapkipeamaaDoorMKnown7
/- ganseyref19.Chart: the walk. -/
namespace Go.Proofs.YtinijapkipeamaaDoor
set_option linter.unusedVariables false
set_option linter.unusedSimpArgs false
set_option maxRecDepth 8000
open Go Go.RowKit

theorem World.alloc_le (w : World) (o : Obj) : w.heap.size ≤ (w.alloc o).heap.size := ((Ext.refl w).alloc o).size
theorem RO.lit2 {w : World} {g n : Nat} {l : List St} {arr : Array Value} (hg : g = w.heap.size) (ha : arr = (cells l).toArray) (hl : l.length ≤ 1000) (hn : n = l.length := by rfl) : RO (w.alloc (.cells arr 52)) g n l := by
  subst hg; subst hn; exact RO.lit ha hl
theorem own_extz {w w' : World} {B z : Nat} {e : TypeId} {v : Value} {n : Nat} {xs : List Value} (h : w.ownsRow B e z v n xs) (x : Ext w w') : w'.ownsRow B e z v n xs := by
  obtain ⟨h1, ⟨hv, h2⟩ | ⟨g, cap, cur, hv, hB, hb, h3⟩⟩ := h
  · exact ⟨h1, .inl ⟨hv, h2⟩⟩
  · exact ⟨h1, .inr ⟨g, cap, cur, hv, hB, x.block hb, h3⟩⟩
/-- The world with the plain stitch in a block. -/
def kW (w : World) (y : Int) : World := w.alloc (.cells #[.int .u8 1, .int .u8 y, .int .i64 0, .int .i64 0, .bool false] 52)
theorem kW_ext (w : World) (y : Int) : Ext w (kW w y) := (Ext.refl w).alloc _
theorem kW_size (w : World) (y : Int) : (kW w y).heap.size = w.heap.size + 1 := by unfold kW; simp
theorem blk_set1 {w : World} {b : Nat} {x u : Value} {t : TypeId} (h : w.heap[b]? = some (.cells #[x] t (0, 0))) : (w.setCell ⟨b, 0, none⟩ u).heap[b]? = some (.cells #[u] t (0, 0)) := by
  have hlt := lt_of_block h
  have h' : w.heap[b] = .cells #[x] t (0, 0) := by simpa [Array.getElem?_eq_getElem hlt] using h
  show (w.heap.modify b _)[b]? = _
  rw [Array.getElem?_eq_getElem (by simpa using hlt), Array.getElem_modify_self, h']
  rfl
/-- The reference's rows. -/
def rk (l : List Int) (y : Int) (k : Nat) : List (List St) := (List.range k).map fun i => refRow (gi l i).toNat i (gi l (i + 1) - gi l i) y
theorem rk_succ (l : List Int) (y : Int) (k : Nat) : rk l y (k + 1) = rk l y k ++ [refRow (gi l k).toNat k (gi l (k + 1) - gi l k) y] := by unfold rk; rw [List.range_succ]; simp
theorem rk_len (l : List Int) (y : Int) (k : Nat) : (rk l y k).length = k := by simp [rk]
theorem rk_all {l : List Int} (y : Int) (he : oerr l = 0) : rk l y (l.length - 1) = chartOf l y := by
  obtain ⟨h1, h2, h3, h4, h5⟩ := oerr_zero he
  unfold rk chartOf
  refine List.map_congr_left fun i hi => ?_
  have hi := List.mem_range.1 hi
  have a := h4 i (by omega); have b := h4 (i + 1) (by omega); have c := h5 i (by omega)
  exact refRow_eq c (by omega)
/-- What a round of the reference keeps. -/
def RKI (w wr : World) (l : List Int) (y : Int) (k : Nat) (va : Option Addr) (vn vc : Nat) : Prop :=
  wr.heap[w.heap.size]? = some (.cells #[.slice Option.none 0 0] 26 (0, 0)) ∧ wr.heap[w.heap.size + 1]? = some (.cells #[.slice va vn vc] 26 (0, 0)) ∧ CO w wr (.slice va vn vc) (rk l y k)

set_option maxHeartbeats 8000000 in
theorem RChart_calls (v : Value) (c : Nat) (l : List Int) (y : Int) (w : World) (h : IS .i64 w v c l) (he : oerr l = 0) : Calls Tryd.prog 21 #[v, .int .u8 y] w (RetCC w (chartOf l y)) := by
  obtain ⟨z1, z2, z3, z4, z5⟩ := oerr_zero he
  have hall := rk_all y he
  obtain ⟨ao, n, c', rfl, hn, rfl, hIS⟩ := h.out
  rw [← hn] at z1 z2 z3 z4 z5 hall
  obtain ⟨W, hW⟩ : ∃ W, W = (w.alloc (.cells #[.slice none 0 0] 26)).alloc (.cells #[.slice none 0 0] 26) := ⟨_, rfl⟩
  have xW : Ext w W := by rw [hW]; exact ((Ext.refl w).alloc _).alloc _
  have hstart : RKI w W l y 0 none 0 0 := ⟨by rw [hW]; exact blk_old (blk_at rfl), by rw [hW]; exact blk_at (by simp), CO.nil xW⟩
  have HSt := Lib.hid hstart; have HI := Lib.hid hIS; have H4 := Lib.hid z4; have H5 := Lib.hid z5; have HAll := Lib.hid hall
  clear hstart hIS h he z4 z5 hn hall xW
  go_enter Tryd.func21, Tryd.ntmps21
  go_wp2
  rw [← hW]
  clear hW
  go_loopw [6, 7, 8, 9, 10, 11, 12, 13] (fun i _ _ _ _ _ _ _ wr => ∃ (k : Nat) (va : Option Addr) (vn vc : Nat), k + 1 ≤ n ∧ i = .int .i64 k ∧ Hid (RKI w wr l y k va vn vc)) (fun i _ _ _ _ _ _ _ _ => n - (intOf i).toNat)
  case atStart => exact ⟨0, none, 0, 0, by omega, rfl, HSt⟩
  case round =>
    obtain ⟨k, va, vn, vc, hk, rfl, H⟩ := hrel
    by_cases hlt : k + 1 < n
    · obtain ⟨b, o, rfl, hc1⟩ := HI.out.at hlt
      obtain ⟨b', o', hbo, hc2⟩ := HI.out.at (show k < n by omega)
      obtain ⟨rfl, rfl⟩ : b = b' ∧ o = o' := by simpa using hbo
      have hX := H.out.2.2.1
      have hc2' := hc2
      replace hc1 := hX.cell (hc1 (k + 1) hlt); replace hc2 := hX.cell (hc2 k (by omega))
      have g1 := H4.out k (by omega)
      have g2 := H4.out (k + 1) hlt
      have g3 := H5.out k hlt
      have hsc := rk_succ l y k
      have hlen0 := rk_len l y k
      generalize gi l k = x at *
      generalize gi l (k + 1) = z at *
      generalize hm : z - x = m at *
      have HXc := Lib.hid (fun w' (x2 : Ext wr w') => x2.cell hc2)
      have t1 : (0 : Int) ≤ (k : Int) + 1 := by omega
      have t2 : ((k : Int) + 1).toNat = k + 1 := by omega
      have t3 : (k : Int) + 1 < n := by omega
      have t4 : IntKind.i64.wrap ((k : Int) + 1) = (k : Int) + 1 := IntWalk.i64_in _ ⟨by omega, by omega⟩
      have t5 : (k : Int) < n := by omega
      have t7 : (0 : Int) ≤ (k : Int) := by omega
      have t8 : IntKind.i64.wrap (z - x) = m := by rw [hm]; exact IntWalk.i64_in _ ⟨by omega, by omega⟩
      obtain ⟨xn, hxn⟩ : ∃ xn : Nat, x = xn := ⟨x.toNat, by omega⟩
      have hz : 2 ≤ (xn : Int) + m := by omega
      have HA0 := Lib.hid H.out.1; have HA1 := Lib.hid H.out.2.1; have HCO := Lib.hid H.out.2.2
      have HLen := Lib.hid (show (rk l y k).length ≤ 100000 by omega)
      have HStep := Lib.hid (show ∀ (a6 : Option Addr) (n6 c6 : Nat) (w6 : World) (va : Option Addr) (vn vc : Nat), w6.heap[w.heap.size]? = some (.cells #[.slice Option.none 0 0] 26 (0, 0)) → w6.heap[w.heap.size + 1]? = some (.cells #[.slice va vn vc] 26 (0, 0)) →
          CO w w6 (.slice a6 n6 c6) (rk l y (k + 1)) → RKI w (w6.setCell ⟨w.heap.size + 1, 0, none⟩ (.slice a6 n6 c6)) l y (k + 1) a6 n6 c6 from fun a6 n6 c6 w6 va vn vc h0 h1 hco => by
        refine ⟨?_, blk_set1 h1, hco.setOther (a := ⟨w.heap.size + 1, 0, none⟩) h1 (by decide) (by decide) (by simp)⟩
        rw [Deep.blk_setCell_other _ _ _ _ (by simp)]; exact h0)
      have HSc := Lib.hid hsc; have HZ := Lib.hid hz; have HXN := Lib.hid hxn
      clear hsc hlen0 hX H hbo hm hz hc2' hxn
      go_wp2
      go_quiet (fail)
      clear hc1 t1 t2 t3 t4 t8
      obtain ⟨wq, hwq⟩ : ∃ wq, wq = wr.drewN nq := ⟨_, rfl⟩
      have HQ := Lib.hid (show Ext wr wq by rw [hwq]; exact (Ext.refl wr).drewN nq)
      have q2 := HXc.out _ HQ.out
      rw [← hwq]
      have q2' := (kW_ext wq y).cell q2
      unfold kW at q2'
      have HK5 := Lib.hid (show B5 (kW wq y) wq.heap.size (ksty 1 y) 52 from B5.new wq (ksty 1 y) _)
      have hk5 := HK5.out.at
      unfold kW ksty at hk5
      obtain ⟨y0, y1, y2, y3, y4⟩ := hk5
      simp only [Nat.zero_add] at y0 y1 y2 y3 y4
      clear hwq hc2
      have hxn := HXN.out
      clear HXN
      subst hxn
      have HXn := Lib.hid HSc.out
      rw [Int.toNat_natCast] at HXn
      have hz := HZ.out
      clear HSc HZ
      rcases (show m = 2 ∨ m = -2 ∨ (m = 1 ∧ odd k = true) ∨ (m = 1 ∧ odd k = false) ∨ (m = -1 ∧ odd k = true) ∨ (m = -1 ∧ odd k = false) ∨ m = 0 by cases odd k <;> simp <;> omega) with rfl | rfl | ⟨rfl, ho⟩ | ⟨rfl, ho⟩ | ⟨rfl, ho⟩ | ⟨rfl, ho⟩ | rfl
      · skip
        have hP : 2 ≤ xn := by omega
        obtain ⟨P, hPx⟩ : ∃ P : Nat, P = xn - 2 := ⟨_, rfl⟩
        have wz0 : IntKind.i64.wrap ((xn : Int) - 1) = (xn : Int) - 1 := by exact IntWalk.i64_in _ ⟨by omega, by omega⟩
        have wz1 : IntKind.i64.wrap ((xn : Int) - 1 - 1) = (P : Int) := by rw [show (xn : Int) - 1 - 1 = (P : Int) by omega]; exact IntWalk.i64_in _ ⟨by omega, by omega⟩
        have hP9 : P ≤ 16 := by omega
        have HR := Lib.hid (show refRow xn k (2) y = [ksty 1 y, ksty 3 y] ++ List.replicate P (ksty 1 y) ++ [ksty 3 y, ksty 1 y] by
          unfold refRow; rw [show refL k (2) = 1 from by simp [refL], show refR k (2) = 1 from by simp [refR]]
          rw [show (refP (xn : Nat) (1) (1)).toNat = P by unfold refP; simp; try omega]; rfl)
        clear hPx
        clear hP g1 g2
        go_wp2_with (at_builtin; go_loud (refine app_st rfl _ _ rfl (wq.heap.size + 1) _ 0 (cells []) rfl (World.ownsRow_nil _ _ _ _) _ 2 2 [ksty 1 y, ksty 3 y] rfl rfl (RO.lit2 (by simp) rfl (by simp)) ?u1a ?u1b ?_))
        case u1a => omega
        case u1b => (first | (simp; done) | (simp; omega))
        intro rv w3 hown hbel
        have H3 := Lib.hid (show Ext (kW wq y) w3 ∧ w3.ownsRow (wq.heap.size + 1) 52 5 rv 2 (cells [ksty 1 y, ksty 3 y]) from ⟨Below.trans ((Ext.refl (kW wq y)).alloc _) (by simpa [kW] using hbel), by simpa [cells] using hown⟩)
        clear hown hbel
        go_wp2
        go_loopw [11, 13] (fun rv n ws => ∃ j : Nat, j ≤ P ∧ n = .int .i64 j ∧ Hid (Ext (kW wq y) ws ∧ ws.ownsRow (wq.heap.size + 1) 52 5 rv (2 + j) (cells ([ksty 1 y, ksty 3 y] ++ List.replicate j (ksty 1 y))))) (fun _ n _ => P - (intOf n).toNat)
        case atStart => exact ⟨0, by omega, rfl, Lib.hid (by simpa [kW] using H3.out)⟩
        case round =>
          obtain ⟨j, hj, rfl, H⟩ := hrel
          have hk5 := (HK5.out.ext H.out.1).at
          obtain ⟨c0, c1, c2, c3, c4⟩ := hk5
          simp only [Nat.zero_add, ksty] at c0 c1 c2 c3 c4
          have hsz := H.out.1.size
          rw [kW_size] at hsz
          by_cases hjl : j < P
          · skip
            go_wp2_with (at_builtin; go_loud (refine app_st rfl _ _ rfl (wq.heap.size + 1) _ (2 + j) (cells ([ksty 1 y, ksty 3 y] ++ List.replicate j (ksty 1 y))) rfl (own_extz H.out.2 ((Ext.refl wr).alloc _)) _ 1 1 [ksty 1 y] rfl rfl (RO.lit2 (by simp) rfl (by simp)) ?u2a ?u2b ?_))
            case u2a => omega
            case u2b => exact Nat.le_trans hsz (World.alloc_le _ _)
            intro rv' w4 hown hbel
            have H4 := Lib.hid (show Ext (kW wq y) w4 ∧ w4.ownsRow (wq.heap.size + 1) 52 5 rv' (2 + (j + 1)) (cells ([ksty 1 y, ksty 3 y] ++ List.replicate (j + 1) (ksty 1 y))) from ⟨Below.trans (H.out.1.alloc _) (by simpa [kW] using hbel), by
              rw [List.replicate_succ', ← List.append_assoc, cells_app]; first | exact hown | (simpa using hown)⟩)
            clear hown hbel c0 c1 c2 c3 c4
            go_wp2
            go_roundw
            case rel => exact ⟨j + 1, by omega, by go_num, H4⟩
            case measure => simp [intOf]; omega
          · obtain rfl : P = j := by omega
            go_wp2_with (at_builtin; go_loud (refine app_st rfl _ _ rfl (wq.heap.size + 1) _ (2 + P) (cells ([ksty 1 y, ksty 3 y] ++ List.replicate P (ksty 1 y))) rfl (own_extz H.out.2 ((Ext.refl wr).alloc _)) _ 2 2 [ksty 3 y, ksty 1 y] rfl rfl (RO.lit2 (by simp) rfl (by simp)) ?u3a ?u3b ?_))
            case u3a => omega
            case u3b => exact Nat.le_trans hsz (World.alloc_le _ _)
            intro rv' w5 hown hbel
            have hrv := RV.of_own (show w5.ownsRow (wq.heap.size + 1) 52 5 rv' _ (cells ([ksty 1 y, ksty 3 y] ++ List.replicate P (ksty 1 y) ++ [ksty 3 y, ksty 1 y])) from by rw [cells_app]; exact hown)
            have hx5 : Ext (kW wq y) w5 := Below.trans (H.out.1.alloc _) (by simpa [kW] using hbel)
            clear hown hbel c0 c1 c2 c3 c4
            rw [← HR.out] at hrv
            obtain ⟨ra, rn, rc, hrf, hrn⟩ := hrv.1.form
            subst hrf
            have hxx := HQ.out.trans ((kW_ext wq y).trans hx5)
            have hA1 := hxx.block HA1.out
            have a1 : w5.cell? ⟨w.heap.size + 1, 0, none⟩ = some (.slice va vn vc) := by simp [World.cell?, hA1]
            have hco := HCO.out.later hxx
            have hA0 := hxx.block HA0.out
            have HU := Lib.hid (And.intro hco (And.intro hrv.1 (And.intro hA0 hA1)))
            have hlen := HLen.out
            clear hrv hx5 hxx hA1 hA0 hco H hrn
            go_wp2_with (at_builtin; go_loud (refine app_row rfl _ _ rfl w _ (rk l y k) rfl HU.out.1 _ _ HU.out.2.1 w5.heap.size rfl rfl hlen ?_))
            intro v6 w6 hco hkeep
            have hA0 := hkeep _ _ _ _ _ HU.out.2.2.1 (by decide)
            have hA1 := hkeep _ _ _ _ _ HU.out.2.2.2 (by decide)
            obtain ⟨a6, n6, c6, rfl, hn6⟩ := hco.form
            clear hn6
            have b1 : w6.cell? ⟨w.heap.size + 1, 0, none⟩ = some (.slice va vn vc) := by simp [World.cell?, hA1]
            have b2 : w6.frozen? ⟨w.heap.size + 1, 0, none⟩ = false := by simp [World.frozen?, hA1]
            have HN := Lib.hid (HStep.out a6 n6 c6 w6 va vn vc hA0 hA1 (by rw [HXn.out]; exact hco))
            clear hco hkeep hA0 hA1 a1 HU
            go_wp2
            go_roundw
            case rel => exact ⟨k + 1, a6, n6, c6, by omega, by go_num, HN⟩
            case measure => simp [intOf]; omega
      · skip
        have hP : 4 ≤ xn := by omega
        obtain ⟨P, hPx⟩ : ∃ P : Nat, P = xn - 4 := ⟨_, rfl⟩
        have wz0 : IntKind.i64.wrap ((xn : Int) - 2) = (xn : Int) - 2 := by exact IntWalk.i64_in _ ⟨by omega, by omega⟩
        have wz1 : IntKind.i64.wrap ((xn : Int) - 2 - 2) = (P : Int) := by rw [show (xn : Int) - 2 - 2 = (P : Int) by omega]; exact IntWalk.i64_in _ ⟨by omega, by omega⟩
        have hP9 : P ≤ 16 := by omega
        have HR := Lib.hid (show refRow xn k (-2) y = [ksty 4 y] ++ List.replicate P (ksty 1 y) ++ [ksty 4 y] by
          unfold refRow; rw [show refL k (-2) = -1 from by simp [refL], show refR k (-2) = -1 from by simp [refR]]
          rw [show (refP (xn : Nat) (-1) (-1)).toNat = P by unfold refP; simp; try omega]; rfl)
        clear hPx
        clear hP g1 g2
        go_wp2_with (at_builtin; go_loud (refine app_st rfl _ _ rfl (wq.heap.size + 1) _ 0 (cells []) rfl (World.ownsRow_nil _ _ _ _) _ 1 1 [ksty 4 y] rfl rfl (RO.lit2 (by simp) rfl (by simp)) ?u4a ?u4b ?_))
        case u4a => omega
        case u4b => (first | (simp; done) | (simp; omega))
        intro rv w3 hown hbel
        have H3 := Lib.hid (show Ext (kW wq y) w3 ∧ w3.ownsRow (wq.heap.size + 1) 52 5 rv 1 (cells [ksty 4 y]) from ⟨Below.trans ((Ext.refl (kW wq y)).alloc _) (by simpa [kW] using hbel), by simpa [cells] using hown⟩)
        clear hown hbel
        go_wp2
        go_loopw [11, 13] (fun rv n ws => ∃ j : Nat, j ≤ P ∧ n = .int .i64 j ∧ Hid (Ext (kW wq y) ws ∧ ws.ownsRow (wq.heap.size + 1) 52 5 rv (1 + j) (cells ([ksty 4 y] ++ List.replicate j (ksty 1 y))))) (fun _ n _ => P - (intOf n).toNat)
        case atStart => exact ⟨0, by omega, rfl, Lib.hid (by simpa [kW] using H3.out)⟩
        case round =>
          obtain ⟨j, hj, rfl, H⟩ := hrel
          have hk5 := (HK5.out.ext H.out.1).at
          obtain ⟨c0, c1, c2, c3, c4⟩ := hk5
          simp only [Nat.zero_add, ksty] at c0 c1 c2 c3 c4
          have hsz := H.out.1.size
          rw [kW_size] at hsz
          by_cases hjl : j < P
          · skip
            go_wp2_with (at_builtin; go_loud (refine app_st rfl _ _ rfl (wq.heap.size + 1) _ (1 + j) (cells ([ksty 4 y] ++ List.replicate j (ksty 1 y))) rfl (own_extz H.out.2 ((Ext.refl wr).alloc _)) _ 1 1 [ksty 1 y] rfl rfl (RO.lit2 (by simp) rfl (by simp)) ?u5a ?u5b ?_))
            case u5a => omega
            case u5b => exact Nat.le_trans hsz (World.alloc_le _ _)
            intro rv' w4 hown hbel
            have H4 := Lib.hid (show Ext (kW wq y) w4 ∧ w4.ownsRow (wq.heap.size + 1) 52 5 rv' (1 + (j + 1)) (cells ([ksty 4 y] ++ List.replicate (j + 1) (ksty 1 y))) from ⟨Below.trans (H.out.1.alloc _) (by simpa [kW] using hbel), by
              rw [List.replicate_succ', ← List.append_assoc, cells_app]; first | exact hown | (simpa using hown)⟩)
            clear hown hbel c0 c1 c2 c3 c4
            go_wp2
            go_roundw
            case rel => exact ⟨j + 1, by omega, by go_num, H4⟩
            case measure => simp [intOf]; omega
          · obtain rfl : P = j := by omega
            go_wp2_with (at_builtin; go_loud (refine app_st rfl _ _ rfl (wq.heap.size + 1) _ (1 + P) (cells ([ksty 4 y] ++ List.replicate P (ksty 1 y))) rfl (own_extz H.out.2 ((Ext.refl wr).alloc _)) _ 1 1 [ksty 4 y] rfl rfl (RO.lit2 (by simp) rfl (by simp)) ?u6a ?u6b ?_))
            case u6a => omega
            case u6b => exact Nat.le_trans hsz (World.alloc_le _ _)
            intro rv' w5 hown hbel
            have hrv := RV.of_own (show w5.ownsRow (wq.heap.size + 1) 52 5 rv' _ (cells ([ksty 4 y] ++ List.replicate P (ksty 1 y) ++ [ksty 4 y])) from by rw [cells_app]; exact hown)
            have hx5 : Ext (kW wq y) w5 := Below.trans (H.out.1.alloc _) (by simpa [kW] using hbel)
            clear hown hbel c0 c1 c2 c3 c4
            rw [← HR.out] at hrv
            obtain ⟨ra, rn, rc, hrf, hrn⟩ := hrv.1.form
            subst hrf
            have hxx := HQ.out.trans ((kW_ext wq y).trans hx5)
            have hA1 := hxx.block HA1.out
            have a1 : w5.cell? ⟨w.heap.size + 1, 0, none⟩ = some (.slice va vn vc) := by simp [World.cell?, hA1]
            have hco := HCO.out.later hxx
            have hA0 := hxx.block HA0.out
            have HU := Lib.hid (And.intro hco (And.intro hrv.1 (And.intro hA0 hA1)))
            have hlen := HLen.out
            clear hrv hx5 hxx hA1 hA0 hco H hrn
            go_wp2_with (at_builtin; go_loud (refine app_row rfl _ _ rfl w _ (rk l y k) rfl HU.out.1 _ _ HU.out.2.1 w5.heap.size rfl rfl hlen ?_))
            intro v6 w6 hco hkeep
            have hA0 := hkeep _ _ _ _ _ HU.out.2.2.1 (by decide)
            have hA1 := hkeep _ _ _ _ _ HU.out.2.2.2 (by decide)
            obtain ⟨a6, n6, c6, rfl, hn6⟩ := hco.form
            clear hn6
            have b1 : w6.cell? ⟨w.heap.size + 1, 0, none⟩ = some (.slice va vn vc) := by simp [World.cell?, hA1]
            have b2 : w6.frozen? ⟨w.heap.size + 1, 0, none⟩ = false := by simp [World.frozen?, hA1]
            have HN := Lib.hid (HStep.out a6 n6 c6 w6 va vn vc hA0 hA1 (by rw [HXn.out]; exact hco))
            clear hco hkeep hA0 hA1 a1 HU
            go_wp2
            go_roundw
            case rel => exact ⟨k + 1, a6, n6, c6, by omega, by go_num, HN⟩
            case measure => simp [intOf]; omega
      · skip
        have HOdd := Lib.hid ho
        have hoe := odd_eq k
        rw [ho] at hoe
        simp only [Bool.not_true] at hoe
        clear ho
        have hP : 1 ≤ xn := by omega
        obtain ⟨P, hPx⟩ : ∃ P : Nat, P = xn - 1 := ⟨_, rfl⟩
        have wz0 : IntKind.i64.wrap ((xn : Int) - 1) = (P : Int) := by rw [show (xn : Int) - 1 = (P : Int) by omega]; exact IntWalk.i64_in _ ⟨by omega, by omega⟩
        have hP9 : P ≤ 16 := by omega
        have HR := Lib.hid (show refRow xn k (1) y = [ksty 1 y, ksty 3 y] ++ List.replicate P (ksty 1 y) ++ [] by
          unfold refRow; rw [show refL k (1) = 1 from by simp [refL, HOdd.out], show refR k (1) = 0 from by simp [refR, HOdd.out]]
          rw [show (refP (xn : Nat) (1) (0)).toNat = P by unfold refP; simp; try omega]; rfl)
        clear hPx
        clear hP g1 g2
        go_wp2_with (at_builtin; go_loud (refine app_st rfl _ _ rfl (wq.heap.size + 1) _ 0 (cells []) rfl (World.ownsRow_nil _ _ _ _) _ 2 2 [ksty 1 y, ksty 3 y] rfl rfl (RO.lit2 (by simp) rfl (by simp)) ?u7a ?u7b ?_))
        case u7a => omega
        case u7b => (first | (simp; done) | (simp; omega))
        intro rv w3 hown hbel
        have H3 := Lib.hid (show Ext (kW wq y) w3 ∧ w3.ownsRow (wq.heap.size + 1) 52 5 rv 2 (cells [ksty 1 y, ksty 3 y]) from ⟨Below.trans ((Ext.refl (kW wq y)).alloc _) (by simpa [kW] using hbel), by simpa [cells] using hown⟩)
        clear hown hbel
        go_wp2
        go_loopw [11, 13] (fun rv n ws => ∃ j : Nat, j ≤ P ∧ n = .int .i64 j ∧ Hid (Ext (kW wq y) ws ∧ ws.ownsRow (wq.heap.size + 1) 52 5 rv (2 + j) (cells ([ksty 1 y, ksty 3 y] ++ List.replicate j (ksty 1 y))))) (fun _ n _ => P - (intOf n).toNat)
        case atStart => exact ⟨0, by omega, rfl, Lib.hid (by simpa [kW] using H3.out)⟩
        case round =>
          obtain ⟨j, hj, rfl, H⟩ := hrel
          have hk5 := (HK5.out.ext H.out.1).at
          obtain ⟨c0, c1, c2, c3, c4⟩ := hk5
          simp only [Nat.zero_add, ksty] at c0 c1 c2 c3 c4
          have hsz := H.out.1.size
          rw [kW_size] at hsz
          by_cases hjl : j < P
          · skip
            go_wp2_with (at_builtin; go_loud (refine app_st rfl _ _ rfl (wq.heap.size + 1) _ (2 + j) (cells ([ksty 1 y, ksty 3 y] ++ List.replicate j (ksty 1 y))) rfl (own_extz H.out.2 ((Ext.refl wr).alloc _)) _ 1 1 [ksty 1 y] rfl rfl (RO.lit2 (by simp) rfl (by simp)) ?u8a ?u8b ?_))
            case u8a => omega
            case u8b => exact Nat.le_trans hsz (World.alloc_le _ _)
            intro rv' w4 hown hbel
            have H4 := Lib.hid (show Ext (kW wq y) w4 ∧ w4.ownsRow (wq.heap.size + 1) 52 5 rv' (2 + (j + 1)) (cells ([ksty 1 y, ksty 3 y] ++ List.replicate (j + 1) (ksty 1 y))) from ⟨Below.trans (H.out.1.alloc _) (by simpa [kW] using hbel), by
              rw [List.replicate_succ', ← List.append_assoc, cells_app]; first | exact hown | (simpa using hown)⟩)
            clear hown hbel c0 c1 c2 c3 c4
            go_wp2
            go_roundw
            case rel => exact ⟨j + 1, by omega, by go_num, H4⟩
            case measure => simp [intOf]; omega
          · obtain rfl : P = j := by omega
            obtain ⟨w5, hw5⟩ : ∃ w5 : World, w5 = wr := ⟨_, rfl⟩
            have hrv := RV.of_own (show w5.ownsRow (wq.heap.size + 1) 52 5 _ (2 + P) (cells ([ksty 1 y, ksty 3 y] ++ List.replicate P (ksty 1 y) ++ [])) from by rw [List.append_nil, hw5]; exact H.out.2)
            have hx5 : Ext (kW wq y) w5 := by rw [hw5]; exact H.out.1
            rw [← hw5]
            clear hw5 c0 c1 c2 c3 c4
            rw [← HR.out] at hrv
            obtain ⟨ra, rn, rc, hrf, hrn⟩ := hrv.1.form
            subst hrf
            have hxx := HQ.out.trans ((kW_ext wq y).trans hx5)
            have hA1 := hxx.block HA1.out
            have a1 : w5.cell? ⟨w.heap.size + 1, 0, none⟩ = some (.slice va vn vc) := by simp [World.cell?, hA1]
            have hco := HCO.out.later hxx
            have hA0 := hxx.block HA0.out
            have HU := Lib.hid (And.intro hco (And.intro hrv.1 (And.intro hA0 hA1)))
            have hlen := HLen.out
            clear hrv hx5 hxx hA1 hA0 hco H hrn
            go_wp2_with (at_builtin; go_loud (refine app_row rfl _ _ rfl w _ (rk l y k) rfl HU.out.1 _ _ HU.out.2.1 w5.heap.size rfl rfl hlen ?_))
            intro v6 w6 hco hkeep
            have hA0 := hkeep _ _ _ _ _ HU.out.2.2.1 (by decide)
            have hA1 := hkeep _ _ _ _ _ HU.out.2.2.2 (by decide)
            obtain ⟨a6, n6, c6, rfl, hn6⟩ := hco.form
            clear hn6
            have b1 : w6.cell? ⟨w.heap.size + 1, 0, none⟩ = some (.slice va vn vc) := by simp [World.cell?, hA1]
            have b2 : w6.frozen? ⟨w.heap.size + 1, 0, none⟩ = false := by simp [World.frozen?, hA1]
            have HN := Lib.hid (HStep.out a6 n6 c6 w6 va vn vc hA0 hA1 (by rw [HXn.out]; exact hco))
            clear hco hkeep hA0 hA1 a1 HU
            go_wp2
            go_roundw
            case rel => exact ⟨k + 1, a6, n6, c6, by omega, by go_num, HN⟩
            case measure => simp [intOf]; omega
      · skip
        have HOdd := Lib.hid ho
        have hoe := odd_eq k
        rw [ho] at hoe
        simp only [Bool.not_false] at hoe
        clear ho
        have hP : 1 ≤ xn := by omega
        obtain ⟨P, hPx⟩ : ∃ P : Nat, P = xn - 1 := ⟨_, rfl⟩
        have wz0 : IntKind.i64.wrap ((xn : Int) - 1) = (P : Int) := by rw [show (xn : Int) - 1 = (P : Int) by omega]; exact IntWalk.i64_in _ ⟨by omega, by omega⟩
        have hP9 : P ≤ 16 := by omega
        have HR := Lib.hid (show refRow xn k (1) y = [] ++ List.replicate P (ksty 1 y) ++ [ksty 3 y, ksty 1 y] by
          unfold refRow; rw [show refL k (1) = 0 from by simp [refL, HOdd.out], show refR k (1) = 1 from by simp [refR, HOdd.out]]
          rw [show (refP (xn : Nat) (0) (1)).toNat = P by unfold refP; simp; try omega]; rfl)
        clear hPx
        clear hP g1 g2
        go_wp2
        have H3 := Lib.hid (show Ext (kW wq y) (kW wq y) ∧ (kW wq y).ownsRow (wq.heap.size + 1) 52 5 (.slice none 0 0) 0 (cells []) from ⟨Ext.refl _, World.ownsRow_nil _ _ _ _⟩)
        go_loopw [11, 13] (fun rv n ws => ∃ j : Nat, j ≤ P ∧ n = .int .i64 j ∧ Hid (Ext (kW wq y) ws ∧ ws.ownsRow (wq.heap.size + 1) 52 5 rv (0 + j) (cells ([] ++ List.replicate j (ksty 1 y))))) (fun _ n _ => P - (intOf n).toNat)
        case atStart => exact ⟨0, by omega, rfl, Lib.hid (by simpa [kW] using H3.out)⟩
        case round =>
          obtain ⟨j, hj, rfl, H⟩ := hrel
          have hk5 := (HK5.out.ext H.out.1).at
          obtain ⟨c0, c1, c2, c3, c4⟩ := hk5
          simp only [Nat.zero_add, ksty] at c0 c1 c2 c3 c4
          have hsz := H.out.1.size
          rw [kW_size] at hsz
          by_cases hjl : j < P
          · skip
            go_wp2_with (at_builtin; go_loud (refine app_st rfl _ _ rfl (wq.heap.size + 1) _ (0 + j) (cells ([] ++ List.replicate j (ksty 1 y))) rfl (own_extz H.out.2 ((Ext.refl wr).alloc _)) _ 1 1 [ksty 1 y] rfl rfl (RO.lit2 (by simp) rfl (by simp)) ?u9a ?u9b ?_))
            case u9a => omega
            case u9b => exact Nat.le_trans hsz (World.alloc_le _ _)
            intro rv' w4 hown hbel
            have H4 := Lib.hid (show Ext (kW wq y) w4 ∧ w4.ownsRow (wq.heap.size + 1) 52 5 rv' (0 + (j + 1)) (cells ([] ++ List.replicate (j + 1) (ksty 1 y))) from ⟨Below.trans (H.out.1.alloc _) (by simpa [kW] using hbel), by
              rw [List.replicate_succ', ← List.append_assoc, cells_app]; first | exact hown | (simpa using hown)⟩)
            clear hown hbel c0 c1 c2 c3 c4
            go_wp2
            go_roundw
            case rel => exact ⟨j + 1, by omega, by go_num, H4⟩
            case measure => simp [intOf]; omega
          · obtain rfl : P = j := by omega
            go_wp2_with (at_builtin; go_loud (refine app_st rfl _ _ rfl (wq.heap.size + 1) _ (0 + P) (cells ([] ++ List.replicate P (ksty 1 y))) rfl (own_extz H.out.2 ((Ext.refl wr).alloc _)) _ 2 2 [ksty 3 y, ksty 1 y] rfl rfl (RO.lit2 (by simp) rfl (by simp)) ?u10a ?u10b ?_))
            case u10a => omega
            case u10b => exact Nat.le_trans hsz (World.alloc_le _ _)
            intro rv' w5 hown hbel
            have hrv := RV.of_own (show w5.ownsRow (wq.heap.size + 1) 52 5 rv' _ (cells ([] ++ List.replicate P (ksty 1 y) ++ [ksty 3 y, ksty 1 y])) from by rw [cells_app]; exact hown)
            have hx5 : Ext (kW wq y) w5 := Below.trans (H.out.1.alloc _) (by simpa [kW] using hbel)
            clear hown hbel c0 c1 c2 c3 c4
            rw [← HR.out] at hrv
            obtain ⟨ra, rn, rc, hrf, hrn⟩ := hrv.1.form
            subst hrf
            have hxx := HQ.out.trans ((kW_ext wq y).trans hx5)
            have hA1 := hxx.block HA1.out
            have a1 : w5.cell? ⟨w.heap.size + 1, 0, none⟩ = some (.slice va vn vc) := by simp [World.cell?, hA1]
            have hco := HCO.out.later hxx
            have hA0 := hxx.block HA0.out
            have HU := Lib.hid (And.intro hco (And.intro hrv.1 (And.intro hA0 hA1)))
            have hlen := HLen.out
            clear hrv hx5 hxx hA1 hA0 hco H hrn
            go_wp2_with (at_builtin; go_loud (refine app_row rfl _ _ rfl w _ (rk l y k) rfl HU.out.1 _ _ HU.out.2.1 w5.heap.size rfl rfl hlen ?_))
            intro v6 w6 hco hkeep
            have hA0 := hkeep _ _ _ _ _ HU.out.2.2.1 (by decide)
            have hA1 := hkeep _ _ _ _ _ HU.out.2.2.2 (by decide)
            obtain ⟨a6, n6, c6, rfl, hn6⟩ := hco.form
            clear hn6
            have b1 : w6.cell? ⟨w.heap.size + 1, 0, none⟩ = some (.slice va vn vc) := by simp [World.cell?, hA1]
            have b2 : w6.frozen? ⟨w.heap.size + 1, 0, none⟩ = false := by simp [World.frozen?, hA1]
            have HN := Lib.hid (HStep.out a6 n6 c6 w6 va vn vc hA0 hA1 (by rw [HXn.out]; exact hco))
            clear hco hkeep hA0 hA1 a1 HU
            go_wp2
            go_roundw
            case rel => exact ⟨k + 1, a6, n6, c6, by omega, by go_num, HN⟩
            case measure => simp [intOf]; omega
      · skip
        have HOdd := Lib.hid ho
        have hoe := odd_eq k
        rw [ho] at hoe
        simp only [Bool.not_true] at hoe
        clear ho
        have hP : 2 ≤ xn := by omega
        obtain ⟨P, hPx⟩ : ∃ P : Nat, P = xn - 2 := ⟨_, rfl⟩
        have wz0 : IntKind.i64.wrap ((xn : Int) - 2) = (P : Int) := by rw [show (xn : Int) - 2 = (P : Int) by omega]; exact IntWalk.i64_in _ ⟨by omega, by omega⟩
        have hP9 : P ≤ 16 := by omega
        have HR := Lib.hid (show refRow xn k (-1) y = [ksty 4 y] ++ List.replicate P (ksty 1 y) ++ [] by
          unfold refRow; rw [show refL k (-1) = -1 from by simp [refL, HOdd.out], show refR k (-1) = 0 from by simp [refR, HOdd.out]]
          rw [show (refP (xn : Nat) (-1) (0)).toNat = P by unfold refP; simp; try omega]; rfl)
        clear hPx
        clear hP g1 g2
        go_wp2_with (at_builtin; go_loud (refine app_st rfl _ _ rfl (wq.heap.size + 1) _ 0 (cells []) rfl (World.ownsRow_nil _ _ _ _) _ 1 1 [ksty 4 y] rfl rfl (RO.lit2 (by simp) rfl (by simp)) ?u11a ?u11b ?_))
        case u11a => omega
        case u11b => (first | (simp; done) | (simp; omega))
        intro rv w3 hown hbel
        have H3 := Lib.hid (show Ext (kW wq y) w3 ∧ w3.ownsRow (wq.heap.size + 1) 52 5 rv 1 (cells [ksty 4 y]) from ⟨Below.trans ((Ext.refl (kW wq y)).alloc _) (by simpa [kW] using hbel), by simpa [cells] using hown⟩)
        clear hown hbel
        go_wp2
        go_loopw [11, 13] (fun rv n ws => ∃ j : Nat, j ≤ P ∧ n = .int .i64 j ∧ Hid (Ext (kW wq y) ws ∧ ws.ownsRow (wq.heap.size + 1) 52 5 rv (1 + j) (cells ([ksty 4 y] ++ List.replicate j (ksty 1 y))))) (fun _ n _ => P - (intOf n).toNat)
        case atStart => exact ⟨0, by omega, rfl, Lib.hid (by simpa [kW] using H3.out)⟩
        case round =>
          obtain ⟨j, hj, rfl, H⟩ := hrel
          have hk5 := (HK5.out.ext H.out.1).at
          obtain ⟨c0, c1, c2, c3, c4⟩ := hk5
          simp only [Nat.zero_add, ksty] at c0 c1 c2 c3 c4
          have hsz := H.out.1.size
          rw [kW_size] at hsz
          by_cases hjl : j < P
          · skip
            go_wp2_with (at_builtin; go_loud (refine app_st rfl _ _ rfl (wq.heap.size + 1) _ (1 + j) (cells ([ksty 4 y] ++ List.replicate j (ksty 1 y))) rfl (own_extz H.out.2 ((Ext.refl wr).alloc _)) _ 1 1 [ksty 1 y] rfl rfl (RO.lit2 (by simp) rfl (by simp)) ?u12a ?u12b ?_))
            case u12a => omega
            case u12b => exact Nat.le_trans hsz (World.alloc_le _ _)
            intro rv' w4 hown hbel
            have H4 := Lib.hid (show Ext (kW wq y) w4 ∧ w4.ownsRow (wq.heap.size + 1) 52 5 rv' (1 + (j + 1)) (cells ([ksty 4 y] ++ List.replicate (j + 1) (ksty 1 y))) from ⟨Below.trans (H.out.1.alloc _) (by simpa [kW] using hbel), by
              rw [List.replicate_succ', ← List.append_assoc, cells_app]; first | exact hown | (simpa using hown)⟩)
            clear hown hbel c0 c1 c2 c3 c4
            go_wp2
            go_roundw
            case rel => exact ⟨j + 1, by omega, by go_num, H4⟩
            case measure => simp [intOf]; omega
          · obtain rfl : P = j := by omega
            obtain ⟨w5, hw5⟩ : ∃ w5 : World, w5 = wr := ⟨_, rfl⟩
            have hrv := RV.of_own (show w5.ownsRow (wq.heap.size + 1) 52 5 _ (1 + P) (cells ([ksty 4 y] ++ List.replicate P (ksty 1 y) ++ [])) from by rw [List.append_nil, hw5]; exact H.out.2)
            have hx5 : Ext (kW wq y) w5 := by rw [hw5]; exact H.out.1
            rw [← hw5]
            clear hw5 c0 c1 c2 c3 c4
            rw [← HR.out] at hrv
            obtain ⟨ra, rn, rc, hrf, hrn⟩ := hrv.1.form
            subst hrf
            have hxx := HQ.out.trans ((kW_ext wq y).trans hx5)
            have hA1 := hxx.block HA1.out
            have a1 : w5.cell? ⟨w.heap.size + 1, 0, none⟩ = some (.slice va vn vc) := by simp [World.cell?, hA1]
            have hco := HCO.out.later hxx
            have hA0 := hxx.block HA0.out
            have HU := Lib.hid (And.intro hco (And.intro hrv.1 (And.intro hA0 hA1)))
            have hlen := HLen.out
            clear hrv hx5 hxx hA1 hA0 hco H hrn
            go_wp2_with (at_builtin; go_loud (refine app_row rfl _ _ rfl w _ (rk l y k) rfl HU.out.1 _ _ HU.out.2.1 w5.heap.size rfl rfl hlen ?_))
            intro v6 w6 hco hkeep
            have hA0 := hkeep _ _ _ _ _ HU.out.2.2.1 (by decide)
            have hA1 := hkeep _ _ _ _ _ HU.out.2.2.2 (by decide)
            obtain ⟨a6, n6, c6, rfl, hn6⟩ := hco.form
            clear hn6
            have b1 : w6.cell? ⟨w.heap.size + 1, 0, none⟩ = some (.slice va vn vc) := by simp [World.cell?, hA1]
            have b2 : w6.frozen? ⟨w.heap.size + 1, 0, none⟩ = false := by simp [World.frozen?, hA1]
            have HN := Lib.hid (HStep.out a6 n6 c6 w6 va vn vc hA0 hA1 (by rw [HXn.out]; exact hco))
            clear hco hkeep hA0 hA1 a1 HU
            go_wp2
            go_roundw
            case rel => exact ⟨k + 1, a6, n6, c6, by omega, by go_num, HN⟩
            case measure => simp [intOf]; omega
      · skip
        have HOdd := Lib.hid ho
        have hoe := odd_eq k
        rw [ho] at hoe
        simp only [Bool.not_false] at hoe
        clear ho
        have hP : 2 ≤ xn := by omega
        obtain ⟨P, hPx⟩ : ∃ P : Nat, P = xn - 2 := ⟨_, rfl⟩
        have wz0 : IntKind.i64.wrap ((xn : Int) - 2) = (P : Int) := by rw [show (xn : Int) - 2 = (P : Int) by omega]; exact IntWalk.i64_in _ ⟨by omega, by omega⟩
        have hP9 : P ≤ 16 := by omega
        have HR := Lib.hid (show refRow xn k (-1) y = [] ++ List.replicate P (ksty 1 y) ++ [ksty 4 y] by
          unfold refRow; rw [show refL k (-1) = 0 from by simp [refL, HOdd.out], show refR k (-1) = -1 from by simp [refR, HOdd.out]]
          rw [show (refP (xn : Nat) (0) (-1)).toNat = P by unfold refP; simp; try omega]; rfl)
        clear hPx
        clear hP g1 g2
        go_wp2
        have H3 := Lib.hid (show Ext (kW wq y) (kW wq y) ∧ (kW wq y).ownsRow (wq.heap.size + 1) 52 5 (.slice none 0 0) 0 (cells []) from ⟨Ext.refl _, World.ownsRow_nil _ _ _ _⟩)
        go_loopw [11, 13] (fun rv n ws => ∃ j : Nat, j ≤ P ∧ n = .int .i64 j ∧ Hid (Ext (kW wq y) ws ∧ ws.ownsRow (wq.heap.size + 1) 52 5 rv (0 + j) (cells ([] ++ List.replicate j (ksty 1 y))))) (fun _ n _ => P - (intOf n).toNat)
        case atStart => exact ⟨0, by omega, rfl, Lib.hid (by simpa [kW] using H3.out)⟩
        case round =>
          obtain ⟨j, hj, rfl, H⟩ := hrel
          have hk5 := (HK5.out.ext H.out.1).at
          obtain ⟨c0, c1, c2, c3, c4⟩ := hk5
          simp only [Nat.zero_add, ksty] at c0 c1 c2 c3 c4
          have hsz := H.out.1.size
          rw [kW_size] at hsz
          by_cases hjl : j < P
          · skip
            go_wp2_with (at_builtin; go_loud (refine app_st rfl _ _ rfl (wq.heap.size + 1) _ (0 + j) (cells ([] ++ List.replicate j (ksty 1 y))) rfl (own_extz H.out.2 ((Ext.refl wr).alloc _)) _ 1 1 [ksty 1 y] rfl rfl (RO.lit2 (by simp) rfl (by simp)) ?u13a ?u13b ?_))
            case u13a => omega
            case u13b => exact Nat.le_trans hsz (World.alloc_le _ _)
            intro rv' w4 hown hbel
            have H4 := Lib.hid (show Ext (kW wq y) w4 ∧ w4.ownsRow (wq.heap.size + 1) 52 5 rv' (0 + (j + 1)) (cells ([] ++ List.replicate (j + 1) (ksty 1 y))) from ⟨Below.trans (H.out.1.alloc _) (by simpa [kW] using hbel), by
              rw [List.replicate_succ', ← List.append_assoc, cells_app]; first | exact hown | (simpa using hown)⟩)
            clear hown hbel c0 c1 c2 c3 c4
            go_wp2
            go_roundw
            case rel => exact ⟨j + 1, by omega, by go_num, H4⟩
            case measure => simp [intOf]; omega
          · obtain rfl : P = j := by omega
            go_wp2_with (at_builtin; go_loud (refine app_st rfl _ _ rfl (wq.heap.size + 1) _ (0 + P) (cells ([] ++ List.replicate P (ksty 1 y))) rfl (own_extz H.out.2 ((Ext.refl wr).alloc _)) _ 1 1 [ksty 4 y] rfl rfl (RO.lit2 (by simp) rfl (by simp)) ?u14a ?u14b ?_))
            case u14a => omega
            case u14b => exact Nat.le_trans hsz (World.alloc_le _ _)
            intro rv' w5 hown hbel
            have hrv := RV.of_own (show w5.ownsRow (wq.heap.size + 1) 52 5 rv' _ (cells ([] ++ List.replicate P (ksty 1 y) ++ [ksty 4 y])) from by rw [cells_app]; exact hown)
            have hx5 : Ext (kW wq y) w5 := Below.trans (H.out.1.alloc _) (by simpa [kW] using hbel)
            clear hown hbel c0 c1 c2 c3 c4
            rw [← HR.out] at hrv
            obtain ⟨ra, rn, rc, hrf, hrn⟩ := hrv.1.form
            subst hrf
            have hxx := HQ.out.trans ((kW_ext wq y).trans hx5)
            have hA1 := hxx.block HA1.out
            have a1 : w5.cell? ⟨w.heap.size + 1, 0, none⟩ = some (.slice va vn vc) := by simp [World.cell?, hA1]
            have hco := HCO.out.later hxx
            have hA0 := hxx.block HA0.out
            have HU := Lib.hid (And.intro hco (And.intro hrv.1 (And.intro hA0 hA1)))
            have hlen := HLen.out
            clear hrv hx5 hxx hA1 hA0 hco H hrn
            go_wp2_with (at_builtin; go_loud (refine app_row rfl _ _ rfl w _ (rk l y k) rfl HU.out.1 _ _ HU.out.2.1 w5.heap.size rfl rfl hlen ?_))
            intro v6 w6 hco hkeep
            have hA0 := hkeep _ _ _ _ _ HU.out.2.2.1 (by decide)
            have hA1 := hkeep _ _ _ _ _ HU.out.2.2.2 (by decide)
            obtain ⟨a6, n6, c6, rfl, hn6⟩ := hco.form
            clear hn6
            have b1 : w6.cell? ⟨w.heap.size + 1, 0, none⟩ = some (.slice va vn vc) := by simp [World.cell?, hA1]
            have b2 : w6.frozen? ⟨w.heap.size + 1, 0, none⟩ = false := by simp [World.frozen?, hA1]
            have HN := Lib.hid (HStep.out a6 n6 c6 w6 va vn vc hA0 hA1 (by rw [HXn.out]; exact hco))
            clear hco hkeep hA0 hA1 a1 HU
            go_wp2
            go_roundw
            case rel => exact ⟨k + 1, a6, n6, c6, by omega, by go_num, HN⟩
            case measure => simp [intOf]; omega
      · skip
        have hP : 0 ≤ xn := by omega
        obtain ⟨P, hPx⟩ : ∃ P : Nat, P = xn - 0 := ⟨_, rfl⟩
        obtain rfl : P = xn := by omega
        have hP9 : P ≤ 16 := by omega
        have HR := Lib.hid (show refRow P k (0) y = [] ++ List.replicate P (ksty 1 y) ++ [] by
          unfold refRow; rw [show refL k (0) = 0 from by simp [refL], show refR k (0) = 0 from by simp [refR]]
          rw [show (refP (P : Nat) (0) (0)).toNat = P by unfold refP; simp; try omega]; rfl)
        clear hPx
        clear hP g1 g2
        go_wp2
        have H3 := Lib.hid (show Ext (kW wq y) (kW wq y) ∧ (kW wq y).ownsRow (wq.heap.size + 1) 52 5 (.slice none 0 0) 0 (cells []) from ⟨Ext.refl _, World.ownsRow_nil _ _ _ _⟩)
        go_loopw [11, 13] (fun rv n ws => ∃ j : Nat, j ≤ P ∧ n = .int .i64 j ∧ Hid (Ext (kW wq y) ws ∧ ws.ownsRow (wq.heap.size + 1) 52 5 rv (0 + j) (cells ([] ++ List.replicate j (ksty 1 y))))) (fun _ n _ => P - (intOf n).toNat)
        case atStart => exact ⟨0, by omega, rfl, Lib.hid (by simpa [kW] using H3.out)⟩
        case round =>
          obtain ⟨j, hj, rfl, H⟩ := hrel
          have hk5 := (HK5.out.ext H.out.1).at
          obtain ⟨c0, c1, c2, c3, c4⟩ := hk5
          simp only [Nat.zero_add, ksty] at c0 c1 c2 c3 c4
          have hsz := H.out.1.size
          rw [kW_size] at hsz
          by_cases hjl : j < P
          · skip
            go_wp2_with (at_builtin; go_loud (refine app_st rfl _ _ rfl (wq.heap.size + 1) _ (0 + j) (cells ([] ++ List.replicate j (ksty 1 y))) rfl (own_extz H.out.2 ((Ext.refl wr).alloc _)) _ 1 1 [ksty 1 y] rfl rfl (RO.lit2 (by simp) rfl (by simp)) ?u15a ?u15b ?_))
            case u15a => omega
            case u15b => exact Nat.le_trans hsz (World.alloc_le _ _)
            intro rv' w4 hown hbel
            have H4 := Lib.hid (show Ext (kW wq y) w4 ∧ w4.ownsRow (wq.heap.size + 1) 52 5 rv' (0 + (j + 1)) (cells ([] ++ List.replicate (j + 1) (ksty 1 y))) from ⟨Below.trans (H.out.1.alloc _) (by simpa [kW] using hbel), by
              rw [List.replicate_succ', ← List.append_assoc, cells_app]; first | exact hown | (simpa using hown)⟩)
            clear hown hbel c0 c1 c2 c3 c4
            go_wp2
            go_roundw
            case rel => exact ⟨j + 1, by omega, by go_num, H4⟩
            case measure => simp [intOf]; omega
          · obtain rfl : P = j := by omega
            obtain ⟨w5, hw5⟩ : ∃ w5 : World, w5 = wr := ⟨_, rfl⟩
            have hrv := RV.of_own (show w5.ownsRow (wq.heap.size + 1) 52 5 _ (0 + P) (cells ([] ++ List.replicate P (ksty 1 y) ++ [])) from by rw [List.append_nil, hw5]; exact H.out.2)
            have hx5 : Ext (kW wq y) w5 := by rw [hw5]; exact H.out.1
            rw [← hw5]
            clear hw5 c0 c1 c2 c3 c4
            rw [← HR.out] at hrv
            obtain ⟨ra, rn, rc, hrf, hrn⟩ := hrv.1.form
            subst hrf
            have hxx := HQ.out.trans ((kW_ext wq y).trans hx5)
            have hA1 := hxx.block HA1.out
            have a1 : w5.cell? ⟨w.heap.size + 1, 0, none⟩ = some (.slice va vn vc) := by simp [World.cell?, hA1]
            have hco := HCO.out.later hxx
            have hA0 := hxx.block HA0.out
            have HU := Lib.hid (And.intro hco (And.intro hrv.1 (And.intro hA0 hA1)))
            have hlen := HLen.out
            clear hrv hx5 hxx hA1 hA0 hco H hrn
            go_wp2_with (at_builtin; go_loud (refine app_row rfl _ _ rfl w _ (rk l y k) rfl HU.out.1 _ _ HU.out.2.1 w5.heap.size rfl rfl hlen ?_))
            intro v6 w6 hco hkeep
            have hA0 := hkeep _ _ _ _ _ HU.out.2.2.1 (by decide)
            have hA1 := hkeep _ _ _ _ _ HU.out.2.2.2 (by decide)
            obtain ⟨a6, n6, c6, rfl, hn6⟩ := hco.form
            clear hn6
            have b1 : w6.cell? ⟨w.heap.size + 1, 0, none⟩ = some (.slice va vn vc) := by simp [World.cell?, hA1]
            have b2 : w6.frozen? ⟨w.heap.size + 1, 0, none⟩ = false := by simp [World.frozen?, hA1]
            have HN := Lib.hid (HStep.out a6 n6 c6 w6 va vn vc hA0 hA1 (by rw [HXn.out]; exact hco))
            clear hco hkeep hA0 hA1 a1 HU
            go_wp2
            go_roundw
            case rel => exact ⟨k + 1, a6, n6, c6, by omega, by go_num, HN⟩
            case measure => simp [intOf]; omega
    · obtain hnk : n = k + 1 := by omega
      have hA0 := H.out.1; have hA1 := H.out.2.1; have hCO := H.out.2.2
      have a1 : wr.cell? ⟨w.heap.size + 1, 0, none⟩ = some (.slice va vn vc) := by simp [World.cell?, hA1]
      have a0 : wr.cell? ⟨w.heap.size, 0, none⟩ = some (.slice none 0 0) := by simp [World.cell?, hA0]
      have f0 : wr.frozen? ⟨w.heap.size, 0, none⟩ = false := by simp [World.frozen?, hA0]
      have hfin : RetCC w (chartOf l y) (.returned (.agg #[.slice va vn vc])) (wr.setCell ⟨w.heap.size, 0, none⟩ (.slice va vn vc)) := by
        have h2 := hCO.setOther (a := ⟨w.heap.size, 0, none⟩) (u' := .slice va vn vc) hA0 (by decide) (by decide) (Nat.le_refl _)
        obtain ⟨cc, hr⟩ := h2.rr
        rw [← HAll.out, hnk, Nat.add_sub_cancel]
        exact ⟨_, cc, rfl, hr, h2.1⟩
      have HF := Lib.hid hfin
      have tl : ¬ ((k : Int) + 1 < n) := by omega
      clear hA0 hA1 hCO hfin hnk hlt
      go_wp2
      exact bodyPost_ret (v := .agg #[.slice va vn vc]) (by simp [results, Tryd.results21, go_sem, World.cell?_setCell_same, *]) rfl HF.out
end Go.Proofs.YtinijapkipeamaaDoor
/- shapes.Chart. -/
namespace Go.Proofs.YtinijapkipeamaaDoor
set_option linter.unusedVariables false
set_option linter.unusedSimpArgs false
set_option maxRecDepth 8000
open Go Go.RowKit

/-- The first j stitches have the yarn. -/
def yl (r : List St) (y : Int) (j : Nat) : List St := (r.take j).map (sty y) ++ r.drop j
theorem yl_len (r : List St) (y : Int) (j : Nat) : (yl r y j).length = r.length := by simp [yl]; omega
theorem yl_zero (r : List St) (y : Int) : yl r y 0 = r := by simp [yl]
theorem yl_all (r : List St) (y : Int) : yl r y r.length = r.map (sty y) := by simp [yl]
theorem si_map {f : St → St} {r : List St} {i : Nat} (h : i < r.length) : si (r.map f) i = f (si r i) := by rw [si_of_lt (by simpa using h), si_of_lt h]; simp
theorem yl_si {r : List St} {y : Int} {j i : Nat} (hi : i < r.length) : si (yl r y j) i = if i < j then sty y (si r i) else si r i := by
  rw [si_of_lt (by rw [yl_len]; exact hi), si_of_lt hi]
  unfold yl
  by_cases h : i < j
  · rw [if_pos h, List.getElem_append_left (by simp; omega)]; simp
  · rw [if_neg h, List.getElem_append_right (by simp; omega)]
    simp only [List.getElem_drop, List.length_map, List.length_take]
    congr 1; omega
theorem yl_succ {r : List St} {y : Int} {j : Nat} (hj : j < r.length) : (yl r y j).set j { si (yl r y j) j with y := y } = yl r y (j + 1) := si_ext (by simp [yl_len]) (fun i hi => by
  rw [List.length_set, yl_len] at hi
  by_cases e : i = j
  · subst e
    rw [si_set (by rw [yl_len]; exact hj), if_pos rfl, yl_si hj, if_neg (Nat.lt_irrefl _), yl_si hj, if_pos (by omega)]; rfl
  · rw [si_set (by rw [yl_len]; exact hj), if_neg e, yl_si hi, yl_si hi]
    by_cases h : i < j
    · rw [if_pos h, if_pos (by omega)]
    · rw [if_neg h, if_neg (by omega)])

/-- The error of Chart, and the chart. -/
def cherr (l : List Int) (y : Int) : Int := if oerr l ≠ 0 then oerr l else if y < 1 ∨ 6 < y then 1 else 0
def chres (l : List Int) (y : Int) : List (List St) := if cherr l y = 0 then chartOf l y else []

theorem end_bd (i : Nat) (m : Int) : ((cnt (endL i m) + cnt (endR i m) : Nat) : Int) ≤ 2 := by
  have := cnt_le (endL i m); have := cnt_le (endR i m); omega
/-- The function for a step builds its row. -/
theorem build_calls (n i : Nat) (m : Int) (w : World) (hn : 2 ≤ n ∧ n ≤ 16) (hm : -2 ≤ m ∧ m ≤ 2) (h2 : 2 ≤ (n : Int) + m) : Calls Tryd.prog (endF m) #[.int .i64 n, .bool (endL i m), .bool (endR i m)] w (RetRO w (shR n i m)) := by
  have hs := end_sum (i := i) hm
  rcases (show (m = 2 ∨ m = 1) ∨ (m = -2 ∨ m = -1) ∨ m = 0 by omega) with h | h | h
  · have e : endF m = 47 := by unfold endF; rw [if_pos h]
    rw [e]; unfold shR; rw [if_pos h]
    exact wider_calls n _ _ w (by omega)
  · have e : endF m = 48 := by unfold endF; rw [if_neg (by omega), if_pos h]
    rw [e]; unfold shR; rw [if_neg (by omega), if_pos h]
    rw [if_neg (by omega)] at hs
    exact narrower_calls n _ _ w (by omega)
  · have e : endF m = 46 := by unfold endF; rw [if_neg (by omega), if_neg (by omega)]
    rw [e]; unfold shR; rw [if_neg (by omega), if_neg (by omega)]
    exact plain_calls n _ _ w (by omega)

theorem Chart_bad (v : Value) (c : Nat) (l : List Int) (y : Int) (w : World) (h : IS .i64 w v c l) (hy : 0 ≤ y ∧ y ≤ 255) (he : cherr l y ≠ 0) : Calls Tryd.prog 12 #[v, .int .u8 y] w (RetCE w [] (cherr l y)) := by
  have hck := fun w' (x : Ext w w') => HCheck_calls v c l w' (h.ext x)
  obtain ⟨ao, n, c', rfl, hn, rfl, hIS⟩ := h.out
  have hbx := fun (w' : World) (x : Ext (w.alloc (.cells #[.slice none 0 0] 26)) w') => x.block (show (w.alloc (.cells #[.slice none 0 0] 26)).heap[w.heap.size]? = some (.cells #[.slice none 0 0] 26 (0, 0)) from Deep.blk_alloc_new _ _)
  have hfin : ∀ w' e, Ext w w' → e = cherr l y → RetCE w [] (cherr l y) (.returned (.tuple #[.agg #[.slice none 0 0], .int .i64 e])) w' := fun w' e x he => ⟨_, by rw [he], RR.nil _, x⟩
  have HK := Lib.hid hck; have HBx := Lib.hid hbx; have HF := Lib.hid hfin
  have h1 : oerr l ≠ 0 → oerr l = cherr l y := fun h => by unfold cherr; rw [if_pos h]
  have h2 : oerr l = 0 → (y < 1 ∨ 6 < y) ∧ 1 = cherr l y := fun h => by
    by_cases hb : y < 1 ∨ 6 < y
    · exact ⟨hb, by unfold cherr; rw [if_neg (by omega), if_pos hb]⟩
    · exfalso; apply he; unfold cherr; rw [if_neg (by omega), if_neg hb]
  generalize oerr l = q at HK h1 h2
  have H1 := Lib.hid h1; have H2 := Lib.hid h2
  clear hck hbx hfin h hIS he h1 h2 hn
  go_enter Tryd.func12, Tryd.ntmps12
  go_wp2_with fail
  refine (HK.out _ ((Ext.refl w).alloc _)).mono ?_
  rintro e w1 ⟨rfl, x1⟩
  have hb := HBx.out _ x1
  have X1 := Lib.hid (((Ext.refl w).alloc _).trans x1)
  have b0 : w1.cell? ⟨w.heap.size, 0, none⟩ = some (.slice none 0 0) := by simp [World.cell?, hb]
  have b1 : w1.frozen? ⟨w.heap.size, 0, none⟩ = false := by simp [World.frozen?, hb]
  clear hb x1
  by_cases hq : q = 0
  · obtain ⟨hb, he⟩ := H2.out hq
    have tq : (q != 0) = false := by rw [hq]; rfl
    have HE := Lib.hid he
    by_cases hy1 : y < 1
    · clear he hb hq H1 H2
      go_wp2
      exact bodyPost_ret (v := .tuple #[.agg #[.slice none 0 0], .int .i64 1]) (by simp [results, Tryd.results12, go_sem, World.cell?_setCell_same, *]) rfl (HF.out _ _ (X1.out.setCell (Nat.le_refl _) _) HE.out)
    · have hy2 : 6 < y := by omega
      clear he hb hq H1 H2
      go_wp2
      exact bodyPost_ret (v := .tuple #[.agg #[.slice none 0 0], .int .i64 1]) (by simp [results, Tryd.results12, go_sem, World.cell?_setCell_same, *]) rfl (HF.out _ _ (X1.out.setCell (Nat.le_refl _) _) HE.out)
  · have HE := Lib.hid (H1.out hq)
    have tq : (q != 0) = true := by rw [bne, beq_eq_false_iff_ne.2 hq]; rfl
    clear hq H1 H2
    go_wp2
    exact bodyPost_ret (v := .tuple #[.agg #[.slice none 0 0], .int .i64 q]) (by simp [results, Tryd.results12, go_sem, World.cell?_setCell_same, *]) rfl (HF.out _ _ (X1.out.setCell (Nat.le_refl _) _) HE.out)
end Go.Proofs.YtinijapkipeamaaDoor
