/- Undone. -/
import Derived.Test.YtlhkehfplcclgaaDoorKb
namespace Go.Proofs.YtlhkehfplcclgaaDoor
set_option linter.unusedVariables false
set_option linter.unusedSimpArgs false
set_option maxRecDepth 8000
open Go Go.RowKit

def und (t : Tab) (l : List Nm) : List Nm := l.filter fun a => !fastB t a
theorem und_yes {t : Tab} {l : List Nm} {k : Nat} (hk : k < l.length) (h : fastB t (ni l k) = false) : und t (l.take (k + 1)) = und t (l.take k) ++ [ni l k] := by
  unfold und
  rw [ni_of hk] at h ⊢
  rw [List.take_succ_eq_append_getElem hk, List.filter_append]
  simp [h]
theorem und_no {t : Tab} {l : List Nm} {k : Nat} (hk : k < l.length) (h : fastB t (ni l k) = true) : und t (l.take (k + 1)) = und t (l.take k) := by
  unfold und
  rw [ni_of hk] at h
  rw [List.take_succ_eq_append_getElem hk, List.filter_append]
  simp [h]
theorem und_len (t : Tab) (l : List Nm) : (und t l).length ≤ l.length := List.length_filter_le _ _
set_option maxHeartbeats 8000000 in
theorem Undone_calls (tv cv hv fv : Value) (f : Fab) (w : World) (h : FB w tv cv hv fv f) (hin : FIn f) :
    Calls Tryd.prog 17 #[.agg #[tv, cv, hv, fv]] w (RetK w 41 ((und f.ys f.fallen).map Nm.cs)) := by
  obtain ⟨ct, hT⟩ := h.t
  obtain ⟨cf, hF⟩ := h.f
  have HFa := Lib.hid (fun w' a (x : Ext w w') (ha : Nm.In a) => Fast_calls tv ct f.ys a w' (hT.ext x) ha hin.n4 hin.n5)
  obtain ⟨ta, tn, rfl, o1, _, _, _⟩ := hT.open
  obtain ⟨ao, n, rfl, hn, hnc, hc9, hat⟩ := hF.open
  have n9 : n ≤ 1000 := by have := hin.n2; omega
  obtain ⟨W, hW⟩ : ∃ W, W = w.alloc (.cells #[.slice ta tn ct, cv, hv, .slice ao n cf] 35) := ⟨_, rfl⟩
  have xW : Ext w W := by rw [hW]; exact (Ext.refl _).alloc _
  have HB := Lib.hid (show B4 W w.heap.size (.slice ta tn ct) cv hv (.slice ao n cf) 35 by rw [hW]; exact B4.new _ _ _ _ _ _)
  have Hat := Lib.hid (fun i (hi : i < n) => (by obtain ⟨b, o, e, ha⟩ := hat i hi; exact ⟨⟨b, o, e, ha.ext xW⟩, hin.fallen _ (ni_mem (by omega))⟩ : (∃ b o, ao = some ⟨b, o, none⟩ ∧ At2 W b (o + i * 2) (ni f.fallen i)) ∧ (ni f.fallen i).In))
  obtain ⟨U, hU⟩ : ∃ U : Nat → List Nm, U = fun k => und f.ys (f.fallen.take k) := ⟨_, rfl⟩
  have HU0 := Lib.hid (show U 0 = [] by rw [hU]; rfl)
  have HUy := Lib.hid (show ∀ k, k < n → fastB f.ys (ni f.fallen k) = false → U (k + 1) = U k ++ [ni f.fallen k] from fun k hk hh => by rw [hU]; exact und_yes (by omega) hh)
  have HUn := Lib.hid (show ∀ k, k < n → fastB f.ys (ni f.fallen k) = true → U (k + 1) = U k from fun k hk hh => by rw [hU]; exact und_no (by omega) hh)
  have hul : ∀ k, (U k).length ≤ 1000 := fun k => by
    rw [hU]
    have h1 := und_len f.ys (f.fallen.take k)
    have h2 : (f.fallen.take k).length ≤ f.fallen.length := by simp; omega
    dsimp only
    omega
  have HUl := Lib.hid hul
  clear hul
  have HUE := Lib.hid (show und f.ys f.fallen = U n by rw [hU, hn]; dsimp only; rw [List.take_length])
  have XW := Lib.hid xW; have HW := Lib.hid hW
  rw [HUE.out]
  clear h hT hF hat hin hn hU xW hW o1
  go_enter Tryd.func17, Tryd.ntmps17
  have p3 := HB.out.c3
  rw [HW.out] at p3
  go_wp2
  rw [← HW.out]
  clear p3
  go_loopg [3, 5, 9] n (fun gk r _ i wr => ∃ k : Nat, k + gk = n ∧ i = .int .i64 k ∧ Hid (Ext W wr ∧ wr.ownsRow W.heap.size 41 2 r (U k).length ((U k).map Nm.cs).flatten))
  case atStart => exact ⟨0, by omega, rfl, Lib.hid ⟨Ext.refl _, by rw [HU0.out]; exact own_none _ _ _ _⟩⟩
  case round =>
    obtain ⟨k, hk, rfl, G⟩ := hrel
    obtain ⟨ar, cr, hr, _⟩ := own_slice G.out.2
    obtain ⟨L, hL⟩ : ∃ L, L = (U k).length := ⟨_, rfl⟩
    have hL9 := HUl.out k
    rw [← hL] at hr hL9
    subst hr
    have HL := Lib.hid hL
    clear hL
    by_cases hlt : k < n
    · obtain ⟨⟨b', o', rfl, hA⟩, hIn⟩ := Hat.out k hlt
      have e1 : (k : Int) < n := by omega
      have e2 : (0 : Int) ≤ k := by omega
      obtain ⟨c0, c1⟩ := hA.ext G.out.1
      have huy := HUy.out k hlt
      have hun := HUn.out k hlt
      obtain ⟨a, ha⟩ : ∃ a, a = ni f.fallen k := ⟨_, rfl⟩
      rw [← ha] at c0 c1 hIn huy hun
      obtain ⟨W3, hW3⟩ : ∃ W3, W3 = wr.alloc (.cells #[.int .u8 a.y, .int .i64 a.n] 41) := ⟨_, rfl⟩
      have z3 : Ext wr W3 := by rw [hW3]; exact (Ext.refl _).alloc _
      have HN3 := Lib.hid (show BN W3 wr.heap.size a by rw [hW3]; exact BN.new wr a)
      have X3 := Lib.hid (G.out.1.trans z3)
      have Z3 := Lib.hid z3
      have s0 := cell_alloc (HB.out.ext G.out.1).c0 (.cells #[.int .u8 a.y, .int .i64 a.n] 41)
      have sl : w.heap.size < wr.heap.size := (HB.out.ext G.out.1).lt
      have HW3 := Lib.hid hW3; have HIn := Lib.hid hIn; have HY := Lib.hid huy; have HN := Lib.hid hun
      clear hW3 ha hIn hA z3 huy hun
      go_wp2_with fail
      rw [← HW3.out]
      clear c0 c1 s0 sl
      refine (HFa.out W3 a (XW.out.trans X3.out) HIn.out).mono ?_
      rintro e w4 ⟨rfl, x4⟩
      have X4 := Lib.hid (X3.out.trans x4)
      have HO4 := Lib.hid (own_extk G.out.2 (Z3.out.trans x4))
      obtain ⟨c0, c1⟩ := (HN3.out.ext x4).at
      simp only [Nat.zero_add] at c1
      clear x4
      rcases hfb : fastB f.ys a with _ | _
      · have HU1 := Lib.hid (HY.out hfb)
        clear hfb
        have hown4 := HO4.out
        rw [← HL.out] at hown4
        have HO5 := Lib.hid hown4
        clear hown4
        go_wp2_with (at_builtin; refine app_k ekN rfl _ _ rfl W.heap.size _ L ((U k).map Nm.cs) rfl (own_extk HO5.out ((Ext.refl _).alloc _)) _ 1 [Nm.cs a] rfl (CK.of_blk (Deep.blk_alloc_new _ _) (Ks.nm [a]) rfl (Nat.le_refl _) (by omega) rfl) (Ks.nm [a]) ?c1 ?c2 ?c3 ?_)
        case c1 => simp; omega
        case c2 => simp; omega
        case c3 => have h1 := X4.out.size; simp; omega
        intro v5 w5 hown hgr
        have HNx := Lib.hid (show Ext W w5 ∧ (w5.ownsRow W.heap.size 41 2 v5 (U (k + 1)).length ((U (k + 1)).map Nm.cs).flatten) from ⟨Ext.grown (X4.out.trans ((Ext.refl _).alloc _)) hgr fun j hj => (HO5.out.lt j hj).1, by rw [HU1.out, List.length_append, List.map_append, ← HL.out]; simpa using hown⟩)
        clear hown hgr
        go_wp2
        go_roundg (n - (k + 1))
        case measure => omega
        case rel => exact ⟨k + 1, by omega, by go_num, HNx⟩
      · have HU1 := Lib.hid (HN.out hfb)
        have HNx := Lib.hid (show Ext W w4 ∧ (w4.ownsRow W.heap.size 41 2 (.slice ar L cr) (U (k + 1)).length ((U (k + 1)).map Nm.cs).flatten) from ⟨X4.out, by rw [HU1.out]; exact HO4.out⟩)
        clear hfb
        go_wp2
        go_roundg (n - (k + 1))
        case measure => omega
        case rel => exact ⟨k + 1, by omega, by go_num, HNx⟩
    · obtain rfl : k = n := by omega
      have e1 : ¬ (k : Int) < k := by omega
      obtain ⟨cq, hq⟩ := CK.of_own G.out.2 (Ks.nm _) (by simp) (by decide)
      have HCp := Lib.hid (CopN_calls _ cq ((U k).map Nm.cs) wr hq (Ks.nm _) (by have := HUl.out k; simp; omega))
      clear hq
      go_wp2_with fail
      refine HCp.out.mono ?_
      rintro e w9 ⟨g9, n9', hn9, rfl, hg9, hb9, x9⟩
      have HE := Lib.hid (show RetK w 41 ((U k).map Nm.cs) (.returned (.slice (some ⟨g9, 0, none⟩) n9' n9')) w9 from ⟨g9, n9', hn9, rfl, by have := (XW.out.trans G.out.1).size; omega, hb9, XW.out.trans (G.out.1.trans x9)⟩)
      clear hn9 hg9 hb9 x9
      go_wp2
      go_ret
      exact HE.out
end Go.Proofs.YtlhkehfplcclgaaDoor
