/- Texts of this claim in one file: libraries and walks. -/
import Derived.Deep.RegionHeld3
import Derived.Test.YtlhkehfplcclgaaDoorL7
import Derived.Test.YtlhkehfplcclgaaDoorL14
import Derived.Test.YtlhkehfplcclgaaDoorL15
import Derived.Test.YtlhkehfplcclgaaDoorL16
/- sorted: the walk. -/
namespace Go.Proofs.YtlhkehfplcclgaaDoor
set_option linter.unusedVariables false
set_option linter.unusedSimpArgs false
set_option maxRecDepth 8000
open Go Go.RowKit

theorem own_swp {w : World} {B g n c k : Nat} {r : List Nm} (h : w.ownsRow B 41 2 (.slice (some ⟨g, 0, none⟩) n c) n (r.map Nm.cs).flatten) (hk : k < r.length) (a b : Nm) (ha : a = ni r k) (hb : b = ni r (k - 1)) :
    ((((w.setCell ⟨g, k * 2, none⟩ (.int .u8 b.y)).setCell ⟨g, k * 2 + 1, none⟩ (.int .i64 b.n)).setCell ⟨g, (k - 1) * 2, none⟩ (.int .u8 a.y)).setCell ⟨g, (k - 1) * 2 + 1, none⟩ (.int .i64 a.n)).ownsRow B 41 2 (.slice (some ⟨g, 0, none⟩) n c) n ((swp r k).map Nm.cs).flatten := by
  have hl : (r.map Nm.cs).flatten.length = r.length * 2 := by rw [(Ks.nm r).len, List.length_map]
  have h1 := own_setAt (own_setAt h (o := k * 2) (by rw [hl]; omega) (.int .u8 b.y)) (o := k * 2 + 1) (by rw [List.length_set, hl]; omega) (.int .i64 b.n)
  rw [cs_set r k b hk] at h1
  have hl2 : ((r.set k b).map Nm.cs).flatten.length = r.length * 2 := by rw [(Ks.nm _).len, List.length_map, List.length_set]
  have h2 := own_setAt (own_setAt h1 (o := (k - 1) * 2) (by rw [hl2]; omega) (.int .u8 a.y)) (o := (k - 1) * 2 + 1) (by rw [List.length_set, hl2]; omega) (.int .i64 a.n)
  rw [cs_set (r.set k b) (k - 1) a (by rw [List.length_set]; omega)] at h2
  rw [show swp r k = (r.set k b).set (k - 1) a by rw [ha, hb]; rfl]
  exact h2
def RetSo (w : World) (l : List Nm) (en : Ending) (w' : World) : Prop := ∃ v r, en = .returned v ∧ r.Perm l ∧ (∀ p q, p < q → q < r.length → ¬ ltN (ni r q) (ni r p)) ∧ w'.ownsRow w.heap.size 41 2 v r.length (r.map Nm.cs).flatten ∧ Ext w w'
set_option maxHeartbeats 8000000 in
theorem Sorted_calls (v : Value) (c : Nat) (l : List Nm) (w : World) (h : NL w v c l) (h9 : l.length ≤ 100) :
    Calls Tryd.prog 13 #[v] w (RetSo w l) := by
  have HC := Lib.hid h
  obtain ⟨la, n, rfl, hn, hnc, hc9, _⟩ := h.open
  have Hn := Lib.hid hn
  have n9 : n ≤ 100 := by omega
  clear hn h h9
  go_enter Tryd.func13, Tryd.ntmps13
  go_wp2_with (at_builtin; refine app_at ekN rfl _ _ rfl w.heap.size _ 0 [] rfl (own_lit w w.heap.size (Nat.le_refl _) _ _) _ c (l.map Nm.cs) rfl (HC.out.ext ((Ext.refl _).alloc _)) (Ks.nm _) ?c1 ?c2 ?c3 ?_)
  case c1 => have := Hn.out; simp; omega
  case c2 => have := Hn.out; simp; omega
  case c3 => simp
  intro v1 w1 hown hgr hat
  have hown' : w1.ownsRow w.heap.size 41 2 v1 n (l.map Nm.cs).flatten := by simpa [Hn.out] using hown
  have x1 : Ext w w1 := Ext.grown (w' := w.alloc (Obj.cells #[] 41)) ((Ext.refl _).alloc _) hgr fun g hg => by cases hg; exact Nat.le_refl _
  obtain ⟨a1, c1, rfl, hc1⟩ := own_slice hown'
  have H1 := Lib.hid (And.intro x1 hown')
  clear hown hgr hat hown' x1
  go_wp2
  go_loopg [4, 5] (n - 1) (fun gk i _ wr => ∃ (m : Nat) (r : List Nm), gk = n - m ∧ 1 ≤ m ∧ m ≤ n + 1 ∧ i = .int .i64 m ∧ Hid (Ext w wr ∧ wr.ownsRow w.heap.size 41 2 (.slice a1 n c1) n (r.map Nm.cs).flatten ∧ r.Perm l ∧ ∀ p q, p < q → q < m → q < n → ¬ ltN (ni r q) (ni r p)))
  case atStart => exact ⟨1, l, rfl, by omega, by omega, rfl, Lib.hid ⟨H1.out.1, H1.out.2, List.Perm.refl _, fun p q h1 h2 _ => by omega⟩⟩
  case round =>
    obtain ⟨m, r, hgk, hm1, hmn, rfl, G⟩ := hrel
    by_cases hlt : m < n
    · have f1 : (m : Int) < n := by omega
      have f2 : (0 : Int) ≤ m := by omega
      have hr := G.out.2.2.1.length_eq
      rw [← Hn.out] at hr
      obtain ⟨g, cap, e, hgw, _⟩ := G.out.2.1.form (by omega)
      cases e
      have Hgw := Lib.hid hgw
      have Hgk := Lib.hid hgk
      clear hr hgk hgw
      go_wp2
      go_loopg [5] m (fun gj kv wq => ∃ (k : Nat) (r : List Nm), gj = k ∧ k ≤ m ∧ kv = .int .i64 k ∧ Hid (Ext w wq ∧ wq.ownsRow w.heap.size 41 2 (.slice (some ⟨g, 0, none⟩) n c1) n (r.map Nm.cs).flatten ∧ r.Perm l ∧ SrI r m k))
      case atStart => exact ⟨m, r, rfl, Nat.le_refl _, rfl, Lib.hid ⟨G.out.1, G.out.2.1, G.out.2.2.1, fun p q h1 h2 h3 => G.out.2.2.2 p q h1 (by omega) (by omega)⟩⟩
      case round =>
        obtain ⟨k, r, hgj, hkm, rfl, G2⟩ := hrel
        have hrl : r.length = n := by rw [G2.out.2.2.1.length_eq]; exact Hn.out.symm
        have Hgj := Lib.hid hgj
        have Hrl := Lib.hid hrl
        clear hgj hrl
        by_cases hk0 : k = 0
        · subst hk0
          have e7 : ¬ (0 : Int) < ((0 : Nat) : Int) := by omega
          have HN := Lib.hid (show ∀ p q, p < q → q < m + 1 → q < n → ¬ ltN (ni r q) (ni r p) from fun p q h1 h2 _ => SrI.done G2.out.2.2.2 (.inl rfl) p q h1 (by omega))
          have HE := Lib.hid (show Ext w (wr.drewN 1) from G2.out.1.trans (by (focus (repeat (first | (with_reducible exact Ext.refl _) | (with_reducible apply Ext.drew) | (with_reducible apply Ext.drewN) | (with_reducible apply Ext.alloc))))))
          go_wp2
          go_quiet (fail)
          go_wp2
          go_roundg (n - (m + 1))
          case measure => have := Hgk.out; omega
          case rel => exact ⟨m + 1, r, rfl, by omega, by omega, by go_num, Lib.hid ⟨G2.out.1.trans (by (focus (repeat (first | (with_reducible exact Ext.refl _) | (with_reducible apply Ext.drew) | (with_reducible apply Ext.drewN) | (with_reducible apply Ext.alloc))))), own_extk G2.out.2.1 (by (focus (repeat (first | (with_reducible exact Ext.refl _) | (with_reducible apply Ext.drew) | (with_reducible apply Ext.drewN) | (with_reducible apply Ext.alloc))))), G2.out.2.2.1, HN.out⟩⟩
        · have e7 : (0 : Int) < k := by omega
          have e7n : 0 < k := by omega
          have e8 : decide ((0 : Int) < k) = true := decide_eq_true e7
          have e8n : decide (0 < k) = true := decide_eq_true e7n
          have e9 : IntKind.i64.wrap ((k : Int) - 1) = (k : Int) - 1 := IntWalk.i64_in _ ⟨by omega, by omega⟩
          have e10 : ((k : Int) - 1).toNat = k - 1 := by omega
          have e11 : (0 : Int) ≤ (k : Int) - 1 := by omega
          have e13 : (1 : Int) ≤ k := by omega
          have e14 : 1 ≤ k := by omega
          have e12 : (k : Int) - 1 < n := by omega
          have e15 : (k : Int) < n := by omega
          clear hk0
          obtain ⟨b1, o1, ex1, hA⟩ := own_at2 G2.out.2.1 Hrl.out.symm (i := k) (by omega)
          cases ex1
          obtain ⟨b2, o2, ex2, hB⟩ := own_at2 G2.out.2.1 Hrl.out.symm (i := k - 1) (by omega)
          cases ex2
          obtain ⟨a, ha⟩ : ∃ a, a = ni r k := ⟨_, rfl⟩
          obtain ⟨b, hb⟩ : ∃ b, b = ni r (k - 1) := ⟨_, rfl⟩
          rw [← ha] at hA
          rw [← hb] at hB
          rw [Nat.zero_add] at hA hB
          obtain ⟨q0_1, q0_2⟩ := hA
          obtain ⟨q0_3, q0_4⟩ := hB
          have HAB := Lib.hid (And.intro ha hb)
          clear ha hb
          go_wp2
          go_region_held3 (fun w' => w'.cell? ⟨g, k * 2, Option.none⟩ = some (.int .u8 a.y) ∧ w'.cell? ⟨g, k * 2 + 1, Option.none⟩ = some (.int .i64 a.n) ∧ w'.cell? ⟨g, (k - 1) * 2, Option.none⟩ = some (.int .u8 b.y) ∧ w'.cell? ⟨g, (k - 1) * 2 + 1, Option.none⟩ = some (.int .i64 b.n)) (first | (with_reducible exact ⟨q0_1, q0_2, q0_3, q0_4⟩) | (with_reducible exact ⟨q1_1, q1_2, q1_3, q1_4⟩) | go_keep) (first
            | (go_at_call 21; (refine (Less_calls a b _).mono ?_); intro e w5 hh; obtain ⟨rfl, x⟩ := hh; have Xa : Hid (Ext wr w5) := Lib.hid (Ext.trans (by ((repeat (first | (with_reducible exact Ext.refl _) | (with_reducible apply Ext.drew) | (with_reducible apply Ext.drewN) | (with_reducible apply Ext.alloc))); done)) x); have q1_1 := Xa.out.cell q0_1; have q1_2 := Xa.out.cell q0_2; have q1_3 := Xa.out.cell q0_3; have q1_4 := Xa.out.cell q0_4; clear x))
          have hl1 : ltN a b → lessI a b = 1 := fun h => by unfold lessI; rw [if_pos (cmpN_lt.2 h)]
          have hl0 : ¬ ltN a b → lessI a b = 0 := fun h => by unfold lessI; rw [if_neg (fun e => h (cmpN_lt.1 e))]
          by_cases hab : ltN a b
          · rw [hl1 hab]
            have HLt := Lib.hid hab
            have ho5 := own_extk G2.out.2.1 Xa.out
            have HW6 := Lib.hid (show ∀ W' : World, W' = (((w5.setCell ⟨g, k * 2, none⟩ (.int .u8 b.y)).setCell ⟨g, k * 2 + 1, none⟩ (.int .i64 b.n)).setCell ⟨g, (k - 1) * 2, none⟩ (.int .u8 a.y)).setCell ⟨g, (k - 1) * 2 + 1, none⟩ (.int .i64 a.n) → Ext w W' ∧ W'.ownsRow w.heap.size 41 2 (.slice (some ⟨g, 0, none⟩) n c1) n ((swp r k).map Nm.cs).flatten ∧ (swp r k).Perm l ∧ SrI (swp r k) m (k - 1) from fun W' hW' => by
              subst hW'
              have hgb := Hgw.out
              exact ⟨Ext.setCell (Ext.setCell (Ext.setCell (Ext.setCell (G2.out.1.trans Xa.out) hgb _) hgb _) hgb _) hgb _, own_swp ho5 (by rw [Hrl.out]; omega) a b HAB.out.1 HAB.out.2, (swp_perm e7n (by rw [Hrl.out]; omega)).trans G2.out.2.2.1, SrI.swap G2.out.2.2.2 e7n (by omega) (by rw [Hrl.out]; omega) (by rw [← HAB.out.1, ← HAB.out.2]; exact HLt.out)⟩)
            have hfz : ∀ o, w5.frozen? ⟨g, o, none⟩ = false := fun o => by
              obtain ⟨_, h2 | ⟨g', cap, cur, h3, h4, h5, h6⟩⟩ := ho5
              · cases h2.1
              · cases h3; simp [World.frozen?, h5]
            have z1 := hfz (k * 2); have z2 := hfz (k * 2 + 1); have z3 := hfz ((k - 1) * 2); have z4 := hfz ((k - 1) * 2 + 1)
            clear hl1 hl0 hab hfz ho5
            go_wp2
            go_region
            go_wp2
            go_roundg (k - 1)
            case measure => have := Hgj.out; omega
            case rel =>
              have hh := HW6.out _ rfl
              exact ⟨k - 1, swp r k, rfl, by omega, by rw [show ((k - 1 : Nat) : Int) = (k : Int) - 1 by omega], Lib.hid ⟨hh.1.trans (by (focus (repeat (first | (with_reducible exact Ext.refl _) | (with_reducible apply Ext.drew) | (with_reducible apply Ext.drewN) | (with_reducible apply Ext.alloc))))), own_extk hh.2.1 (by (focus (repeat (first | (with_reducible exact Ext.refl _) | (with_reducible apply Ext.drew) | (with_reducible apply Ext.drewN) | (with_reducible apply Ext.alloc))))), hh.2.2.1, hh.2.2.2⟩⟩
          · rw [hl0 hab]
            have HN := Lib.hid (show ∀ p q, p < q → q < m + 1 → q < n → ¬ ltN (ni r q) (ni r p) from fun p q h1 h2 _ => SrI.done G2.out.2.2.2 (.inr (by rw [← HAB.out.1, ← HAB.out.2]; exact hab)) p q h1 (by omega))
            have HG := Lib.hid (And.intro (G2.out.1.trans Xa.out) (own_extk G2.out.2.1 Xa.out))
            clear hl1 hl0 hab
            go_wp2
            go_roundg (n - (m + 1))
            case measure => have := Hgk.out; omega
            case rel => exact ⟨m + 1, r, rfl, by omega, by omega, by go_num, Lib.hid ⟨HG.out.1, HG.out.2, G2.out.2.2.1, HN.out⟩⟩
    · have f1 : ¬ (m : Int) < n := by omega
      have HE := Lib.hid (show RetSo w l (.returned (.slice a1 n c1)) wr from ⟨_, r, rfl, G.out.2.2.1, fun p q h1 h2 => G.out.2.2.2 p q h1 (by have h3 := G.out.2.2.1.length_eq; have h4 := Hn.out; omega) (by have h3 := G.out.2.2.1.length_eq; have h4 := Hn.out; omega), by have h3 := G.out.2.2.1.length_eq; have h4 := Hn.out; rw [h3, ← h4]; exact G.out.2.1, G.out.1⟩)
      clear hlt hgk
      go_wp2
      go_ret
      exact HE.out
end Go.Proofs.YtlhkehfplcclgaaDoor
/- The fabric of plain data, in memory. -/
namespace Go.Proofs.YtlhkehfplcclgaaDoor
set_option linter.unusedVariables false
set_option linter.unusedSimpArgs false
set_option maxRecDepth 8000
open Go Go.RowKit

def C3.cs (c : Int × Int × Int) : List Value := [.int .u8 c.1, .int .u8 c.2.1, .int .u8 c.2.2]
def c3 (l : List (Int × Int × Int)) (i : Nat) : Int × Int × Int := l.getD i (0, 0, 0)
def C3.In (c : Int × Int × Int) : Prop := (0 ≤ c.1 ∧ c.1 ≤ 255) ∧ (0 ≤ c.2.1 ∧ c.2.1 ≤ 255) ∧ 0 ≤ c.2.2 ∧ c.2.2 ≤ 255
theorem c3_of {l : List (Int × Int × Int)} {i : Nat} (h : i < l.length) : c3 l i = l[i] := by unfold c3; simp [List.getD, h]
theorem c3_mem {l : List (Int × Int × Int)} {i : Nat} (h : i < l.length) : c3 l i ∈ l := by rw [c3_of h]; exact List.getElem_mem h
/-- A slice of arrays of three bytes. -/
def CL3 (w : World) (v : Value) (c : Nat) (l : List (Int × Int × Int)) : Prop := CK 3 w v c (l.map C3.cs)
theorem CL3.ext {w w' : World} {v : Value} {c : Nat} {l : List (Int × Int × Int)} (h : CL3 w v c l) (x : Ext w w') : CL3 w' v c l := CK.ext h x
def At3 (w : World) (b o : Nat) (c : Int × Int × Int) : Prop := w.cell? ⟨b, o, none⟩ = some (.int .u8 c.1) ∧ w.cell? ⟨b, o + 1, none⟩ = some (.int .u8 c.2.1) ∧ w.cell? ⟨b, o + 2, none⟩ = some (.int .u8 c.2.2)
theorem At3.ext {w w' : World} {b o : Nat} {c : Int × Int × Int} (h : At3 w b o c) (x : Ext w w') : At3 w' b o c := ⟨x.cell h.1, x.cell h.2.1, x.cell h.2.2⟩
theorem CL3.open {w : World} {v : Value} {c : Nat} {l : List (Int × Int × Int)} (h : CL3 w v c l) : ∃ ao n, v = .slice ao n c ∧ n = l.length ∧ n ≤ c ∧ c ≤ 9223372036854775807 ∧ ∀ i, i < n → ∃ b o, ao = some ⟨b, o, none⟩ ∧ At3 w b (o + i * 3) (c3 l i) := by
  obtain ⟨ao, h1, h2, h3, h4⟩ := CK.op h
  rw [List.length_map] at h1 h2 h4
  refine ⟨ao, _, h1, rfl, h2, h3, fun i hi => ?_⟩
  obtain ⟨b, o, h5, h6⟩ := h4 i hi
  rw [getD_map C3.cs (0, 0, 0) hi] at h6
  exact ⟨b, o, h5, h6 0 (by simp [C3.cs]), h6 1 (by simp [C3.cs]), h6 2 (by simp [C3.cs])⟩
/-- The plain data of a fabric, in memory. -/
structure FDm (w : World) (tv : Value) (fal : Int) (hv cv : Value) (x : FD) : Prop where
  t : ∃ c, LI w tv c x.t
  fal : fal = x.fal
  h : ∃ c, IS .u8 w hv c x.held
  c : ∃ c, CL3 w cv c x.cross
  it : ∀ y ∈ x.t, y.In
  ifal : 0 ≤ x.fal ∧ x.fal < 18446744073709551616
  ih : ∀ i, i < x.held.length → 0 ≤ gi x.held i ∧ gi x.held i ≤ 255
  ic : ∀ c ∈ x.cross, C3.In c
/-- The three lists of a fabric in rows of the call's own. -/
structure OF (N : Nat) (w : World) (cv hv fv : Value) (f : Fab) : Prop where
  c : w.ownsRow N 52 5 cv f.cr.length (f.cr.map Xg.cs).flatten
  h : w.ownsRow N 41 2 hv f.held.length (f.held.map Nm.cs).flatten
  f : w.ownsRow N 41 2 fv f.fallen.length (f.fallen.map Nm.cs).flatten
  d : DJ hv fv
def RetFD (w : World) (x : FD) (en : Ending) (w' : World) : Prop :=
  ∃ g0 F us vs lv mv w1 cv hv fv, en = .returned (.tuple #[.agg #[.slice (some ⟨g0, 0, none⟩) 6 6, cv, hv, fv], mv]) ∧ w.heap.size ≤ g0 ∧ OT g0 w1 F us vs (ofT x.t) lv mv ∧ Agr g0 w1 w' ∧ w1.heap.size ≤ w'.heap.size ∧ Ext w w' ∧ OF w1.heap.size w' cv hv fv (ofF x)
theorem OF.ext {N : Nat} {w w' : World} {cv hv fv : Value} {f : Fab} (h : OF N w cv hv fv f) (x : Ext w w') : OF N w' cv hv fv f := ⟨own_extk h.c x, own_extk h.h x, own_extk h.f x, h.d⟩
theorem OF.fb {N g0 : Nat} {w w1 : World} {F : Nat → Value} {us vs : Nat → Nat → Value} {lv mv cv hv fv : Value} {x : FD} (ht : OT g0 w1 F us vs (ofT x.t) lv mv) (e : Agr g0 w1 w) (h : OF N w cv hv fv (ofF x)) : FB w (.slice (some ⟨g0, 0, none⟩) 6 6) cv hv fv (ofF x) :=
  ⟨⟨_, (ht.agr e).tb (fok x).inv.l6⟩, CK.of_own h.c (Ks.xg _) (by simp) (by decide), CK.of_own h.h (Ks.nm _) (by simp) (by decide), CK.of_own h.f (Ks.nm _) (by simp) (by decide)⟩
theorem OF.set4 {N b : Nat} {w : World} {cv hv fv : Value} {f : Fab} (h : OF N w cv hv fv f) (hb : b < N) (x y z u : Value) : OF N ((((w.setCell ⟨b, 0, none⟩ x).setCell ⟨b, 1, none⟩ y).setCell ⟨b, 2, none⟩ z).setCell ⟨b, 3, none⟩ u) cv hv fv f := by
  have hc : cv.ownBlock ≠ some b := fun e => by have := (h.c.lt b e).1; omega
  have hh : hv.ownBlock ≠ some b := fun e => by have := (h.h.lt b e).1; omega
  have hf : fv.ownBlock ≠ some b := fun e => by have := (h.f.lt b e).1; omega
  exact ⟨own_set (own_set (own_set (own_set h.c hc _) hc _) hc _) hc _, own_set (own_set (own_set (own_set h.h hh _) hh _) hh _) hh _, own_set (own_set (own_set (own_set h.f hf _) hf _) hf _) hf _, h.d⟩
/-- What the first loop of Of knows: the fabric's box, what is held, what has fallen. -/
structure OH (w1 w : World) (g0 : Nat) (fv hv : Value) (fl hl : List Nm) : Prop where
  x : Ext w1 w
  b : B4 w w1.heap.size (.slice (some ⟨g0, 0, none⟩) 6 6) (.slice none 0 0) hv (.slice none 0 0) 35
  f : w.ownsRow w1.heap.size 41 2 fv fl.length (fl.map Nm.cs).flatten
  h : w.ownsRow w1.heap.size 41 2 hv hl.length (hl.map Nm.cs).flatten
  d : DJ hv fv
theorem OH.ext {w1 w w' : World} {g0 : Nat} {fv hv : Value} {fl hl : List Nm} (h : OH w1 w g0 fv hv fl hl) (x : Ext w w') : OH w1 w' g0 fv hv fl hl := ⟨h.x.trans x, h.b.ext x, own_extk h.f x, own_extk h.h x, h.d⟩
theorem OH.addF {w1 w w' : World} {g0 : Nat} {fv hv fv' : Value} {fl hl : List Nm} {a : Nm} (h : OH w1 w g0 fv hv fl hl) (hg : w.grownBy w' fv.ownBlock) (hat : AtB w fv fv') (hn : w'.ownsRow w1.heap.size 41 2 fv' (fl.length + 1) ((fl.map Nm.cs).flatten ++ a.cs)) : OH w1 w' g0 fv' hv (fl ++ [a]) hl :=
  ⟨Ext.grown h.x hg fun g e => (h.f.lt g e).1, own_ne_grown h.f h.b (by decide) hg, by simpa using hn, own_keep h.h hg h.d, h.d.at hat h.h⟩
/-- The new list of what is held, in a row that lies behind all others. -/
theorem OH.setH {w1 w w' : World} {g0 : Nat} {fv hv hv' : Value} {fl hl hl' : List Nm} (h : OH w1 w g0 fv hv fl hl) (x : Ext w w') (hn : w'.ownsRow w.heap.size 41 2 hv' hl'.length (hl'.map Nm.cs).flatten) : OH w1 (w'.setCell ⟨w1.heap.size, 2, none⟩ hv') g0 fv hv' fl hl' := by
  have hb := h.b.ext x
  have hs := h.x.size
  have hn' := own_mono hn hs
  exact ⟨Ext.setCell (h.x.trans x) (Nat.le_refl _) _, hb.put2 _, own_set (own_extk h.f x) (own_b4 (own_extk h.f x) hb (by decide)) _, own_set hn' (own_b4 hn' hb (by decide)) _, (DJ.new h.f fun g hg => (hn.lt g hg).1).symm⟩
theorem OH.start {w1 : World} {g0 : Nat} : OH w1 (w1.alloc (.cells #[.slice (some ⟨g0, 0, none⟩) 6 6, .slice none 0 0, .slice none 0 0, .slice none 0 0] 35)) g0 (.slice none 0 0) (.slice none 0 0) [] [] :=
  ⟨(Ext.refl _).alloc _, B4.new _ _ _ _ _ _, own_none _ _ _ _, own_none _ _ _ _, DJ.nil _⟩
theorem runH_bd (x : FD) (t : Tab) (made : List Nm) : ∀ k, (runH x t made k).1.length + (runH x t made k).2.length ≤ k
  | 0 => by simp [runH]
  | k + 1 => by
    have ih := runH_bd x t made k
    rw [runH_succ]
    unfold stepH
    split
    · split
      · dsimp only; rw [List.length_append, List.length_singleton]; omega
      · dsimp only; rw [(insAt_perm _ _ _).length_eq, List.length_cons]; omega
    · omega
/-- .. and its second loop: the crossings. -/
structure OX (w1 w : World) (g0 : Nat) (cv hv fv : Value) (cr : List Xg) (hl fl : List Nm) : Prop where
  x : Ext w1 w
  b : B4 w w1.heap.size (.slice (some ⟨g0, 0, none⟩) 6 6) cv hv fv 35
  c : w.ownsRow w1.heap.size 52 5 cv cr.length (cr.map Xg.cs).flatten
  h : w.ownsRow w1.heap.size 41 2 hv hl.length (hl.map Nm.cs).flatten
  f : w.ownsRow w1.heap.size 41 2 fv fl.length (fl.map Nm.cs).flatten
  d : DJ hv fv
theorem OX.ext {w1 w w' : World} {g0 : Nat} {cv hv fv : Value} {cr : List Xg} {hl fl : List Nm} (h : OX w1 w g0 cv hv fv cr hl fl) (x : Ext w w') : OX w1 w' g0 cv hv fv cr hl fl := ⟨h.x.trans x, h.b.ext x, own_extk h.c x, own_extk h.h x, own_extk h.f x, h.d⟩
theorem OX.setC {w1 w w' : World} {g0 : Nat} {cv cv' hv fv : Value} {cr cr' : List Xg} {hl fl : List Nm} (h : OX w1 w g0 cv hv fv cr hl fl) (x : Ext w w') (hn : w'.ownsRow w.heap.size 52 5 cv' cr'.length (cr'.map Xg.cs).flatten) : OX w1 (w'.setCell ⟨w1.heap.size, 1, none⟩ cv') g0 cv' hv fv cr' hl fl := by
  have hb := h.b.ext x
  have hn' := own_mono hn h.x.size
  exact ⟨Ext.setCell (h.x.trans x) (Nat.le_refl _) _, hb.put1 _, own_set hn' (own_b4 hn' hb (by decide)) _, own_set (own_extk h.h x) (own_b4 (own_extk h.h x) hb (by decide)) _, own_set (own_extk h.f x) (own_b4 (own_extk h.f x) hb (by decide)) _, h.d⟩
/-- A block set elsewhere. -/
theorem OX.set {w1 w : World} {g0 : Nat} {cv hv fv : Value} {cr : List Xg} {hl fl : List Nm} (h : OX w1 w g0 cv hv fv cr hl fl) {g o : Nat} (hg : w1.heap.size < g) {a : Nm} (hb : BN w g a) (h1 : hv.ownBlock ≠ some g) (h2 : fv.ownBlock ≠ some g) (u : Value) : OX w1 (w.setCell ⟨g, o, none⟩ u) g0 cv hv fv cr hl fl :=
  ⟨Ext.setCell h.x (by dsimp only; omega) _, by
    have h3 := h.b
    unfold B4 at h3 ⊢
    rw [Below.heap_setCell _ _ _ _ (by dsimp only; omega)]; exact h3, own_set h.c (show cv.ownBlock ≠ some g from own_ne_ty h.c (show w.heap[g]? = some (.cells #[.int .u8 a.y, .int .i64 a.n] 41 (0, 0)) from hb) (by decide)) _, own_set h.h h1 _, own_set h.f h2 _, h.d⟩
/-- From the first loop's end: what has fallen is sorted, what is held is copied. -/
theorem OX.start {w1 w w2 w3 : World} {g0 : Nat} {fv hv fv' hv' : Value} {fl hl fl' : List Nm} (h : OH w1 w g0 fv hv fl hl) (x : Ext w w2) (hf : w2.ownsRow w.heap.size 41 2 fv' fl'.length (fl'.map Nm.cs).flatten)
    (x3 : Ext (w2.setCell ⟨w1.heap.size, 3, none⟩ fv') w3) (hh : w3.ownsRow w2.heap.size 41 2 hv' hl.length (hl.map Nm.cs).flatten) : OX w1 (w3.setCell ⟨w1.heap.size, 2, none⟩ hv') g0 (.slice none 0 0) hv' fv' [] hl fl' := by
  have hb := (h.b.ext x).put3 fv'
  have hb3 := hb.ext x3
  have hs := h.x.size
  have hs2 := x.size
  have hf' := own_extk (own_set hf (own_b4 hf (h.b.ext x) (by decide)) fv') x3
  have hh' := own_mono hh (Nat.le_trans hs hs2)
  refine ⟨Ext.setCell ((Ext.setCell (h.x.trans x) (Nat.le_refl _) _).trans x3) (Nat.le_refl _) _, hb3.put2 _, own_none _ _ _ _, own_set hh' (own_b4 hh' hb3 (by decide)) _, own_mono (own_set hf' (own_b4 hf' hb3 (by decide)) _) hs, ?_⟩
  exact (DJ.new hf fun g hg => (hh.lt g hg).1).symm
theorem OX.of {w1 w : World} {g0 : Nat} {cv hv fv : Value} {f : Fab} (h : OX w1 w g0 cv hv fv f.cr f.held f.fallen) : OF w1.heap.size w cv hv fv f := ⟨h.c, h.h, h.f, h.d⟩
theorem fold_takeC {made : List Nm} {l : List (Int × Int × Int)} {k : Nat} (h : k < l.length) (cr : List Xg) : (l.take (k + 1)).foldl (stepC made) cr = stepC made ((l.take k).foldl (stepC made) cr) (c3 l k) := by
  rw [List.take_succ_eq_append_getElem h, List.foldl_append, c3_of h]; rfl
/-- The crossings of the first k triples. -/
structure XK (t : Tab) (made : List Nm) (k : Nat) (cr : List Xg) : Prop where
  ok : XOk t k cr
  len : cr.length ≤ made.length * made.length
theorem XK.of {s : TS} (hi : TInv s) (l : List (Int × Int × Int)) {k : Nat} (hk : k ≤ l.length) (h1 : 1 < s.made.length) : XK s.t s.made k ((l.take k).foldl (stepC s.made) []) := by
  have h2 := ofC_go (t := s.t) (made := s.made) (fun a ha => (hi.cov a).2 ha) h1 (l.take k) 0 [] (Int.le_refl _) (XOk.nil _)
  rw [List.length_take, Nat.min_eq_left hk, Int.zero_add] at h2
  exact ⟨h2, srt_bd h2.s fun c hc => ⟨(hi.cov _).1 (h2.m c hc).1, (hi.cov _).1 (h2.m c hc).2.1⟩⟩
end Go.Proofs.YtlhkehfplcclgaaDoor
/- Slicing a list of names: what the operation gives. -/
namespace Go.Proofs.YtlhkehfplcclgaaDoor
set_option linter.unusedVariables false
set_option linter.unusedSimpArgs false
set_option maxRecDepth 8000
open Go Go.RowKit

theorem CK.take' {k : Nat} {w : World} {a : Option Addr} {n c D : Nat} {xs : List (List Value)} (h : CK k w (.slice a n c) c xs) (hD : D ≤ xs.length) : CK k w (.slice a D c) c (xs.take D) := by
  obtain ⟨hn, h0 | ⟨_, b, o, rfl⟩⟩ := h.ptr
  · subst h0
    have hl : xs.length = 0 := by obtain ⟨ao, e, h2, _⟩ := h; omega
    obtain rfl : D = 0 := by omega
    rw [List.take_zero]; exact CK.nil' _ _ _
  · exact h.take hD
theorem CK.drop' {k : Nat} {w : World} {a : Option Addr} {n c D : Nat} {xs : List (List Value)} (h : CK k w (.slice a n c) c xs) (hD : D ≤ xs.length) : CK k w (.slice (if c = D then a else a.map (·.add (D * k))) (n - D) (c - D)) (c - D) (xs.drop D) := by
  obtain ⟨hn, h0 | ⟨_, b, o, rfl⟩⟩ := h.ptr
  · subst h0
    have hl : xs.length = 0 := by obtain ⟨ao, e, h2, _⟩ := h; omega
    obtain rfl : D = 0 := by omega
    obtain rfl : n = 0 := by omega
    rw [List.eq_nil_of_length_eq_zero hl]; exact CK.nil' _ _ _
  · by_cases hc : c = D
    · subst hc
      have hl : xs.length = c := by obtain ⟨ao, e, h2, _⟩ := h; omega
      have : n - c = 0 := by omega
      rw [if_pos rfl, this, Nat.sub_self, List.drop_eq_nil_of_le (by omega)]; exact CK.nil' _ _ _
    · rw [if_neg hc, hn]; exact by
        have e : (⟨b, o, none⟩ : Addr).add (D * k) = ⟨b, o + D * k, none⟩ := by
          unfold Addr.add
          split
          · rename_i hz; simp [hz]
          · rfl
        show CK k w (.slice (some ((⟨b, o, none⟩ : Addr).add (D * k))) (xs.length - D) (c - D)) (c - D) (xs.drop D)
        rw [e]; exact h.drop hD
theorem slice_lo (a : Option Addr) (n c D : Nat) (hD : D ≤ c) (w : World) : (Instr.sliceAt 33 (.slice a n c) none (some (.int .i64 D)) none).run Tryd.prog w = .ok (.slice a D c) w := by
  have h1 : ¬ ((D : Int) < 0) := by omega
  have h2 : ¬ (c < D) := by omega
  simp [Instr.sliceAt, Instr.slice, Instr.sliceBounds, Instr.sliceBound, Tryd.underlying33, go_sem, h1, h2]
theorem slice_hi (a : Option Addr) (n c D : Nat) (hD : D ≤ n) (hc : n ≤ c) (w : World) : (Instr.sliceAt 33 (.slice a n c) (some (.int .i64 D)) none none).run Tryd.prog w = .ok (.slice (if c = D then a else a.map (·.add (D * 2))) (n - D) (c - D)) w := by
  have h1 : (0 : Int) ≤ D := by omega
  have h2 : (D : Int) ≤ n := by omega
  have h3 : (n : Int) ≤ c := by omega
  simp [Instr.sliceAt, Instr.slice, Instr.sliceBounds, Instr.sliceBound, Tryd.underlying33, go_sem, h1, h2, h3]
  intro h; omega
end Go.Proofs.YtlhkehfplcclgaaDoor
/- A region whose last operation stores into a cell that others load: what is held need not hold behind that store. -/
namespace Go.Proofs.YtlhkehfplcclgaaDoor
set_option linter.unusedVariables false
set_option linter.unusedSimpArgs false
set_option maxRecDepth 8000
open Go Go.RowKit

section
variable {P : Program} {ops : Array Oper} {Q : Exit → Act → World → Prop} {md : Region.Mode} {S : World → Prop} {L : Nat}
/-- Every order; behind each operation but number L the condition S is shown. -/
def anyL (P : Program) (md : Region.Mode) (ops : Array Oper) (Q : Exit → Act → World → Prop) (S : World → Prop) (L : Nat) : Nat → Array Bool → Act → World → Prop
  | 0, li, a, w => Region.ready md ops li = [] ∧ Q .normal a w
  | f + 1, li, a, w => (Region.ready md ops li = [] → Q .normal a w) ∧ ∀ i ∈ Region.ready md ops li, wpOp P ops Q i (fun a' w' => (i ≠ L → S w') ∧ anyL P md ops Q S L f (li.setIfInBounds i true) a' w') a w
theorem anyL_any : ∀ (f : Nat) (li : Array Bool) (a : Act) (w : World), anyL P md ops Q S L f li a w → wpAny P md ops Q f li a w
  | 0, _, _, _, h => h
  | f + 1, _, _, _, h => ⟨h.1, fun i hi => wpOp_mono (fun a' w' k => anyL_any f _ a' w' k.2) (h.2 i hi)⟩
/-- Number L waits for number i. -/
def waits (md : Region.Mode) (ops : Array Oper) (L i : Nat) : Bool := (ops[L]?).all fun o => o.after.any fun e => Region.binds md e && e.on == i
theorem waits_not {i : Nat} {li : Array Bool} (h : waits md ops L i = true) (hi : i ∈ Region.ready md ops li) : L ∉ Region.ready md ops li := fun hL => by
  obtain ⟨_, o, ho, hall⟩ := mem_ready.1 hL
  unfold waits at h
  rw [ho] at h
  simp only [Option.all_some, Array.any_eq_true, Bool.and_eq_true, beq_iff_eq] at h
  obtain ⟨x, hx, hb, he⟩ := h
  have h1 := hall _ (Array.getElem_mem hx) hb
  rw [he] at h1
  have h0 := (mem_ready.1 hi).1
  rcases Nat.lt_or_ge i li.size with h' | h'
  · simp [h'] at h0 h1; rw [h0] at h1; cases h1
  · simp [Array.getElem?_eq_none h'] at h1
theorem anyL_take {i : Nat} {oi : Oper} {v : Value} {f : Nat} {li : Array Bool} {a : Act} {w : World} (hi : ops[i]? = some oi)
    (hs : Region.noSelect ops = true) (hf : Region.free md ops li i = true) (hr : (Region.ready md ops li).contains i = true) (hw : waits md ops L i = true)
    (hQ : ∀ c a w, Q (.panic c) (a.put oi.dst v) w → Q (.panic c) a w) (hy : YieldsIf P ops S oi v a) (hS : S w)
    (h : anyL P md ops Q S L f (li.setIfInBounds i true) (a.put oi.dst v) w) : anyL P md ops Q S L (f + 1) li a w := by
  have hsel := Region.noSelect_spec hs
  have hfree := Region.free_spec hi hf
  have hri : i ∈ Region.ready md ops li := by simpa using hr
  clear hf hr hs
  induction f generalizing li a w with
  | zero =>
    refine ⟨fun k => (by rw [k] at hri; cases hri), fun j hj => ?_⟩
    by_cases e : j = i
    · subst e; exact hy.wpOp hi hS ⟨fun _ => hS, h⟩
    · have h1 := ready_mono hj e
      rw [h.1] at h1; cases h1
  | succ f ih =>
    refine ⟨fun k => (by rw [k] at hri; cases hri), fun j hj => ?_⟩
    by_cases e : j = i
    · subst e; exact hy.wpOp hi hS ⟨fun _ => hS, h⟩
    · have hjL : j ≠ L := fun k => waits_not hw hri (k ▸ hj)
      have h1 := h.2 j (ready_mono hj e)
      obtain ⟨hjun, oj, hoj, hall⟩ := mem_ready.1 hj
      have hnot : ∀ x ∈ oj.after, Region.binds md x = true → x.on ≠ i := fun x hx hb k => by
        have h1 := hall x hx hb
        have h0 := (mem_ready.1 hri).1
        rw [k] at h1
        rcases Nat.lt_or_ge i li.size with h' | h'
        · simp [h'] at h0 h1; rw [h0] at h1; cases h1
        · simp [Array.getElem?_eq_none h'] at h1
      have h2 := wpOp_putIf hoj (hfree j oj hoj e hjun hnot) (fun cs b => hsel i oi cs b hi) (fun cs b => hsel j oj cs b hoj) hQ hy h1
      refine wpOp_mono (fun a' w' h3 => ⟨h3.2.1, ih h3.1 (h3.2.1 hjL) ?_ ?_ (ready_mono hri (Ne.symm e))⟩) h2
      · rw [Array.setIfInBounds_comm _ _ e]; exact h3.2.2
      · intro k ok hk hki hun hno
        refine hfree k ok hk hki ?_ hno
        by_cases hjk : j = k
        · subst hjk; exact hjun
        · rw [getD_set_ne true hjk] at hun; exact hun
def AllL (P : Program) (md : Region.Mode) (ops : Array Oper) (Q : Exit → Act → World → Prop) (S : World → Prop) (L : Nat) (f : Nat) (li : Array Bool) (a : Act) (w : World) (rs : List Nat) : Prop :=
  ∀ i ∈ rs, wpOp P ops Q i (fun a' w' => (i ≠ L → S w') ∧ anyL P md ops Q S L f (li.setIfInBounds i true) a' w') a w
theorem AllL.nil {f : Nat} {li : Array Bool} {a : Act} {w : World} : AllL P md ops Q S L f li a w [] := fun _ h => by cases h
theorem AllL.cons {f : Nat} {li : Array Bool} {a : Act} {w : World} {i : Nat} {o : Oper} {rs : List Nat} (ho : ops[i]? = some o)
    (h : ∀ K' : Act → World → Prop, Shut (∀ a w, (i ≠ L → S w) → anyL P md ops Q S L f (li.setIfInBounds i true) a w → K' a w) → if Region.wanted o (yielded ops a.tmps) = true then Oper.wp P o a w K' Q else K' (a.put o.dst undef) w)
    (hs : AllL P md ops Q S L f li a w rs) : AllL P md ops Q S L f li a w (i :: rs) := fun j hj => by
  rcases List.mem_cons.1 hj with rfl | hj
  · exact wpOp_step ho (fun K' hK => h K' (fun a w hS hW => hK a w ⟨hS, hW⟩))
  · exact hs j hj
theorem anyL_ready {rs : List Nat} {f : Nat} {li : Array Bool} {a : Act} {w : World} (hr : Region.ready md ops li = rs) (hne : rs ≠ [])
    (h : AllL P md ops Q S L f li a w rs) : anyL P md ops Q S L (f + 1) li a w := ⟨fun h0 => absurd (hr ▸ h0) hne, hr ▸ h⟩
theorem anyL_done {li : Array Bool} {a : Act} {w : World} (hr : Region.ready md ops li = []) (h : Q .normal a w) : ∀ f, anyL P md ops Q S L f li a w
  | 0 => ⟨hr, h⟩
  | _ + 1 => ⟨fun _ => h, by rw [hr]; simp⟩
theorem region_L {id : Nat} {a : Act} {w : World} (hm : P.follows .mixedOrders = true) (hS : S w.drew)
    (h : S w.drew → anyL P .any ops Q S L ops.size (Array.replicate ops.size false) a w.drew) : (Code.region id ops true).wp P Q a w :=
  wp_region_any hm (anyL_any _ _ _ _ (h hS))
end
end Go.Proofs.YtlhkehfplcclgaaDoor
