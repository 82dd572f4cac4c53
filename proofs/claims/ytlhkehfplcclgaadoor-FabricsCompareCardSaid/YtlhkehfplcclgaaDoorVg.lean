/- checkPlaces$1: counting names. -/
import Derived.Test.YtlhkehfplcclgaaDoorVf
namespace Go.Proofs.YtlhkehfplcclgaaDoor
set_option linter.unusedVariables false
set_option linter.unusedSimpArgs false
set_option maxRecDepth 8000
open Go Go.RowKit

/-- How often each name stands in a list. -/
def cntN (l : List Nm) (a : Nm) : Int := (l.count a : Nat)
theorem cntN_snoc (l : List Nm) (b : Nm) : cntN (l ++ [b]) = upN (cntN l) b (cntN l b + 1) := by
  funext a
  unfold cntN upN
  rw [List.count_append]
  by_cases h : a = b
  · subst h; simp
  · rw [if_neg h]; simp [List.count_cons, Ne.symm h, h]
theorem upN_upN (f : Nm → Int) (a : Nm) (x : Int) : upN f a x a = x := if_pos rfl
/-- f, and what a list counts. -/
def addN (f : Nm → Int) (l : List Nm) (a : Nm) : Int := f a + cntN l a
theorem addN_nil (f : Nm → Int) : addN f [] = f := by funext a; unfold addN cntN; simp
theorem addN_snoc (f : Nm → Int) (l : List Nm) (b : Nm) : addN f (l ++ [b]) = upN (addN f l) b (addN f l b + 1) := by
  funext a
  unfold addN
  rw [cntN_snoc]
  unfold upN
  by_cases h : a = b
  · subst h; simp; omega
  · simp [h]
theorem addN_app (f : Nm → Int) (l m : List Nm) : addN f (l ++ m) = addN (addN f l) m := by
  funext a
  unfold addN cntN
  rw [List.count_append]; omega
set_option maxHeartbeats 4000000 in
theorem Count_calls (v : Value) (c g b : Nat) (l : List Nm) (f : Nm → Int) (w : World) (h : NL w v c l) (hl : l.length ≤ 100000) (hin : ∀ a ∈ l, a.In) (hg : w.cell? ⟨g, 0, none⟩ = some (.map (some b))) (hgb : g ≠ b) (hm : MB w b f) (hf : ∀ a, 0 ≤ f a ∧ f a ≤ 1000000000) :
    Calls Tryd.prog 64 #[v, .pointer (some ⟨g, 0, none⟩)] w fun e w' => e = .returned (.tuple #[]) ∧ MB w' b (addN f l) ∧ w.grownBy w' (some b) := by
  obtain ⟨ao, n, rfl, hn, hnc, hc9, hat⟩ := h.open
  have Hin := Lib.hid (fun i (hi : i < n) => hin (ni l i) (ni_mem (by omega)))
  have Hat := Lib.hid hat
  have hn5 : n ≤ 100000 := by omega
  have HG := Lib.hid hg
  have HF := Lib.hid hf
  have HM0 := Lib.hid (show MB w b (addN f (l.take 0)) by rw [List.take_zero, addN_nil]; exact hm)
  have HN := Lib.hid hn
  clear hin hat hg hf hm hn h hl
  go_enter Tryd.func64, Tryd.ntmps64
  go_wp2
  go_loopw [4, 7] (fun _ i wr => ∃ k : Nat, k ≤ n ∧ i = .int .i64 k ∧ Hid (MB wr b (addN f (l.take k)) ∧ w.grownBy wr (some b))) (fun _ i _ => n - (intOf i).toNat)
  case atStart => exact ⟨0, Nat.zero_le _, rfl, Lib.hid ⟨HM0.out, World.grownBy.refl _ _⟩⟩
  case round =>
    obtain ⟨k, hk, rfl, G⟩ := hrel
    by_cases hlt : k < n
    · obtain ⟨b1, o1, rfl, hA⟩ := Hat.out k hlt
      have e1 : (k : Int) < n := by omega
      have e2 : (0 : Int) ≤ k := by omega
      have hgw : wr.cell? ⟨g, 0, none⟩ = some (.map (some b)) := World.grownBy.cell G.out.2 HG.out (by simp; exact hgb)
      have hne : b1 ≠ b := fun e => by
        subst e
        obtain ⟨es, clock, hb, _⟩ := HM0.out
        have := hA.1
        simp [World.cell?, hb] at this
      have ca := World.grownBy.cell G.out.2 hA.1 (by simp; exact hne)
      have cb := World.grownBy.cell G.out.2 hA.2 (by simp; exact hne)
      have Ha := Lib.hid (Hin.out k hlt)
      have Htk := Lib.hid (show addN f (l.take (k + 1)) = upN (addN f (l.take k)) (ni l k) (addN f (l.take k) (ni l k) + 1) by rw [← addN_snoc]; congr 1; rw [ni_of (by rw [← HN.out]; exact hlt)]; exact List.take_succ_eq_append_getElem _)
      have hbd : 0 ≤ addN f (l.take k) (ni l k) ∧ addN f (l.take k) (ni l k) ≤ 1000100000 := by
        have h1 := HF.out (ni l k)
        have h2 := List.count_le_length (l := l.take k) (a := ni l k)
        rw [List.length_take] at h2
        unfold addN cntN
        omega
      obtain ⟨a, ha⟩ : ∃ a, a = ni l k := ⟨_, rfl⟩
      rw [← ha] at ca cb Ha Htk hbd
      obtain ⟨x, hx⟩ : ∃ x, x = addN f (l.take k) a := ⟨_, rfl⟩
      rw [← hx] at Htk hbd
      obtain ⟨W, hW⟩ : ∃ W, W = wr.alloc (.cells #[.int .u8 a.y, .int .i64 a.n] 41) := ⟨_, rfl⟩
      have hMW : MB W.drew b (addN f (l.take k)) := show MB W b (addN f (l.take k)) by rw [hW]; exact G.out.1.kept (World.grownBy_alloc _ _ none) (by simp)
      have hN2 : BN W wr.heap.size a := by rw [hW]; exact BN.new wr a
      have hgW : W.cell? ⟨g, 0, none⟩ = some (.map (some b)) := by rw [hW]; exact cell_alloc hgw _
      have hbl : b < wr.heap.size := by obtain ⟨es, clock, hb, _⟩ := G.out.1; exact (Array.getElem?_eq_some_iff.1 hb).1
      have hGW : w.grownBy W.drew (some b) := (show w.grownBy W (some b) by rw [hW]; exact G.out.2.trans (World.grownBy_alloc _ _ _)).trans ⟨rfl, rfl, rfl, Nat.le_refl _, fun _ _ _ => rfl⟩
      obtain ⟨st, w2, w3, r1, r2, r3, r4, hm3, g2, g3⟩ := hMW.incr Ha.out (x + 1)
      rw [← hx] at r1 r2 r3
      have t1 : IntKind.i64.wrap (x + 1) = x + 1 := IntWalk.i64_in _ ⟨by omega, by omega⟩
      obtain ⟨a0, a1⟩ := hN2.at
      simp only [Nat.zero_add] at a1
      have v1 := World.grownBy.cell g2 (show W.drew.cell? _ = _ from hgW) (by simp; exact hgb)
      have v2 := World.grownBy.cell g2 (show W.drew.cell? _ = _ from a0) (by simp; omega)
      have v3 := World.grownBy.cell g2 (show W.drew.cell? _ = _ from a1) (by simp; omega)
      have HR := Lib.hid (show MB w3 b (addN f (l.take (k + 1))) ∧ w.grownBy w3 (some b) from ⟨by rw [Htk.out]; exact hm3, hGW.trans g3⟩)
      have HW := Lib.hid hW
      unfold Nm.val at r1 r2 r3
      clear hMW hN2 hm3 g2 g3 hGW hW hgw Htk hx ha hA hbl
      go_wp2
      rw [← HW.out]
      go_region
      go_wp2
      go_roundw
      case rel => exact ⟨k + 1, by omega, by go_num, HR⟩
      case measure => simp [intOf]; omega
    · obtain rfl : k = n := by omega
      have e1 : ¬ (k : Int) < k := by omega
      go_wp2
      go_end0
      refine ⟨rfl, ?_, G.out.2⟩
      have := G.out.1
      rwa [HN.out, List.take_length] at this
end Go.Proofs.YtlhkehfplcclgaaDoor
