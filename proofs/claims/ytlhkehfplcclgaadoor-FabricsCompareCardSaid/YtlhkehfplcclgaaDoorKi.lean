/- The example of the chapter. -/
import Derived.Test.YtlhkehfplcclgaaDoorKh
namespace Go.Proofs.YtlhkehfplcclgaaDoor
set_option linter.unusedVariables false
set_option linter.unusedSimpArgs false
set_option maxRecDepth 8000
open Go Go.RowKit Go.Sort

def exL : List Lp := [⟨0, true, [], []⟩, ⟨0, false, [], []⟩, ⟨1, false, [⟨1, 0⟩], [⟨⟨1, 1⟩, true, 0⟩]⟩]
def exT : Tab := [exL, [], [], [], [], []]
def exF (n : Int) (h fl : List Nm) : Fab := { ys := exT, cr := [⟨⟨1, 1⟩, ⟨1, 2⟩, n⟩], held := h, fallen := fl }
/-- The example's table and crossing in memory. -/
structure ExM (w : World) (t0 r0 u0 p0 c0 : Nat) (n : Int) : Prop where
  t : w.heap[t0]? = some (.cells #[.slice (some ⟨r0, 0, none⟩) 3 3, .slice none 0 0, .slice none 0 0, .slice none 0 0, .slice none 0 0, .slice none 0 0] 47 (0, 0))
  r : w.heap[r0]? = some (.cells #[.int .u8 0, .bool true, .slice none 0 0, .slice none 0 0, .int .u8 0, .bool false, .slice none 0 0, .slice none 0 0, .int .u8 1, .bool false, .slice (some ⟨u0, 0, none⟩) 1 1, .slice (some ⟨p0, 0, none⟩) 1 1] 46 (0, 0))
  u : w.heap[u0]? = some (.cells #[.int .u8 1, .int .i64 0] 41 (0, 0))
  p : w.heap[p0]? = some (.cells #[.int .u8 1, .int .i64 1, .bool true, .int .u8 0] 50 (0, 0))
  c : w.heap[c0]? = some (.cells #[.int .u8 1, .int .i64 1, .int .u8 1, .int .i64 2, .int .i64 n] 52 (0, 0))
theorem ExM.ext {w w' : World} {t0 r0 u0 p0 c0 : Nat} {n : Int} (h : ExM w t0 r0 u0 p0 c0 n) (x : Ext w w') : ExM w' t0 r0 u0 p0 c0 n := ⟨x.block h.t, x.block h.r, x.block h.u, x.block h.p, x.block h.c⟩
theorem ExM.set {w : World} {t0 r0 u0 p0 c0 : Nat} {n : Int} (h : ExM w t0 r0 u0 p0 c0 n) (m : Int) : ExM (w.setCell ⟨c0, 4, none⟩ (.int .i64 m)) t0 r0 u0 p0 c0 m := by
  have hne : ∀ {g : Nat} {o : Array Value} {t : TypeId}, w.heap[g]? = some (.cells o t (0, 0)) → t ≠ 52 → g ≠ c0 := fun hg ht e => by
    rw [e, h.c] at hg
    cases hg
    exact ht rfl
  refine ⟨?_, ?_, ?_, ?_, ?_⟩
  · rw [Below.heap_setCell _ _ _ _ (hne h.t (by decide))]; exact h.t
  · rw [Below.heap_setCell _ _ _ _ (hne h.r (by decide))]; exact h.r
  · rw [Below.heap_setCell _ _ _ _ (hne h.u (by decide))]; exact h.u
  · rw [Below.heap_setCell _ _ _ _ (hne h.p (by decide))]; exact h.p
  · have := h.c; simp [World.setCell, Array.getElem?_modify, this]
theorem ExM.tb {w : World} {t0 r0 u0 p0 c0 : Nat} {n : Int} (h : ExM w t0 r0 u0 p0 c0 n) : TB w (.slice (some ⟨t0, 0, none⟩) 6 6) 6 exT := by
  have hu : NL w (.slice (some ⟨u0, 0, none⟩) 1 1) 1 [⟨1, 0⟩] := CK.of_blk h.u (Ks.nm [⟨1, 0⟩]) rfl (Nat.le_refl _) (by omega) rfl
  have hp : PL w (.slice (some ⟨p0, 0, none⟩) 1 1) 1 [⟨⟨1, 1⟩, true, 0⟩] := CK.of_blk h.p (Ks.ps [⟨⟨1, 1⟩, true, 0⟩]) rfl (Nat.le_refl _) (by omega) rfl
  obtain ⟨us, hus⟩ : ∃ us : Nat → Value, us = fun i => if i = 2 then .slice (some ⟨u0, 0, none⟩) 1 1 else .slice none 0 0 := ⟨_, rfl⟩
  obtain ⟨vs, hvs⟩ : ∃ vs : Nat → Value, vs = fun i => if i = 2 then .slice (some ⟨p0, 0, none⟩) 1 1 else .slice none 0 0 := ⟨_, rfl⟩
  have hlr : LR w (.slice (some ⟨r0, 0, none⟩) 3 3) 3 exL := by
    refine ⟨us, vs, ?_, fun i hi => ?_⟩
    · have hk : Ks 4 (cL exL us vs) := cL_ks fun i hi => by
        rw [hus, hvs]; dsimp only
        by_cases e : i = 2
        · rw [if_pos e, if_pos e]; exact ⟨rfl, rfl⟩
        · rw [if_neg e, if_neg e]; exact ⟨rfl, rfl⟩
      exact CK.of_blk h.r hk rfl (Nat.le_refl _) (by omega) (by rw [hus, hvs]; rfl)
    · rw [hus, hvs]
      have hi' : i < 3 := hi
      rcases (show i = 0 ∨ i = 1 ∨ i = 2 by omega) with rfl | rfl | rfl
      · exact ⟨⟨0, NL.nil w⟩, 0, PL.nil w⟩
      · exact ⟨⟨0, NL.nil w⟩, 0, PL.nil w⟩
      · exact ⟨⟨1, hu⟩, 1, hp⟩
  obtain ⟨ts, hts⟩ : ∃ ts : Nat → Value, ts = fun i => if i = 0 then .slice (some ⟨r0, 0, none⟩) 3 3 else .slice none 0 0 := ⟨_, rfl⟩
  refine ⟨ts, ?_, fun i hi => ?_⟩
  · have hk : Ks 1 ((List.range exT.length).map fun i => [ts i]) := fun x hx => by
      obtain ⟨i, _, rfl⟩ := List.mem_map.1 hx
      refine ⟨rfl, fun v hv => ?_⟩
      rw [List.mem_singleton.1 hv, hts]; dsimp only
      by_cases e : i = 0
      · rw [if_pos e]; rfl
      · rw [if_neg e]; rfl
    exact CK.of_blk h.t hk rfl (Nat.le_refl _) (by omega) (by rw [hts]; rfl)
  · rw [hts]
    have hi' : i < 6 := hi
    rcases (show i = 0 ∨ i = 1 ∨ i = 2 ∨ i = 3 ∨ i = 4 ∨ i = 5 by omega) with rfl | rfl | rfl | rfl | rfl | rfl
    · exact ⟨3, hlr⟩
    all_goals exact ⟨0, LR.nil w⟩
theorem ExM.xl {w : World} {t0 r0 u0 p0 c0 : Nat} {n : Int} (h : ExM w t0 r0 u0 p0 c0 n) : XL w (.slice (some ⟨c0, 0, none⟩) 1 1) 1 [⟨⟨1, 1⟩, ⟨1, 2⟩, n⟩] := CK.of_blk h.c (Ks.xg [⟨⟨1, 1⟩, ⟨1, 2⟩, n⟩]) rfl (Nat.le_refl _) (by omega) rfl
theorem ExM.fb {w : World} {t0 r0 u0 p0 c0 : Nat} {n : Int} (h : ExM w t0 r0 u0 p0 c0 n) {hv fv : Value} {hl fl : List Nm} {c1 c2 : Nat} (h1 : NL w hv c1 hl) (h2 : NL w fv c2 fl) : FB w (.slice (some ⟨t0, 0, none⟩) 6 6) (.slice (some ⟨c0, 0, none⟩) 1 1) hv fv (exF n hl fl) :=
  ⟨⟨6, h.tb⟩, ⟨1, h.xl⟩, ⟨c1, h1⟩, ⟨c2, h2⟩⟩
theorem exIn (y n : Int) (h : (0 ≤ y ∧ y ≤ 255) ∧ -9223372036854775808 ≤ n ∧ n ≤ 9223372036854775807) : (⟨y, n⟩ : Nm).In := h
theorem exOK : OKT exT := by
  have h6 : ∀ r ∈ exT, r = exL ∨ r = [] := fun r hr => by
    simp only [exT, List.mem_cons, List.not_mem_nil, or_false] at hr
    rcases hr with rfl | rfl | rfl | rfl | rfl | rfl
    · exact .inl rfl
    all_goals exact .inr rfl
  have hl3 : ∀ l ∈ exL, l = ⟨0, true, [], []⟩ ∨ l = ⟨0, false, [], []⟩ ∨ l = ⟨1, false, [⟨1, 0⟩], [⟨⟨1, 1⟩, true, 0⟩]⟩ := fun l hl => by
    simpa only [exL, List.mem_cons, List.not_mem_nil, or_false] using hl
  refine ⟨⟨by decide, fun r hr => ?_, fun r hr l hl => ?_⟩, by decide, ⟨fun a => a.n.toNat, ?_, ?_⟩, by decide⟩
  · rcases h6 r hr with rfl | rfl <;> decide
  · rcases h6 r hr with rfl | rfl
    · rcases hl3 l hl with rfl | rfl | rfl
      · exact ⟨⟨.inl rfl, by decide, by decide, fun a ha => (by cases ha), fun p hp => (by cases hp), 0, .inl rfl, fun p hp => (by cases hp)⟩, by decide, by decide⟩
      · exact ⟨⟨.inl rfl, by decide, by decide, fun a ha => (by cases ha), fun p hp => (by cases hp), 0, .inl rfl, fun p hp => (by cases hp)⟩, by decide, by decide⟩
      · refine ⟨⟨.inr rfl, by decide, by decide, fun a ha => ?_, fun p hp => ?_, 0, .inl rfl, fun p hp => ?_⟩, by decide, by decide⟩
        · rw [List.mem_singleton.1 ha]; exact ⟨exIn _ _ (by decide), by decide⟩
        · rw [List.mem_singleton.1 hp]; exact ⟨⟨exIn _ _ (by decide), by decide, by decide⟩, by decide⟩
        · rw [List.mem_singleton.1 hp]
    · cases hl
  · intro y hy n hn a ha
    have hy' : y < 6 := hy
    rcases (show y = 0 ∨ y = 1 ∨ y = 2 ∨ y = 3 ∨ y = 4 ∨ y = 5 by omega) with rfl | rfl | rfl | rfl | rfl | rfl
    · have hn' : n < 3 := hn
      rcases (show n = 0 ∨ n = 1 ∨ n = 2 by omega) with rfl | rfl | rfl
      · cases ha
      · cases ha
      · have : a = ⟨1, 0⟩ ∨ a = ⟨1, 1⟩ := by
          have h2 : a ∈ [(⟨1, 0⟩ : Nm), ⟨1, 1⟩] := ha
          simpa only [List.mem_cons, List.not_mem_nil, or_false] using h2
        rcases this with rfl | rfl
        · exact ⟨by decide, by decide⟩
        · exact ⟨by decide, by decide⟩
    all_goals exact absurd hn (Nat.not_lt_zero n)
  · intro y hy n hn
    dsimp only
    omega
theorem exFIn {n : Int} {hl fl : List Nm} (hn : -9223372036854775808 ≤ n ∧ n ≤ 9223372036854775807) (h1 : ∀ a ∈ hl, a.In) (h2 : ∀ a ∈ fl, a.In) (h3 : hl.length ≤ 1000) (h4 : fl.length ≤ 1000) : FIn (exF n hl fl) := by
  have ok := exOK.r
  refine ⟨h1, h2, fun c hc => ?_, fun r hr l hl => ?_, h3, h4, by show 1 ≤ 1000; omega, ok.n4, ok.n5, fun r hr l hl => ?_⟩
  · rw [List.mem_singleton.1 hc]
    exact ⟨exIn _ _ (by decide), exIn _ _ (by decide), hn⟩
  · have h := ok.ri r hr l hl
    exact ⟨h.2, fun a ha => (h.1.i1 a ha).1, fun p hp => (h.1.i2 p hp).1⟩
  · have h := (ok.ri r hr l hl).1
    exact ⟨by have := h.n1; omega, h.n2⟩
/-- The example is returned. -/
def RetEx (w : World) (en : Ending) (w' : World) : Prop := ∃ t0 r0 u0 p0 c0 h0, en = .returned (.agg #[.slice (some ⟨t0, 0, none⟩) 6 6, .slice (some ⟨c0, 0, none⟩) 1 1, .slice (some ⟨h0, 0, none⟩) 2 2, .slice none 0 0]) ∧ ExM w' t0 r0 u0 p0 c0 (-1) ∧ w'.heap[h0]? = some (.cells #[.int .u8 1, .int .i64 1, .int .u8 1, .int .i64 2] 41 (0, 0)) ∧ w.heap.size ≤ c0 ∧ Ext w w'
theorem heap_push (w : World) (o : Obj) (k : Nat) (os : List Obj) (h : k < os.length) : (os.foldl (fun w o => w.alloc o) w).heap[w.heap.size + k]? = os[k]? := by
  have key : ∀ (os : List Obj) (w : World), (os.foldl (fun w o => w.alloc o) w).heap = w.heap ++ os.toArray := by
    intro os
    induction os with
    | nil => intro w; simp
    | cons o os ih =>
      intro w
      rw [List.foldl_cons, ih]
      show w.heap.push o ++ os.toArray = _
      simp
  rw [key, Array.getElem?_append_right (by omega)]
  simp
set_option maxHeartbeats 8000000 in
theorem Example_calls (w : World) : Calls Tryd.prog 23 #[] w (RetEx w) := by
  have hmk : ∀ w, (Instr.makeSlice 31 (.int .i64 6) (.int .i64 6)).run Tryd.prog w = .ok (.slice (some ⟨w.heap.size, 0, none⟩) 6 6) (w.alloc (.cells #[.slice none 0 0, .slice none 0 0, .slice none 0 0, .slice none 0 0, .slice none 0 0, .slice none 0 0] 47)) := fun w => by
    have h1 := make_k ekT (by decide) 6 (by omega) .i64 .i64 w
    have h2 : madeCells (Value.slice none 0 0).cells (6 * 1) = #[.slice none 0 0, .slice none 0 0, .slice none 0 0, .slice none 0 0, .slice none 0 0, .slice none 0 0] := by kernel_rfl
    rw [h2] at h1
    exact h1
  obtain ⟨N, hN⟩ : ∃ N, N = w.heap.size := ⟨_, rfl⟩
  obtain ⟨os, hos⟩ : ∃ os : List Obj, os = [.cells #[.slice (some ⟨N + 1, 0, none⟩) 6 6, .slice (some ⟨N + 1 + 1 + 1 + 1 + 1 + 1 + 1, 0, none⟩) 1 1, .slice (some ⟨N + 1 + 1 + 1 + 1 + 1 + 1, 0, none⟩) 2 2, .slice none 0 0] 35,
    .cells #[.slice (some ⟨N + 1 + 1 + 1 + 1 + 1, 0, none⟩) 3 3, .slice none 0 0, .slice none 0 0, .slice none 0 0, .slice none 0 0, .slice none 0 0] 47,
    .cells #[.slice (some ⟨N + 1, 0, none⟩) 6 6, .slice (some ⟨N + 1 + 1 + 1 + 1 + 1 + 1 + 1, 0, none⟩) 1 1, .slice (some ⟨N + 1 + 1 + 1 + 1 + 1 + 1, 0, none⟩) 2 2, .slice none 0 0] 35,
    .cells #[.int .u8 1, .int .i64 0] 41,
    .cells #[.int .u8 1, .int .i64 1, .bool true, .int .u8 0] 50,
    .cells #[.int .u8 0, .bool true, .slice none 0 0, .slice none 0 0, .int .u8 0, .bool false, .slice none 0 0, .slice none 0 0, .int .u8 1, .bool false, .slice (some ⟨N + 1 + 1 + 1, 0, none⟩) 1 1, .slice (some ⟨N + 1 + 1 + 1 + 1, 0, none⟩) 1 1] 46,
    .cells #[.int .u8 1, .int .i64 1, .int .u8 1, .int .i64 2] 41,
    .cells #[.int .u8 1, .int .i64 1, .int .u8 1, .int .i64 2, .int .i64 (-1)] 52] := ⟨_, rfl⟩
  obtain ⟨WF, hWF⟩ : ∃ WF, WF = os.foldl (fun w o => w.alloc o) w := ⟨_, rfl⟩
  have hb : ∀ k o, os[k]? = some o → WF.heap[N + k]? = some o := fun k o hk => by
    rw [hWF, hN, heap_push w o k os (List.getElem?_eq_some_iff.1 hk).1, hk]
  have hE := Lib.hid (show RetEx w (.returned (.agg #[.slice (some ⟨N + 1, 0, none⟩) 6 6, .slice (some ⟨N + 1 + 1 + 1 + 1 + 1 + 1 + 1, 0, none⟩) 1 1, .slice (some ⟨N + 1 + 1 + 1 + 1 + 1 + 1, 0, none⟩) 2 2, .slice none 0 0])) WF from
    ⟨N + 1, N + 5, N + 3, N + 4, N + 7, N + 6, rfl, ⟨hb 1 _ (by rw [hos]; rfl), hb 5 _ (by rw [hos]; rfl), hb 3 _ (by rw [hos]; rfl), hb 4 _ (by rw [hos]; rfl), hb 7 _ (by rw [hos]; rfl)⟩, hb 6 _ (by rw [hos]; rfl), by omega, by
      rw [hWF, hos]
      exact (((((((Ext.refl _).alloc _).alloc _).alloc _).alloc _).alloc _).alloc _).alloc _ |>.alloc _⟩)
  have cF := Lib.hid (show ∀ j v, (#[Value.slice (some ⟨N + 1, 0, none⟩) 6 6, .slice (some ⟨N + 1 + 1 + 1 + 1 + 1 + 1 + 1, 0, none⟩) 1 1, .slice (some ⟨N + 1 + 1 + 1 + 1 + 1 + 1, 0, none⟩) 2 2, .slice none 0 0] : Array Value)[j]? = some v → WF.cell? ⟨N, j, none⟩ = some v from fun j v hj => by
    have h0 := hb 0 _ (by rw [hos]; rfl)
    rw [Nat.add_zero] at h0
    unfold World.cell?
    rw [show ((⟨N, j, none⟩ : Addr).block) = N from rfl, h0]
    exact hj)
  have HWF := Lib.hid (show WF = ((((((((w.alloc (.cells #[.slice (some ⟨N + 1, 0, none⟩) 6 6, .slice (some ⟨N + 1 + 1 + 1 + 1 + 1 + 1 + 1, 0, none⟩) 1 1, .slice (some ⟨N + 1 + 1 + 1 + 1 + 1 + 1, 0, none⟩) 2 2, .slice none 0 0] 35)).alloc (.cells #[.slice (some ⟨N + 1 + 1 + 1 + 1 + 1, 0, none⟩) 3 3, .slice none 0 0, .slice none 0 0, .slice none 0 0, .slice none 0 0, .slice none 0 0] 47)).alloc (.cells #[.slice (some ⟨N + 1, 0, none⟩) 6 6, .slice (some ⟨N + 1 + 1 + 1 + 1 + 1 + 1 + 1, 0, none⟩) 1 1, .slice (some ⟨N + 1 + 1 + 1 + 1 + 1 + 1, 0, none⟩) 2 2, .slice none 0 0] 35)).alloc (.cells #[.int .u8 1, .int .i64 0] 41)).alloc (.cells #[.int .u8 1, .int .i64 1, .bool true, .int .u8 0] 50)).alloc (.cells #[.int .u8 0, .bool true, .slice none 0 0, .slice none 0 0, .int .u8 0, .bool false, .slice none 0 0, .slice none 0 0, .int .u8 1, .bool false, .slice (some ⟨N + 1 + 1 + 1, 0, none⟩) 1 1, .slice (some ⟨N + 1 + 1 + 1 + 1, 0, none⟩) 1 1] 46)).alloc (.cells #[.int .u8 1, .int .i64 1, .int .u8 1, .int .i64 2] 41)).alloc (.cells #[.int .u8 1, .int .i64 1, .int .u8 1, .int .i64 2, .int .i64 (-1)] 52)) by rw [hWF, hos]; rfl)
  clear hb hWF hos
  go_enter Tryd.func23, Tryd.ntmps23
  go_wp2
  rw [← hN, ← HWF.out]
  have c0 := cF.out 0 _ rfl
  have c1 := cF.out 1 _ rfl
  have c2 := cF.out 2 _ rfl
  have c3 := cF.out 3 _ rfl
  exact bodyPost_ret (v := .agg #[.slice (some ⟨N + 1, 0, none⟩) 6 6, .slice (some ⟨N + 1 + 1 + 1 + 1 + 1 + 1 + 1, 0, none⟩) 1 1, .slice (some ⟨N + 1 + 1 + 1 + 1 + 1 + 1, 0, none⟩) 2 2, .slice none 0 0]) (by simp [results, Tryd.results23, go_sem, c0, c1, c2, c3]) rfl hE.out
end Go.Proofs.YtlhkehfplcclgaaDoor
