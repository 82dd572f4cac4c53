/- Contracts of permutations.Length. -/
import Derived.Test.YtpcbadagffeehaaPc
namespace Go.Proofs.Ytpcbadagffeehaa
set_option linter.unusedVariables false
set_option linter.unusedSimpArgs false
open Go Go.RowKit Go.Shelf
attribute [local go_sem] Oper.semAt_some

/-- The pairs that cross, and their number. -/
def crossers (xs : List Int) : List (Pr xs.length) := prsAll xs.length (crossB xs)

theorem boxed_ext {w w' : World} {B : Nat} {t : TypeId} {v : Value} (h : Boxed w B t v) (e : Ext w w') : Boxed w' B t v := Ext.block e h
/-- What the iterator over the crossing pairs wants of the world. -/
theorem cross_ready {xs : List Int} (h8 : xs.length ≤ 8) {v : Value} {c : Nat} {w W0 : World} (h : IS .u8 w v c xs) (hx : Ext w W0) {Y : Nat → Prop} {Bp Bn Bf : Nat} (hYw : ∀ b, b < w.heap.size → Y b) (y1 : Y Bp) (y2 : Y Bn) (y3 : Y Bf)
    (b1 : Boxed W0 Bp 22 v) (b2 : Boxed W0 Bn 3 (.int .i64 (xs.length : Int))) (b3 : Boxed W0 Bf 59 (.func (.func 48) #[] #[.pointer (some ⟨Bp, 0, none⟩)])) :
    ∀ W', KL Y W0 W' → W'.cell? ⟨Bn, 0, none⟩ = some (.int .i64 (xs.length : Int)) ∧ W'.cell? ⟨Bf, 0, none⟩ = some (.func (.func 48) #[] #[.pointer (some ⟨Bp, 0, none⟩)]) ∧
      ∀ x : Pr xs.length, Calls Try.prog 48 #[x.val, .pointer (some ⟨Bp, 0, none⟩)] W' fun e W'' => e = .returned (.bool (crossB xs x.1.1 x.1.2)) ∧ Ext W' W'' :=
  fun W' hk => ⟨hk.cell (a := ⟨Bn, 0, none⟩) y2 b2.cell, hk.cell (a := ⟨Bf, 0, none⟩) y3 b3.cell, fun x => crossing1_calls Bp v c xs x W' (hk.cell (a := ⟨Bp, 0, none⟩) y1 b1.cell) (h.ext (KL.toExt hx hk hYw)) h8⟩

set_option maxRecDepth 100000 in
set_option maxHeartbeats 2000000 in
theorem Length_calls (m : Nat) (hm : 3 ≤ m) (v : Value) (c : Nat) (xs : List Int) (w : World) (h : IS .u8 w v c xs) (hb : ∀ i, i < xs.length → 0 ≤ gi xs i ∧ gi xs i ≤ 255) :
    Calls Try.prog 12 #[v] w (RetNE w (if pcheck xs = 0 then ((crossers xs).length : Int) else 0) (pcheck xs)) := by
  obtain ⟨h1, h2, ao, rfl, hao⟩ := h.open
  have h1m : 1 ≤ m := by omega
  have hP := Pcheck_calls _ c xs w h hb
  refine (callsIn_wide (n := m)).1 ?_
  refine callsIn_of_wp_marks Try.func12 rfl trivial ?_ rfl
  simp only [Try.ntmps12, List.size_toArray, List.length_cons, List.length_nil, Nat.reduceAdd, Nat.reduceSub, Array.replicate_succ, Array.replicate_zero, List.push_toArray, List.append_toArray, List.nil_append, List.cons_append]
  obtain ⟨e0, he0⟩ : ∃ e0, e0 = pcheck xs := ⟨_, rfl⟩
  rw [← he0] at hP ⊢
  have HP := Lib.hid hP
  have HE := Lib.hid he0
  have HIS := Lib.hid h
  clear hP he0 h hao
  by_cases he : e0 = 0
  · subst he
    have h8 := (pcheck_zero HE.out.symm).2.1
    gi_wp2_with first
      | (refine ⟨trivial, ?_⟩; gi_at_call 26; refine (callsIn_wide.2 HP.out).mono ?_; rintro e w1 ⟨rfl, hx⟩)
      | (refine ⟨trivial, ?_⟩; gi_at_call 36; refine (callsIn_wide.2 (crossing_calls _ _ _ _)).mono ?_; rintro e w2 ⟨rfl, rfl⟩)
      | (refine ⟨trivial, ?_⟩; gi_at_call 35; refine (callsIn_wide.2 (pairs_calls _ _ _ _)).mono ?_; rintro e w3 ⟨rfl, rfl⟩)
    have bS := Boxed.new w1 3 (.int .i64 0)
    have bP := Boxed.new (w1.alloc (.cells #[.int .i64 0] 3)) 22 (.slice ao xs.length c)
    have bN := Boxed.new ((w1.alloc (.cells #[.int .i64 0] 3)).alloc (.cells #[.slice ao xs.length c] 22)) 3 (.int .i64 (xs.length : Int))
    have bF := Boxed.new (((w1.alloc (.cells #[.int .i64 0] 3)).alloc (.cells #[.slice ao xs.length c] 22)).alloc (.cells #[.int .i64 (xs.length : Int)] 3)) 59 (.func (.func 48) #[] #[.pointer (some ⟨w1.heap.size + 1, 0, none⟩)])
    replace bN := bN.alloc (.cells #[.func (.func 48) #[] #[.pointer (some ⟨w1.heap.size + 1, 0, none⟩)]] 59)
    replace bP := (bP.alloc (.cells #[.int .i64 (xs.length : Int)] 3)).alloc (.cells #[.func (.func 48) #[] #[.pointer (some ⟨w1.heap.size + 1, 0, none⟩)]] 59)
    replace bS := ((bS.alloc (.cells #[.slice ao xs.length c] 22)).alloc (.cells #[.int .i64 (xs.length : Int)] 3)).alloc (.cells #[.func (.func 48) #[] #[.pointer (some ⟨w1.heap.size + 1, 0, none⟩)]] 59)
    simp only [World.size_alloc] at bN bP bF
    have hx0 : Ext w1 ((((w1.alloc (.cells #[.int .i64 0] 3)).alloc (.cells #[.slice ao xs.length c] 22)).alloc (.cells #[.int .i64 (xs.length : Int)] 3)).alloc (.cells #[.func (.func 48) #[] #[.pointer (some ⟨w1.heap.size + 1, 0, none⟩)]] 59)) := ((((Ext.refl w1).alloc _).alloc _).alloc _).alloc _
    have hsz : ((((w1.alloc (.cells #[.int .i64 0] 3)).alloc (.cells #[.slice ao xs.length c] 22)).alloc (.cells #[.int .i64 (xs.length : Int)] 3)).alloc (.cells #[.func (.func 48) #[] #[.pointer (some ⟨w1.heap.size + 1, 0, none⟩)]] 59)).heap.size = w1.heap.size + 4 := by simp
    obtain ⟨W0, hW0⟩ : ∃ W0, ((((w1.alloc (.cells #[.int .i64 0] 3)).alloc (.cells #[.slice ao xs.length c] 22)).alloc (.cells #[.int .i64 (xs.length : Int)] 3)).alloc (.cells #[.func (.func 48) #[] #[.pointer (some ⟨w1.heap.size + 1, 0, none⟩)]] 59)) = W0 := ⟨_, rfl⟩
    rw [hW0] at bS bP bN bF hx0 hsz ⊢
    clear hW0
    have hN72 := prsAll_len h8 (crossB xs)
    have HX := Lib.hid hx; clear hx
    refine wpIn_rangeFunc_ownG rfl h1m (gf := 47) (lb := #[.pointer (some ⟨w1.heap.size + 1 + 1, 0, none⟩), .pointer (some ⟨w1.heap.size + 1 + 1 + 1, 0, none⟩)]) rfl trivial (enters_of Try.func47 (by kernel_rfl) rfl)
      (pairs_c_stops (m - 1) (by omega) (w1.heap.size + 1 + 1) (w1.heap.size + 1 + 1 + 1) (w1.heap.size + 1) xs.length h8 (crossB xs) (fun b => b < w1.heap.size ∨ w1.heap.size + 1 ≤ b ∧ b < w1.heap.size + 4) W0
        (cross_ready h8 HIS.out (HX.out.trans hx0) (fun b hb => .inl (Nat.lt_of_lt_of_le hb HX.out.size)) (by omega) (by omega) (by omega) bP bN bF))
      KL.trans (KL.putObj (fun b hb => by omega)) (Below.refl _ _) (fun _ => rfl)
      (fun pre W => Boxed W w1.heap.size 3 (.int .i64 (pre.length : Int)) ∧ Below w1.heap.size w1 W)
      (fun _ _ _ => False)
      (OwnFrom.and (Own.from (boxed_own _ _ _) _) (ownFrom_below (Nat.le_refl _) (by omega)))
      (fun _ _ _ _ _ hs _ _ => hs)
      ⟨bS, hx0⟩ ?a1 ?assign ?body ?done ?stop
    case assign =>
      intro l x W K hK
      gi_wp2
      exact hK
    case body =>
      rintro l pre x W ⟨hB, hE⟩ hlen
      have hc := hB.cell
      have hf := hB.frozen
      have Hlen : Hid ((pre ++ [x]).length = pre.length + 1) := Lib.hid (by simp)
      gi_wp2
      exact ⟨(KeepsOthers.setCell _ _ _).from _, (KL.refl _ W).setCell (by simp only; omega) _, by have := hB.set (.int .i64 ((pre.length : Int) + 1)); rw [Hlen.out]; exact this, hE.setCell (p := ⟨w1.heap.size, 0, none⟩) (Nat.le_refl _) _⟩
    case done =>
      rintro D ys W hD rfl ⟨hB, hE⟩ hK
      have hc := hB.cell
      have hf := hB.frozen
      have Hx2 := Lib.hid hE
      clear hE
      gi_wp2
      refine ⟨by simp, .inl ⟨_, _, rfl, run_takeDeferred hK, ?_⟩⟩
      exact ⟨.tuple #[.int .i64 ((crossers xs).length : Int), .int .i64 0], by simp [results, Try.f12, go_sem, crossers], rfl, HX.out.trans (Below.trans Hx2.out (belowK_b (w := w1) (Nat.le_refl _) W D _ _ (by omega) hK rfl rfl))⟩
    case stop =>
      rintro D c pre W _ _ h _
      exact h.elim
  · have he' : (e0 != 0) = true := by simpa using he
    have hif : (if e0 = 0 then ((crossers xs).length : Int) else 0) = 0 := if_neg he
    rw [hif]
    clear he hif
    gi_wp2_with (refine ⟨trivial, ?_⟩; gi_at_call 26; refine (callsIn_wide.2 HP.out).mono ?_; rintro e w1 ⟨rfl, hx⟩)
    exact ⟨.tuple #[.int .i64 0, .int .i64 e0], by simp [results, Try.f12, go_sem], rfl, hx⟩
end Go.Proofs.Ytpcbadagffeehaa
