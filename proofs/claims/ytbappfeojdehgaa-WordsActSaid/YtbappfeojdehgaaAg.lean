/- What a word with changes that came in reads as. -/
import Derived.Test.YtbappfeojdehgaaAf
import Derived.Test.YtbappfeojdehgaaFr
import Derived.OpenShut
import Derived.ChangeArms
import Derived.Lib.SmallJoins
namespace Go.Proofs.Ytbappfeojdehgaa
set_option linter.unusedVariables false
set_option linter.unusedSimpArgs false
open Go Go.RowKit Go.ChangeShapes Go.WideShapes Go.ChangeAt

theorem cells_two {w : World} {base : Nat} {a : Addr} {cs : List Value} (h : w.cells? base a 2 = some cs) : ∃ u v, cs = [u, v] ∧ w.cell? a = some u ∧ w.cell? (a.add 1) = some v := by
  have e0 : a.add 0 = a := by simp [Addr.add]
  unfold World.cells? at h
  split at h
  · simp only [List.range_succ, List.range_zero, List.nil_append, List.cons_append, List.mapM_cons, List.mapM_nil, e0] at h
    cases hu : w.cell? a with
    | none => simp [hu] at h
    | some u =>
      cases hv : w.cell? (a.add 1) with
      | none => simp [hu, hv] at h
      | some v => simp [hu, hv] at h; exact ⟨u, v, h.symm, rfl, rfl⟩
  · cases h

section
variable {H : Type} {enc : TypeId × Value → H} {P : Program} {w : World} {base : Nat} {sp : Nat → Bool} {held : Bool}
theorem trod_pair {t e : TypeId} {fuel : Nat} {u v : Value} {x : DataW H × List MemPlace} (ht : P.underlying t = some (.array 2 e)) (he : P.underlying e = some (.int .u8)) (hce : P.cellsOf e = 1) (hct : P.cellsOf t = 2)
    (h : DataW.trod enc P w base sp held fuel t [u, v] = some x) : ∃ a b, u = .int .u8 a ∧ v = .int .u8 b ∧ (Lit.int .u8 a).wf = true ∧ (Lit.int .u8 b).wf = true := by
  cases fuel with
  | zero => simp [DataW.trod] at h
  | succ fuel =>
    simp only [DataW.trod, ht, hce, hct, Nat.mul_one] at h
    split at h
    · obtain ⟨xs, hm, hx⟩ := Option.map_eq_some_iff.1 h
      simp only [List.range_succ, List.range_zero, List.nil_append, List.cons_append, List.mapM_cons, List.mapM_nil] at hm
      cases h0 : DataW.trod enc P w base sp held fuel e (([u, v].drop 0).take 1) with
      | none => simp at h0; simp [h0] at hm
      | some y0 =>
        cases h1 : DataW.trod enc P w base sp held fuel e (([u, v].drop 1).take 1) with
        | none => simp at h0 h1; simp [h0, h1] at hm
        | some y1 =>
          obtain ⟨a, ha, _, wa⟩ := DataW.trod_int he h0
          obtain ⟨b, hb, _, wb⟩ := DataW.trod_int he h1
          simp at ha hb
          exact ⟨a, b, ha, hb, wa, wb⟩
    · cases h

theorem pairs_in {t e f : TypeId} {fuel : Nat} {v : Value} {x : DataW H × List MemPlace} (ht : P.underlying t = some (.slice e)) (he : P.underlying e = some (.array 2 f)) (hf : P.underlying f = some (.int .u8)) (hcf : P.cellsOf f = 1) (hce : P.cellsOf e = 2)
    (h : DataW.trod enc P w base sp held fuel t [v] = some x) : ∃ c ms, PS w v c ms ∧ ∀ i, i < ms.length → 0 ≤ (pi ms i).1 ∧ (pi ms i).1 ≤ 255 ∧ 0 ≤ (pi ms i).2 ∧ (pi ms i).2 ≤ 255 := by
  rcases DataW.trod_slice ht h with ⟨hcs, _⟩ | ⟨a, len, cap, elems, rest, n, _, hcs, _, _, hl, hm, hlen, hel, _⟩
  · obtain rfl : v = .slice none 0 0 := by simpa using hcs
    exact ⟨0, [], ⟨none, rfl, Nat.le_refl _, by unfold maxLen; omega, .inl rfl⟩, fun i hi => by simp at hi⟩
  · obtain rfl : v = .slice (some a) len cap := by simpa using hcs
    have key : ∀ i, i < len → ∃ p q : Int, w.cell? (a.add (i * 2)) = some (.int .u8 p) ∧ w.cell? ((a.add (i * 2)).add 1) = some (.int .u8 q) ∧ 0 ≤ p ∧ p ≤ 255 ∧ 0 ≤ q ∧ q ≤ 255 := by
      intro i hi
      have hE := hel i hi
      rw [hce] at hE
      rw [List.getElem?_eq_getElem (by omega)] at hE
      simp only [Option.bind_eq_some_iff] at hE
      obtain ⟨cs, hc, hy⟩ := hE
      obtain ⟨u, u', rfl, h1, h2⟩ := cells_two hc
      obtain ⟨p, q, rfl, rfl, wp, wq⟩ := trod_pair he hf hcf hce hy
      have hp := wf8 wp
      have hq := wf8 wq
      exact ⟨p, q, h1, h2, hp.1, hp.2, hq.1, hq.2⟩
    obtain ⟨F, hF⟩ : ∃ F : Nat → Int × Int, ∀ i, i < len → w.cell? (a.add (i * 2)) = some (.int .u8 (F i).1) ∧ w.cell? ((a.add (i * 2)).add 1) = some (.int .u8 (F i).2) ∧ 0 ≤ (F i).1 ∧ (F i).1 ≤ 255 ∧ 0 ≤ (F i).2 ∧ (F i).2 ≤ 255 :=
      ⟨fun i => if h : i < len then ((key i h).choose, (key i h).choose_spec.choose) else (0, 0), fun i hi => by simp only [hi, dif_pos]; exact (key i hi).choose_spec.choose_spec⟩
    have hpi : ∀ i, i < len → pi ((List.range len).map F) i = F i := fun i hi => by unfold pi; simp [List.getD, hi]
    refine ⟨cap, (List.range len).map F, ⟨some a, by simp, by simpa using hl, hm, ?_⟩, fun i hi => ?_⟩
    · by_cases h0 : len = 0
      · subst h0; exact .inl rfl
      · have hs : a.spot = none := by
          have := (hF 0 (by omega)).1
          rw [Nat.zero_mul, show a.add 0 = a from by simp [Addr.add]] at this
          exact cell_spot this
        obtain ⟨b, o, s⟩ := a
        have hs' : s = none := hs
        subst hs'
        refine .inr ⟨b, o, rfl, fun i hi => ?_⟩
        have hi' : i < len := by simpa using hi
        have hk := hF i hi'
        rw [Addr.add_lit, Addr.add_lit] at hk
        have e := hpi i hi'
        unfold pi at e
        rw [e]
        exact ⟨hk.1, hk.2.1⟩
    · have hi' : i < len := by simpa using hi
      rw [hpi i hi']
      exact (hF i hi').2.2

theorem bytes_in {t e : TypeId} {fuel : Nat} {v : Value} {x : DataW H × List MemPlace} (ht : P.underlying t = some (.slice e)) (he : P.underlying e = some (.int .u8)) (hc : P.cellsOf e = 1)
    (h : DataW.trod enc P w base (fun _ => true) held fuel t [v] = some x) : ∃ c xs, IS .u8 w v c xs ∧ ∀ i, i < xs.length → 0 ≤ gi xs i ∧ gi xs i ≤ 255 := by
  rcases open_ints ht he hc h with ⟨hcs, _⟩ | ⟨x, l, c, zs, hcs, _, hl, hm, hz, _, hcell, hwz⟩
  · obtain rfl : v = .slice none 0 0 := by simpa using hcs
    exact ⟨0, [], IS.nil _ _, fun i hi => by simp at hi⟩
  · obtain rfl : v = .slice (some x) l c := by simpa using hcs
    have hr : IsRow .u8 w (some x) l c zs := .inr ⟨_, rfl, hl, hm, by simpa using hz, hcell, hwz⟩
    exact ⟨c, zs.take l, hr.is, hr.bd⟩
end

/-- A word and its changes, as they come in. -/
def XIn (w : World) (v : Value) : Prop := ∃ va vb ca cb xs ms, v = .agg #[va, vb] ∧ IS .u8 w va ca xs ∧ (∀ i, i < xs.length → 0 ≤ gi xs i ∧ gi xs i ≤ 255) ∧ PS w vb cb ms ∧
  ∀ i, i < ms.length → 0 ≤ (pi ms i).1 ∧ (pi ms i).1 ≤ 255 ∧ 0 ≤ (pi ms i).2 ∧ (pi ms i).2 ≤ 255
theorem open_X {H : Type} {enc : TypeId × Value → H} {w : World} {b0 : Nat} {v : Value} {d : DataW H} {p : List MemPlace}
    (hv : Value.okWide Try.prog w .any b0 47 v) (h : DataW.Trod enc Try.prog w 0 (fun _ => true) true 47 v d p) : XIn w v := by
  obtain ⟨v0, v1, y0, y1, n, rfl, _, _, g0, g1⟩ := Joins.open_agg2 Try.underlying47 (by kernel_rfl) (show Try.prog.cellsOf 47 = 2 by kernel_rfl) hv h
  obtain ⟨ca, xs, h1, h2⟩ := bytes_in Try.underlying23 Try.underlying5 (by kernel_rfl) g0
  obtain ⟨cb, ms, h3, h4⟩ := pairs_in Try.underlying45 Try.underlying57 Try.underlying5 (by kernel_rfl) (by kernel_rfl) g1
  exact ⟨v0, v1, ca, cb, xs, ms, rfl, h1, h2, h3, h4⟩
end Go.Proofs.Ytbappfeojdehgaa
