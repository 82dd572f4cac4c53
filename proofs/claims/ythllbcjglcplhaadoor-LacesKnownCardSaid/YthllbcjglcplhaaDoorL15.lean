/- Texts of this claim in one file: libraries and walks. -/
import Derived.Handed
import Derived.ChangeSlices
import Derived.Deep.Matrix
import Derived.OpenShut
import Derived.ChangeArms
import Derived.Lib.SmallJoins
import Derived.Test.YthllbcjglcplhaaDoorL0
import Derived.Test.YthllbcjglcplhaaDoorL1
import Derived.Test.YthllbcjglcplhaaDoorL3
import Derived.Test.YthllbcjglcplhaaDoorL5
/- What a row of numbers that came in reads as. -/
namespace Go.Proofs.YthllbcjglcplhaaDoor
set_option linter.unusedVariables false
set_option linter.unusedSimpArgs false
open Go Go.RowKit

/-- A slice of integers that came in: nothing, or a row of cells. -/
def IsRow (k : IntKind) (w : World) (a : Option Addr) (len cap : Nat) (zs : List Int) : Prop :=
  (a = none ∧ len = 0 ∧ cap = 0 ∧ zs = []) ∨
  ∃ x, a = some x ∧ len ≤ cap ∧ cap ≤ maxLen ∧ zs.length = cap ∧ (∀ i, i < zs.length → w.cell? (x.add i) = some (.int k (zs.getD i 0))) ∧ ∀ n ∈ zs, (Lit.int k n).wf = true

theorem cell_spot {w : World} {x : Addr} {v : Value} (h : w.cell? x = some v) : x.spot = none := by
  unfold World.cell? at h
  split at h
  · split at h
    · cases h
    · cases hs : x.spot with
      | none => rfl
      | some s => rename_i hn; rw [hs] at hn; exact absurd rfl hn
  · cases h

theorem IsRow.is {k : IntKind} {w : World} {a : Option Addr} {len cap : Nat} {zs : List Int} (h : IsRow k w a len cap zs) : IS k w (.slice a len cap) cap (zs.take len) := by
  rcases h with ⟨rfl, rfl, rfl, rfl⟩ | ⟨x, rfl, h1, h2, h3, hc, _⟩
  · exact IS.nil k w
  · have hl : (zs.take len).length = len := by rw [List.length_take]; omega
    by_cases h0 : cap = 0
    · obtain rfl : len = 0 := by omega
      refine ⟨some x, by simp, by simp, h2, fun h => (by cases h), fun a ha => ⟨fun h => (by omega), fun j u hj => by simp at hj⟩⟩
    · have hs : x.spot = none := by
        have := hc 0 (by omega)
        rw [show x.add 0 = x from rfl] at this
        exact cell_spot this
      obtain ⟨b, o, s⟩ := x
      have hs' : s = none := hs
      subst hs'
      refine IS.mk hl.symm h1 h2 fun i hi => ?_
      have := hc i (by omega)
      rw [Addr.add_lit] at this
      rw [this, gi_take hi]; rfl

theorem IsRow.all {k : IntKind} {w : World} {a : Option Addr} {len cap : Nat} {zs : List Int} (h : IsRow k w a len cap zs) {n : Int} (hn : n ∈ zs.take len) : (Lit.int k n).wf = true := by
  rcases h with ⟨rfl, rfl, rfl, rfl⟩ | ⟨x, rfl, h1, h2, h3, hc, hw⟩
  · simp at hn
  · exact hw n (List.mem_of_mem_take hn)
theorem wf8 {n : Int} (h : (Lit.int .u8 n).wf = true) : 0 ≤ n ∧ n ≤ 255 := by
  unfold Lit.wf at h
  simp only [Bool.and_eq_true, decide_eq_true_eq] at h
  exact h
theorem wf64 {n : Int} (h : (Lit.int .i64 n).wf = true) : -9223372036854775808 ≤ n ∧ n ≤ 9223372036854775807 := by
  unfold Lit.wf at h
  simp only [Bool.and_eq_true, decide_eq_true_eq] at h
  exact h
theorem IsRow.bd {w : World} {a : Option Addr} {len cap : Nat} {zs : List Int} (h : IsRow .u8 w a len cap zs) : ∀ i, i < (zs.take len).length → 0 ≤ gi (zs.take len) i ∧ gi (zs.take len) i ≤ 255 :=
  fun _ hi => wf8 (h.all (gi_mem hi))
theorem IsRow.bd64 {w : World} {a : Option Addr} {len cap : Nat} {zs : List Int} (h : IsRow .i64 w a len cap zs) : ∀ i, i < (zs.take len).length → -9223372036854775808 ≤ gi (zs.take len) i ∧ gi (zs.take len) i ≤ 9223372036854775807 :=
  fun _ hi => wf64 (h.all (gi_mem hi))

/-! ### What the sizes of the arguments give -/
theorem weights_at {H : Type} {P : Program} : ∀ {ts : List TypeId} {ds : List (DataW H)}, (DataW.weightsEach P ts ds).all (· ≤ reachBytes) = true → ∀ {i : Nat} {t : TypeId} {d : DataW H}, ts[i]? = some t → ds[i]? = some d → (DataW.weights P t d).all (· ≤ reachBytes) = true
  | [], _, _, i, t, d, ht, _ => by simp at ht
  | _ :: _, [], _, i, t, d, _, hd => by simp at hd
  | t0 :: ts, d0 :: ds, h, i, t, d, ht, hd => by
    rw [DataW.weightsEach, List.all_append, Bool.and_eq_true] at h
    cases i with
    | zero =>
      obtain rfl : t0 = t := by simpa using ht
      obtain rfl : d0 = d := by simpa using hd
      exact h.1
    | succ i => exact weights_at h.2 (i := i) (by simpa using ht) (by simpa using hd)
theorem weight_slice {H : Type} {P : Program} {t e : TypeId} (ht : P.underlying t = some (.slice e)) {l r : List (DataW H)} (h : (DataW.weights P t (.slice l r)).all (· ≤ reachBytes) = true) : (l.length + r.length) * P.bytesOf e ≤ 140737488351232 := by
  rw [DataW.weights, ht] at h
  simp only [List.all_cons, Bool.and_eq_true, decide_eq_true_eq] at h
  exact h.1
theorem weight_row {H : Type} {P : Program} {t e : TypeId} (ht : P.underlying t = some (.slice e)) {k : IntKind} {zs : List Int} {n : Nat} {d : DataW H} (hd : d = .slice (Go.ChangeShapes.lits k (zs.take n)) (Go.ChangeShapes.lits k (zs.drop n))) (h : (DataW.weights P t d).all (· ≤ reachBytes) = true) : zs.length * P.bytesOf e ≤ 140737488351232 := by
  subst hd
  have := weight_slice ht h
  have e : (Go.ChangeShapes.lits (H := H) k (zs.take n)).length + (Go.ChangeShapes.lits (H := H) k (zs.drop n)).length = zs.length := by
    simp [Go.ChangeShapes.lits]; omega
  rwa [e] at this

variable {H : Type} {enc : TypeId × Value → H}
theorem returnsInHanded_sized {a : Assume} {C : Checked} {os : Os} {f : FuncId} {fn : Func} {s : ChangeSpec} {conds : List PathCond} {apart fresh handsOn again : Bool}
    (own : ownKnob C.prog.godebug = none) (started : os.Started) (noInit : C.prog.inits.idxOf? f = none) (hfn : C.prog.funcs[f]? = some fn)
    (witness : ∃ (w : World) (tape : Tape) (i : Input), w.os = os ∧ (w.forCall tape i).Shaped C.prog ∧ i.vars = [] ∧ Input.okWide C.prog (w.forCall tape i) .any w.heap.size f i ∧
      s.pre6 enc C.prog fn conds apart (w.forCall tape i).memory i.args ∧ a.holds C.prog (lone (Frame.enter C.prog f i.args .normal) [] (w.forCall tape i)))
    (contract : ∀ (W : World) (base : Nat) (args : Array Value) (ds gs : List (DataW H)) (before : List MemPlace),
      (∀ (j : Nat) t v, fn.params[j]? = some t → args[j]? = some v → Value.okWide C.prog W .any base t v) →
      DataW.Whole enc C.prog fn.params.toList s.vars apart W args.toList ds gs before →
      conds.all (PathCond.test C.prog ⟨fn.params.toList, ds, s.plain.varTypes C.prog, gs⟩) = true →
      (DataW.weightsEach C.prog (fn.params.toList ++ s.plain.varTypes C.prog) (ds ++ gs)).all (· ≤ reachBytes) = true →
      a.holds C.prog (lone (Frame.enter C.prog f args .normal) [] W) →
      Calls C.prog f args W fun e W' => ∃ v, e = .returned v ∧ s.post enc C.prog fn apart fresh handsOn again W args v W') :
    ReturnsInHanded a C os f .any (s.pre6 enc C.prog fn conds apart) (s.post enc C.prog fn apart fresh handsOn again) := by
  refine returnsInHanded_of_calls own started noInit witness ?_
  intro w tape i _ _ _ hok hpre hholds
  obtain ⟨_, _, _, fn', hfn', _, _, _, _, hval⟩ := hok
  have e : fn' = fn := Option.some.inj (hfn'.symm.trans hfn)
  subst e
  obtain ⟨⟨ds, gs, before, hw, hc⟩, hz⟩ := hpre
  have hw' := DataW.Whole.of_heap (w' := w.forCall tape i) (by rfl) hw
  refine (contract (w.forCall tape i) w.heap.size i.args ds gs before hval hw' hc (hz.weights hw) hholds).mono fun e W' ⟨v, he, hp⟩ => ?_
  subst he
  exact ChangeSpec.post_blind hp
/-- .. where the walk wants the shape of the world, too. -/
theorem returnsInHanded_and_open {a : Assume} {C : Checked} {os : Os} {f : FuncId} {fn : Func} {s : ChangeSpec} {conds : List PathCond} {apart fresh handsOn again : Bool} {X : World → Array Value → Prop}
    (hX : ∀ (w w' : World) (args : Array Value), w.heap = w'.heap → X w args → X w' args)
    (own : ownKnob C.prog.godebug = none) (started : os.Started) (noInit : C.prog.inits.idxOf? f = none) (hfn : C.prog.funcs[f]? = some fn)
    (witness : ∃ (w : World) (tape : Tape) (i : Input), w.os = os ∧ (w.forCall tape i).Shaped C.prog ∧ i.vars = [] ∧ Input.okWide C.prog (w.forCall tape i) .any w.heap.size f i ∧
      ((s.pre enc C.prog fn conds apart (w.forCall tape i).memory i.args ∧ X (w.forCall tape i).memory i.args) ∧ sizedMet enc C.prog fn (OpenSpec.ofChange s) apart (w.forCall tape i).memory i.args) ∧ a.holds C.prog (lone (Frame.enter C.prog f i.args .normal) [] (w.forCall tape i)))
    (contract : ∀ (W : World) (base : Nat) (args : Array Value) (ds gs : List (DataW H)) (before : List MemPlace), W.ShapedOpen C.prog →
      (∀ (j : Nat) t v, fn.params[j]? = some t → args[j]? = some v → Value.okWide C.prog W .any base t v) →
      DataW.Whole enc C.prog fn.params.toList s.vars apart W args.toList ds gs before →
      conds.all (PathCond.test C.prog ⟨fn.params.toList, ds, s.plain.varTypes C.prog, gs⟩) = true →
      (DataW.weightsEach C.prog (fn.params.toList ++ s.plain.varTypes C.prog) (ds ++ gs)).all (· ≤ reachBytes) = true → X W args →
      a.holds C.prog (lone (Frame.enter C.prog f args .normal) [] W) →
      Calls C.prog f args W fun e W' => ∃ v, e = .returned v ∧ s.post enc C.prog fn apart fresh handsOn again W args v W') :
    ReturnsInHanded a C os f .any (fun w args => (s.pre enc C.prog fn conds apart w args ∧ X w args) ∧ sizedMet enc C.prog fn (OpenSpec.ofChange s) apart w args) (s.post enc C.prog fn apart fresh handsOn again) := by
  refine returnsInHanded_of_calls own started noInit witness ?_
  intro w tape i _ hso _ hok hpre hholds
  obtain ⟨_, _, _, fn', hfn', _, _, _, _, hval⟩ := hok
  have e : fn' = fn := Option.some.inj (hfn'.symm.trans hfn)
  subst e
  obtain ⟨⟨⟨ds, gs, before, hw, hc⟩, hx⟩, hz⟩ := hpre
  have hw' := DataW.Whole.of_heap (w' := w.forCall tape i) (by rfl) hw
  refine (contract (w.forCall tape i) w.heap.size i.args ds gs before hso hval hw' hc (hz.weights hw) (hX _ _ _ (by rfl) hx) hholds).mono fun e W' ⟨v, he, hp⟩ => ?_
  subst he
  exact ChangeSpec.post_blind hp
end Go.Proofs.YthllbcjglcplhaaDoor
/- What rows of stitches, charts and lists of lists that came in read as. -/
namespace Go.Proofs.YthllbcjglcplhaaDoor
set_option linter.unusedVariables false
set_option linter.unusedSimpArgs false
set_option maxRecDepth 8000
open Go Go.RowKit Go.ChangeShapes Go.WideShapes Go.ChangeAt

theorem spot_of {w : World} {a : Addr} {v : Value} (h : w.cell? a = some v) : ∃ b o, a = ⟨b, o, none⟩ := by
  obtain ⟨b, o, s⟩ := a
  have hs : s = none := cell_spot h
  subst hs
  exact ⟨b, o, rfl⟩
section
variable {H : Type} {enc : TypeId × Value → H} {w : World} {base : Nat} {held : Bool}
/-- Five cells that read as a stitch. -/
theorem st_in {sp : Nat → Bool} {fuel : Nat} {cs : List Value} {x : DataW H × List MemPlace} (h : DataW.trod enc Tryd.prog w base sp held fuel 49 cs = some x) : ∃ s : St, s.In ∧ cs = s.cs := by
  obtain ⟨xs, n, _, _, hl, hlen, hf⟩ := DataW.trod_struct Tryd.underlying49 h
  rw [show Tryd.prog.cellsOf 49 = 5 by kernel_rfl] at hl
  match cs, hl with
  | [c0, c1, c2, c3, c4], _ =>
    match xs, hlen with
    | [y0, y1, y2, y3, y4], _ =>
      have c8 : Tryd.prog.cellsOf 47 = 1 := by kernel_rfl
      have cu : Tryd.prog.cellsOf 5 = 1 := by kernel_rfl
      have ci : Tryd.prog.cellsOf 3 = 1 := by kernel_rfl
      have cb : Tryd.prog.cellsOf 4 = 1 := by kernel_rfl
      have h0 : DataW.trod enc Tryd.prog w base sp held n 47 (([c0, c1, c2, c3, c4].drop 0).take (Tryd.prog.cellsOf 47)) = some y0 := hf 0 _ rfl
      rw [c8] at h0
      have h1 : DataW.trod enc Tryd.prog w base sp held n 5 (([c0, c1, c2, c3, c4].drop 1).take (Tryd.prog.cellsOf 5)) = some y1 := hf 1 _ rfl
      rw [cu] at h1
      have h2 : DataW.trod enc Tryd.prog w base sp held n 3 (([c0, c1, c2, c3, c4].drop 2).take (Tryd.prog.cellsOf 3)) = some y2 := hf 2 _ rfl
      rw [ci] at h2
      have h3 : DataW.trod enc Tryd.prog w base sp held n 3 (([c0, c1, c2, c3, c4].drop 3).take (Tryd.prog.cellsOf 3)) = some y3 := hf 3 _ rfl
      rw [ci] at h3
      have h4 : DataW.trod enc Tryd.prog w base sp held n 4 (([c0, c1, c2, c3, c4].drop 4).take (Tryd.prog.cellsOf 4)) = some y4 := hf 4 _ rfl
      rw [cb] at h4
      obtain ⟨k, hk, _, wk⟩ := DataW.trod_int Tryd.underlying47 h0
      obtain ⟨y, hy, _, wy⟩ := DataW.trod_int Tryd.underlying5 h1
      obtain ⟨a, ha, _, wa⟩ := DataW.trod_int Tryd.underlying3 h2
      obtain ⟨b, hb, _, wb⟩ := DataW.trod_int Tryd.underlying3 h3
      obtain ⟨f, hff, _⟩ := DataW.trod_bool Tryd.underlying4 h4
      simp at hk hy ha hb hff
      refine ⟨⟨k, y, a, b, f⟩, ⟨wf8 wk, wf8 wy, wf64 wa, wf64 wb⟩, ?_⟩
      simp [St.cs, hk, hy, ha, hb, hff]
theorem row_in {fuel : Nat} {v : Value} {x : DataW H × List MemPlace} (h : DataW.trod enc Tryd.prog w base (fun _ => true) held fuel 41 [v] = some x) : ∃ c l, RS w v c l ∧ ∀ s ∈ l, St.In s := by
  rcases Deep.open_slice Tryd.underlying41 h with ⟨hcs, _⟩ | ⟨a, len, cap, m, n, D, Pl, hcs, hb, hl, hm, hmm, _, hx⟩
  · obtain rfl : v = .slice none 0 0 := by simpa using hcs
    exact ⟨0, [], RS.nil w, fun s hs => by cases hs⟩
  · obtain rfl : v = .slice (some a) len cap := by simpa using hcs
    simp only [if_true] at hmm
    subst hmm
    rw [show Tryd.prog.cellsOf 49 = 5 by kernel_rfl] at hx
    have key : ∀ i, i < len → ∃ s : St, s.In ∧ ∀ j, j < 5 → w.cell? ((a.add (i * 5)).add j) = s.cs[j]? := fun i hi => by
      obtain ⟨cs', h1, h2⟩ := hx i (by omega)
      obtain ⟨_, _, h4⟩ := World.cells?_some h1
      obtain ⟨s, h5, rfl⟩ := st_in h2
      exact ⟨s, h5, h4⟩
    obtain ⟨F, hF⟩ : ∃ F : Nat → St, ∀ i, i < len → (F i).In ∧ ∀ j, j < 5 → w.cell? ((a.add (i * 5)).add j) = (F i).cs[j]? :=
      ⟨fun i => if h : i < len then (key i h).choose else St.none, fun i hi => by simp only [hi, dif_pos]; exact (key i hi).choose_spec⟩
    have hsi : ∀ i, i < len → si ((List.range len).map F) i = F i := fun i hi => by unfold si; simp [List.getD, hi]
    refine ⟨m, (List.range len).map F, ⟨some a, by simp, by simpa using hl, hm, ?_⟩, fun s hs => ?_⟩
    · by_cases h0 : len = 0
      · subst h0; exact .inl rfl
      · obtain ⟨b, o, hao⟩ : ∃ b o, a = ⟨b, o, none⟩ := by
          have := (hF 0 (by omega)).2 0 (by omega)
          rw [Nat.zero_mul, show a.add 0 = a from by simp [Addr.add], show a.add 0 = a from by simp [Addr.add]] at this
          exact spot_of this
        subst hao
        refine .inr ⟨b, o, rfl, fun i hi => ?_⟩
        have hi' : i < len := by simpa using hi
        have hk := (hF i hi').2
        rw [hsi i hi']
        have k0 := hk 0 (by omega); have k1 := hk 1 (by omega); have k2 := hk 2 (by omega); have k3 := hk 3 (by omega); have k4 := hk 4 (by omega)
        rw [Addr.add_lit, Addr.add_lit] at k0 k1 k2 k3 k4
        exact ⟨k0, k1, k2, k3, k4⟩
    · obtain ⟨i, hi, rfl⟩ := List.mem_map.1 hs
      exact (hF i (List.mem_range.1 hi)).1
theorem rows_in {fuel : Nat} {v : Value} {x : DataW H × List MemPlace} (h : DataW.trod enc Tryd.prog w base (fun _ => true) held fuel 26 [v] = some x) : ∃ c rows, RR w v c rows ∧ ∀ l ∈ rows, ∀ s ∈ l, St.In s := by
  rcases Deep.open_slice1 Tryd.underlying26 (by kernel_rfl) h with ⟨hcs, _⟩ | ⟨a, len, cap, m, n, V, D, Pl, hcs, hb, hl, hm, hmm, _, hx⟩
  · obtain rfl : v = .slice none 0 0 := by simpa using hcs
    exact ⟨0, [], RR.nil w, fun s hs => by cases hs⟩
  · obtain rfl : v = .slice (some a) len cap := by simpa using hcs
    simp only [if_true] at hmm
    subst hmm
    have key : ∀ i, i < len → ∃ y : Nat × List St, RS w (V i) y.1 y.2 ∧ ∀ s ∈ y.2, St.In s := fun i hi => by
      obtain ⟨c, l, h1, h2⟩ := row_in (hx i (by omega)).2
      exact ⟨(c, l), h1, h2⟩
    obtain ⟨F, hF⟩ : ∃ F : Nat → Nat × List St, ∀ i, i < len → RS w (V i) (F i).1 (F i).2 ∧ ∀ s ∈ (F i).2, St.In s :=
      ⟨fun i => if h : i < len then (key i h).choose else (0, []), fun i hi => by simp only [hi, dif_pos]; exact (key i hi).choose_spec⟩
    have hsw : ∀ i, i < len → sw ((List.range len).map fun i => (F i).2) i = (F i).2 := fun i hi => by unfold sw; simp [List.getD, hi]
    refine ⟨m, (List.range len).map fun i => (F i).2, ⟨some a, V, fun i => (F i).1, by simp, by simpa using hl, hm, ?_, fun i hi => ?_⟩, fun l hl => ?_⟩
    · by_cases h0 : len = 0
      · subst h0; exact .inl rfl
      · obtain ⟨b, o, hao⟩ : ∃ b o, a = ⟨b, o, none⟩ := by
          have := (hx 0 (by omega)).1
          rw [show a.add 0 = a from by simp [Addr.add]] at this
          exact spot_of this
        subst hao
        refine .inr ⟨b, o, rfl, fun i hi => ?_⟩
        have hi' : i < len := by simpa using hi
        have := (hx i (by omega)).1
        rwa [Addr.add_lit] at this
    · have hi' : i < len := by simpa using hi
      rw [hsw i hi']; exact (hF i hi').1
    · obtain ⟨i, hi, rfl⟩ := List.mem_map.1 hl
      exact (hF i (List.mem_range.1 hi)).2
theorem iss_in {P : Program} {t e q : TypeId} {fuel : Nat} {v : Value} {x : DataW H × List MemPlace} (ht : P.underlying t = some (.slice e)) (he : P.underlying e = some (.slice q)) (hq : P.underlying q = some (.int .i64)) (ce : P.cellsOf e = 1) (cq : P.cellsOf q = 1)
    (h : DataW.trod enc P w base (fun _ => true) held fuel t [v] = some x) : ∃ c rows, ISS .i64 w v c rows := by
  rcases Deep.open_int_rows ht he hq ce cq h with ⟨hcs, _⟩ | ⟨a, len, cap, A, L, C, Z, hcs, _, hl, hm, _, hx⟩
  · obtain rfl : v = .slice none 0 0 := by simpa using hcs
    exact ⟨0, [], ISS.nil _ _⟩
  · obtain rfl : v = .slice (some a) len cap := by simpa using hcs
    have hri : ∀ i, i < len → ri ((List.range len).map fun r => (Z r).take (L r)) i = (Z i).take (L i) := fun i hi => ri_range_map _ hi
    by_cases h0 : cap = 0
    · have : len = 0 := by omega
      subst this; subst h0
      exact ⟨0, [], fun _ => undef, fun _ => 0, ⟨some a, rfl, Nat.le_refl _, by unfold maxLen; omega, fun h => (by cases h), fun b hb => ⟨fun h => absurd h (by omega), fun j u hj => by simp at hj⟩⟩, fun i hi => by simp at hi⟩
    · obtain ⟨b, o, hao⟩ : ∃ b o, a = ⟨b, o, none⟩ := by
        have := (hx 0 (by omega)).1
        rw [show a.add 0 = a from by simp [Addr.add]] at this
        exact spot_of this
      subst hao
      refine ⟨cap, (List.range len).map (fun r => (Z r).take (L r)), fun r => .slice (A r) (L r) (C r), C, ISV.mk' (by simp) hl hm (fun i hi => ?_) fun i hi => ?_⟩
      · have := (hx i (by omega)).1
        rwa [Addr.add_lit] at this
      · rw [hri i hi]
        obtain ⟨_, g1, g2, g3, g4, g5, g6⟩ := hx i (by omega)
        refine ⟨A i, by simp; omega, by simp; omega, g2, g5, fun a' ha' => ?_⟩
        obtain ⟨_, hcell⟩ := g6 a' ha'
        by_cases hc0 : C i = 0
        · exact ⟨fun h => absurd h (by omega), fun j u hj => by
            have : ((Z i).take (L i)).length = 0 := by simp; omega
            rw [List.eq_nil_of_length_eq_zero this] at hj; simp at hj⟩
        · obtain ⟨b', o', hao'⟩ : ∃ b o, a' = ⟨b, o, none⟩ := by
            have := hcell 0 (by omega)
            rw [show a'.add 0 = a' from by simp [Addr.add]] at this
            exact spot_of this
          subst hao'
          refine ⟨fun _ => rfl, fun j u hj => ?_⟩
          rw [List.getElem?_map, List.getElem?_take] at hj
          split at hj
          · have hjl : j < (Z i).length := by omega
            rw [List.getElem?_eq_getElem hjl] at hj
            have := hcell j (by omega)
            rw [Addr.add_lit] at this
            rw [this, ← Option.some.inj hj]
            simp [List.getD, hjl]
          · cases hj
end
/-- A chart, as it comes in. -/
def ChIn (w : World) (v : Value) : Prop := ∃ u c rows, v = .agg #[u] ∧ RR w u c rows ∧ ∀ l ∈ rows, ∀ s ∈ l, St.In s
theorem open_chart {H : Type} {enc : TypeId × Value → H} {w : World} {b0 : Nat} {v : Value} {d : DataW H} {p : List MemPlace}
    (hv : Value.okWide Tryd.prog w .any b0 28 v) (h : DataW.Trod enc Tryd.prog w 0 (fun _ => true) true 28 v d p) : ChIn w v := by
  obtain ⟨cs, rfl, hsz⟩ := okWide_struct Tryd.underlying28 hv
  obtain ⟨l⟩ := cs
  match l, hsz.trans (show Tryd.prog.cellsOf 28 = 1 by kernel_rfl) with
  | [u], _ =>
    obtain ⟨fuel, hf⟩ := h
    obtain ⟨y0, n, _, _, h0⟩ := trod_struct1 Tryd.underlying28 hf
    obtain ⟨c, rows, h1, h2⟩ := rows_in (by simpa [Value.cells, show Tryd.prog.cellsOf 26 = 1 by kernel_rfl] using h0)
    exact ⟨u, c, rows, rfl, h1, h2⟩
/-- Lists of numbers, as they come in. -/
def IssIn (w : World) (v : Value) : Prop := ∃ c rows, ISS .i64 w v c rows
theorem open_iss {H : Type} {enc : TypeId × Value → H} {w : World} {b0 : Nat} {v : Value} {d : DataW H} {p : List MemPlace}
    (hv : Value.okWide Tryd.prog w .any b0 44 v) (h : DataW.Trod enc Tryd.prog w 0 (fun _ => true) true 44 v d p) : IssIn w v := by
  obtain ⟨a, n, c, rfl⟩ := okWide_slice Tryd.underlying44 hv
  obtain ⟨fuel, hf⟩ := h
  exact iss_in Tryd.underlying44 Tryd.underlying68 Tryd.underlying3 (by kernel_rfl) (by kernel_rfl) (by simpa [Value.cells] using hf)
/-- A row of stitches, as it comes in. -/
def RowIn (w : World) (v : Value) : Prop := ∃ c l, RS w v c l ∧ ∀ s ∈ l, St.In s
theorem open_row {H : Type} {enc : TypeId × Value → H} {w : World} {b0 : Nat} {v : Value} {d : DataW H} {p : List MemPlace}
    (hv : Value.okWide Tryd.prog w .any b0 41 v) (h : DataW.Trod enc Tryd.prog w 0 (fun _ => true) true 41 v d p) : RowIn w v := by
  obtain ⟨a, n, c, rfl⟩ := okWide_slice Tryd.underlying41 hv
  obtain ⟨fuel, hf⟩ := h
  exact row_in (by simpa [Value.cells] using hf)
end Go.Proofs.YthllbcjglcplhaaDoor
/- What charts as plain data read as. -/
namespace Go.Proofs.YthllbcjglcplhaaDoor
set_option linter.unusedVariables false
set_option linter.unusedSimpArgs false
set_option maxRecDepth 100000
open Go Go.RowKit Go.ChangeShapes Go.WideShapes Go.ChangeAt

section
variable {H : Type} {enc : TypeId × Value → H} {w : World} {base : Nat} {held : Bool}
theorem rows8_in {P : Program} {t e q : TypeId} {fuel : Nat} {v : Value} {x : DataW H × List MemPlace} (ht : P.underlying t = some (.slice e)) (he : P.underlying e = some (.slice q)) (hq : P.underlying q = some (.int .u8)) (ce : P.cellsOf e = 1) (cq : P.cellsOf q = 1)
    (h : DataW.trod enc P w base (fun _ => true) held fuel t [v] = some x) : ∃ c rows, ISS .u8 w v c rows ∧ ∀ k, k < rows.length → ∀ i, i < (ri rows k).length → 0 ≤ gi (ri rows k) i ∧ gi (ri rows k) i ≤ 255 := by
  rcases Deep.open_int_rows ht he hq ce cq h with ⟨hcs, _⟩ | ⟨a, len, cap, A, L, C, Z, hcs, _, hl, hm, _, hx⟩
  · obtain rfl : v = .slice none 0 0 := by simpa using hcs
    exact ⟨0, [], ISS.nil _ _, fun k hk => by simp at hk⟩
  · obtain rfl : v = .slice (some a) len cap := by simpa using hcs
    have hri : ∀ i, i < len → ri ((List.range len).map fun r => (Z r).take (L r)) i = (Z i).take (L i) := fun i hi => ri_range_map _ hi
    by_cases h0 : cap = 0
    · have : len = 0 := by omega
      subst this; subst h0
      exact ⟨0, [], ⟨fun _ => undef, fun _ => 0, ⟨some a, rfl, Nat.le_refl _, by unfold maxLen; omega, fun h => (by cases h), fun b hb => ⟨fun h => absurd h (by omega), fun j u hj => by simp at hj⟩⟩, fun i hi => by simp at hi⟩, fun k hk => by simp at hk⟩
    · obtain ⟨b, o, hao⟩ : ∃ b o, a = ⟨b, o, none⟩ := by
        have := (hx 0 (by omega)).1
        rw [show a.add 0 = a from by simp [Addr.add]] at this
        exact spot_of this
      subst hao
      refine ⟨cap, (List.range len).map (fun r => (Z r).take (L r)), ⟨fun r => .slice (A r) (L r) (C r), C, ISV.mk' (by simp) hl hm (fun i hi => ?_) fun i hi => ?_⟩, fun k hk i hi => ?_⟩
      · have := (hx i (by omega)).1
        rwa [Addr.add_lit] at this
      · rw [hri i hi]
        obtain ⟨_, g1, g2, g3, g4, g5, g6⟩ := hx i (by omega)
        refine ⟨A i, by simp; omega, by simp; omega, g2, g5, fun a' ha' => ?_⟩
        obtain ⟨_, hcell⟩ := g6 a' ha'
        by_cases hc0 : C i = 0
        · exact ⟨fun h => absurd h (by omega), fun j u hj => by
            have : ((Z i).take (L i)).length = 0 := by simp; omega
            rw [List.eq_nil_of_length_eq_zero this] at hj; simp at hj⟩
        · obtain ⟨b', o', hao'⟩ : ∃ b o, a' = ⟨b, o, none⟩ := by
            have := hcell 0 (by omega)
            rw [show a'.add 0 = a' from by simp [Addr.add]] at this
            exact spot_of this
          subst hao'
          refine ⟨fun _ => rfl, fun j u hj => ?_⟩
          rw [List.getElem?_map, List.getElem?_take] at hj
          split at hj
          · have hjl : j < (Z i).length := by omega
            rw [List.getElem?_eq_getElem hjl] at hj
            have := hcell j (by omega)
            rw [Addr.add_lit] at this
            rw [this, ← Option.some.inj hj]
            simp [List.getD, hjl]
          · cases hj
      · have hk' : k < len := by simpa using hk
        rw [hri k hk'] at hi ⊢
        obtain ⟨_, _, _, _, g5, _⟩ := hx k (by omega)
        have hm := gi_mem hi
        exact wf8 (g5 _ (List.mem_of_mem_take hm))
end
/-- A chart as plain data, as it comes in. -/
def CIn (w : World) (v : Value) : Prop := ∃ f u c chs, v = .agg #[.int .u8 f, u] ∧ ISS .u8 w u c chs ∧ (0 ≤ f ∧ f ≤ 255) ∧ ∀ k, k < chs.length → ∀ i, i < (ri chs k).length → 0 ≤ gi (ri chs k) i ∧ gi (ri chs k) i ≤ 255
end Go.Proofs.YthllbcjglcplhaaDoor
/- What laces and laces of plain data that came in read as. -/
namespace Go.Proofs.YthllbcjglcplhaaDoor
set_option linter.unusedVariables false
set_option linter.unusedSimpArgs false
set_option maxRecDepth 100000
open Go Go.RowKit Go.ChangeShapes Go.WideShapes Go.ChangeAt

section
variable {H : Type} {enc : TypeId × Value → H} {w : World} {base : Nat} {held : Bool}
/-- Two cells that read as a hole. -/
theorem ho_in {sp : Nat → Bool} {fuel : Nat} {cs : List Value} {x : DataW H × List MemPlace} (h : DataW.trod enc Tryd.prog w base sp held fuel 39 cs = some x) : ∃ s : Ho, (-9223372036854775808 ≤ s.p ∧ s.p ≤ 9223372036854775807) ∧ cs = s.cs := by
  obtain ⟨xs, n, _, _, hl, hlen, hf⟩ := DataW.trod_struct Tryd.underlying39 h
  rw [show Tryd.prog.cellsOf 39 = 2 by kernel_rfl] at hl
  match cs, hl with
  | [c0, c1], _ =>
    match xs, hlen with
    | [y0, y1], _ =>
      have ci : Tryd.prog.cellsOf 3 = 1 := by kernel_rfl
      have cb : Tryd.prog.cellsOf 4 = 1 := by kernel_rfl
      have h0 : DataW.trod enc Tryd.prog w base sp held n 3 (([c0, c1].drop 0).take (Tryd.prog.cellsOf 3)) = some y0 := hf 0 _ rfl
      rw [ci] at h0
      have h1 : DataW.trod enc Tryd.prog w base sp held n 4 (([c0, c1].drop 1).take (Tryd.prog.cellsOf 4)) = some y1 := hf 1 _ rfl
      rw [cb] at h1
      obtain ⟨a, ha, _, wa⟩ := DataW.trod_int Tryd.underlying3 h0
      obtain ⟨f, hff, _⟩ := DataW.trod_bool Tryd.underlying4 h1
      simp at ha hff
      refine ⟨⟨a, f⟩, wf64 wa, ?_⟩
      simp [Ho.cs, ha, hff]
theorem hrow_in {fuel : Nat} {v : Value} {x : DataW H × List MemPlace} (h : DataW.trod enc Tryd.prog w base (fun _ => true) held fuel 37 [v] = some x) : ∃ c l, HS w v c l ∧ ∀ s ∈ l, -9223372036854775808 ≤ s.p ∧ s.p ≤ 9223372036854775807 := by
  rcases Deep.open_slice Tryd.underlying37 h with ⟨hcs, _⟩ | ⟨a, len, cap, m, n, D, Pl, hcs, hb, hl, hm, hmm, _, hx⟩
  · obtain rfl : v = .slice none 0 0 := by simpa using hcs
    exact ⟨0, [], HS.nil w, fun s hs => by cases hs⟩
  · obtain rfl : v = .slice (some a) len cap := by simpa using hcs
    simp only [if_true] at hmm
    subst hmm
    rw [show Tryd.prog.cellsOf 39 = 2 by kernel_rfl] at hx
    have key : ∀ i, i < len → ∃ s : Ho, (-9223372036854775808 ≤ s.p ∧ s.p ≤ 9223372036854775807) ∧ ∀ j, j < 2 → w.cell? ((a.add (i * 2)).add j) = s.cs[j]? := fun i hi => by
      obtain ⟨cs', h1, h2⟩ := hx i (by omega)
      obtain ⟨_, _, h4⟩ := World.cells?_some h1
      obtain ⟨s, h5, rfl⟩ := ho_in h2
      exact ⟨s, h5, h4⟩
    obtain ⟨F, hF⟩ : ∃ F : Nat → Ho, ∀ i, i < len → (-9223372036854775808 ≤ (F i).p ∧ (F i).p ≤ 9223372036854775807) ∧ ∀ j, j < 2 → w.cell? ((a.add (i * 2)).add j) = (F i).cs[j]? :=
      ⟨fun i => if h : i < len then (key i h).choose else Ho.none, fun i hi => by simp only [hi, dif_pos]; exact (key i hi).choose_spec⟩
    have hsi : ∀ i, i < len → oi ((List.range len).map F) i = F i := fun i hi => by unfold oi; simp [List.getD, hi]
    refine ⟨m, (List.range len).map F, ⟨some a, by simp, by simpa using hl, hm, ?_⟩, fun s hs => ?_⟩
    · by_cases h0 : len = 0
      · subst h0; exact .inl rfl
      · obtain ⟨b, o, hao⟩ : ∃ b o, a = ⟨b, o, none⟩ := by
          have := (hF 0 (by omega)).2 0 (by omega)
          rw [Nat.zero_mul, show a.add 0 = a from by simp [Addr.add], show a.add 0 = a from by simp [Addr.add]] at this
          exact spot_of this
        subst hao
        refine .inr ⟨b, o, rfl, fun i hi => ?_⟩
        have hi' : i < len := by simpa using hi
        have hk := (hF i hi').2
        rw [hsi i hi']
        have k0 := hk 0 (by omega); have k1 := hk 1 (by omega)
        rw [Addr.add_lit, Addr.add_lit] at k0 k1
        exact ⟨k0, k1⟩
    · obtain ⟨i, hi, rfl⟩ := List.mem_map.1 hs
      exact (hF i (List.mem_range.1 hi)).1
theorem hrows_in {fuel : Nat} {v : Value} {x : DataW H × List MemPlace} (h : DataW.trod enc Tryd.prog w base (fun _ => true) held fuel 22 [v] = some x) : ∃ c rows, HR w v c rows ∧ ∀ l ∈ rows, ∀ s ∈ l, -9223372036854775808 ≤ s.p ∧ s.p ≤ 9223372036854775807 := by
  rcases Deep.open_slice1 Tryd.underlying22 (by kernel_rfl) h with ⟨hcs, _⟩ | ⟨a, len, cap, m, n, V, D, Pl, hcs, hb, hl, hm, hmm, _, hx⟩
  · obtain rfl : v = .slice none 0 0 := by simpa using hcs
    exact ⟨0, [], HR.nil w, fun s hs => by cases hs⟩
  · obtain rfl : v = .slice (some a) len cap := by simpa using hcs
    simp only [if_true] at hmm
    subst hmm
    have key : ∀ i, i < len → ∃ y : Nat × List Ho, HS w (V i) y.1 y.2 ∧ ∀ s ∈ y.2, -9223372036854775808 ≤ s.p ∧ s.p ≤ 9223372036854775807 := fun i hi => by
      obtain ⟨c, l, h1, h2⟩ := hrow_in (hx i (by omega)).2
      exact ⟨(c, l), h1, h2⟩
    obtain ⟨F, hF⟩ : ∃ F : Nat → Nat × List Ho, ∀ i, i < len → HS w (V i) (F i).1 (F i).2 ∧ ∀ s ∈ (F i).2, -9223372036854775808 ≤ s.p ∧ s.p ≤ 9223372036854775807 :=
      ⟨fun i => if h : i < len then (key i h).choose else (0, []), fun i hi => by simp only [hi, dif_pos]; exact (key i hi).choose_spec⟩
    have hsw : ∀ i, i < len → ow ((List.range len).map fun i => (F i).2) i = (F i).2 := fun i hi => by unfold ow; simp [List.getD, hi]
    refine ⟨m, (List.range len).map fun i => (F i).2, ⟨some a, V, fun i => (F i).1, by simp, by simpa using hl, hm, ?_, fun i hi => ?_⟩, fun l hl => ?_⟩
    · by_cases h0 : len = 0
      · subst h0; exact .inl rfl
      · obtain ⟨b, o, hao⟩ : ∃ b o, a = ⟨b, o, none⟩ := by
          have := (hx 0 (by omega)).1
          rw [show a.add 0 = a from by simp [Addr.add]] at this
          exact spot_of this
        subst hao
        refine .inr ⟨b, o, rfl, fun i hi => ?_⟩
        have hi' : i < len := by simpa using hi
        have := (hx i (by omega)).1
        rwa [Addr.add_lit] at this
    · have hi' : i < len := by simpa using hi
      rw [hsw i hi']; exact (hF i hi').1
    · obtain ⟨i, hi, rfl⟩ := List.mem_map.1 hl
      exact (hF i (List.mem_range.1 hi)).2
end
/-- A lace as it comes in. -/
def LcIn (w : World) (v : Value) : Prop := ∃ (W : Int) (u : Value) (c : Nat) (rows : List (List Ho)), v = .agg #[.int .i64 W, u] ∧ HR w u c rows ∧ (-9223372036854775808 ≤ W ∧ W ≤ 9223372036854775807) ∧ ∀ l ∈ rows, ∀ s ∈ l, -9223372036854775808 ≤ s.p ∧ s.p ≤ 9223372036854775807
theorem open_lace {H : Type} {enc : TypeId × Value → H} {w : World} {b0 : Nat} {v : Value} {d : DataW H} {p : List MemPlace}
    (hv : Value.okWide Tryd.prog w .any b0 24 v) (h : DataW.Trod enc Tryd.prog w 0 (fun _ => true) true 24 v d p) : LcIn w v := by
  obtain ⟨v0, v1, y0, y1, n, rfl, _, _, g0, g1⟩ := Joins.open_agg2 Tryd.underlying24 (by kernel_rfl) (show Tryd.prog.cellsOf 24 = 2 by kernel_rfl) hv h
  obtain ⟨f, hf, _, wf⟩ := DataW.trod_int Tryd.underlying3 g0
  obtain rfl : v0 = .int .i64 f := by simpa using hf
  obtain ⟨c, st, h1, h2⟩ := hrows_in g1
  exact ⟨f, v1, c, st, rfl, h1, wf64 wf, h2⟩
/-- A lace of plain data as it comes in. -/
def AIn (w : World) (v : Value) : Prop := ∃ f u c chs, v = .agg #[.int .u8 f, u] ∧ ISS .u8 w u c chs ∧ (0 ≤ f ∧ f ≤ 255) ∧ ∀ k, k < chs.length → ∀ i, i < (ri chs k).length → 0 ≤ gi (ri chs k) i ∧ gi (ri chs k) i ≤ 255
theorem open_A {H : Type} {enc : TypeId × Value → H} {w : World} {b0 : Nat} {v : Value} {d : DataW H} {p : List MemPlace}
    (hv : Value.okWide Tryd.prog w .any b0 56 v) (h : DataW.Trod enc Tryd.prog w 0 (fun _ => true) true 56 v d p) : AIn w v := by
  obtain ⟨v0, v1, y0, y1, n, rfl, _, _, g0, g1⟩ := Joins.open_agg2 Tryd.underlying56 (by kernel_rfl) (show Tryd.prog.cellsOf 56 = 2 by kernel_rfl) hv h
  obtain ⟨f, hf, _, wf⟩ := DataW.trod_int Tryd.underlying5 g0
  obtain rfl : v0 = .int .u8 f := by simpa using hf
  obtain ⟨c, st, h1, h2⟩ := rows8_in Tryd.underlying54 Tryd.underlying76 Tryd.underlying5 (by kernel_rfl) (by kernel_rfl) g1
  exact ⟨f, v1, c, st, rfl, h1, wf8 wf, h2⟩
end Go.Proofs.YthllbcjglcplhaaDoor
/- Rows of plain data in plain Lean: what ganseylaw12.K.Of gives, which stitches ganseylaw13.row may take, and that its rows are valid. -/
namespace Go.Proofs.YthllbcjglcplhaaDoor
set_option linter.unusedVariables false
set_option linter.unusedSimpArgs false
set_option maxRecDepth 8000
open Go Go.RowKit

def kA : List Int := [1, 1, 2, 2, 1, 3]
def kB : List Int := [1, 2, 1, 2, 3, 1]
/-- K.Of. -/
def kSt (k y a : Int) (f : Bool) : St := if k % 8 = 7 then ⟨8, 1 + y % 6, gi kA (a % 6).toNat, gi kB (a % 6).toNat, f⟩ else ⟨1 + k % 8, 1 + y % 6, 0, 0, false⟩
theorem kAB {i : Nat} (h : i < 6) : 1 ≤ gi kA i ∧ gi kA i ≤ 3 ∧ 1 ≤ gi kB i ∧ gi kB i ≤ 3 ∧ gi kA i + gi kB i ≤ 4 := by
  rcases (show i = 0 ∨ i = 1 ∨ i = 2 ∨ i = 3 ∨ i = 4 ∨ i = 5 by omega) with rfl | rfl | rfl | rfl | rfl | rfl <;> decide
theorem kSt_chk (k y a : Int) (f : Bool) : (kSt k y a f).chk = 0 := by
  have hm := Int.emod_nonneg k (show (8 : Int) ≠ 0 by decide)
  have hm2 := Int.emod_lt_of_pos k (show (0 : Int) < 8 by decide)
  have hy := Int.emod_nonneg y (show (6 : Int) ≠ 0 by decide)
  have hy2 := Int.emod_lt_of_pos y (show (0 : Int) < 6 by decide)
  have ha := Int.emod_nonneg a (show (6 : Int) ≠ 0 by decide)
  have ha2 := Int.emod_lt_of_pos a (show (0 : Int) < 6 by decide)
  have hk := kAB (i := (a % 6).toNat) (by omega)
  unfold kSt
  by_cases h : k % 8 = 7
  · rw [if_pos h]
    unfold St.chk
    simp only []
    rw [if_neg (by omega), if_neg (by omega), if_neg (by omega)]
  · rw [if_neg h]
    unfold St.chk
    simp only []
    rw [if_neg (by omega), if_pos (by omega), if_neg (by simp)]

/-- A stitch that a row may take at slot i, where nx slots are made: the loops of the slots are xs. -/
def Take (xs : List Int) (i nx : Nat) (s : St) : Prop :=
  s.chk = 0 ∧ i + s.need.toNat ≤ xs.length ∧ s.lerr ((xs.drop i).take s.need.toNat) = 0 ∧ (s.need = 0 → nx + (xs.length - i) < 8)
/-- The stitches so far and the slots that they make. -/
structure Mid (xs : List Int) (i : Nat) (out : List St) (nx : List Int) : Prop where
  ok : ∀ s ∈ out, s.chk = 0
  need : rneed out = i
  lo : lo out (xs.take i) = some nx
  len : nx.length + (xs.length - i) ≤ 8
  le : i ≤ xs.length
  few : out.length ≤ nx.length
theorem Mid.start {xs : List Int} (h : xs.length ≤ 8) : Mid xs 0 [] [] := ⟨fun s hs => by simp at hs, rfl, by simp [_root_.Go.Proofs.YthllbcjglcplhaaDoor.lo], by simp; omega, by omega, Nat.le_refl _⟩
theorem make_pos {s : St} (h : s.chk = 0) : 1 ≤ s.make ∧ (s.need = 0 → s.make = 1) ∧ (s.need ≠ 0 → s.make ≤ s.need) := by
  obtain ⟨h1, _, h3⟩ := St.chk_ok h
  have hm : s.make = if s.k = 8 then s.a + s.b else 1 := by unfold St.make; rw [if_neg (by omega)]
  have hn : s.need = if s.k = 3 then 0 else if s.k = 4 ∨ s.k = 5 then 2 else if s.k = 8 then s.a + s.b else 1 := by unfold St.need; rw [if_neg (by omega)]
  by_cases e8 : s.k = 8
  · rw [if_pos e8] at hm
    rw [if_neg (by omega), if_neg (by omega), if_pos e8] at hn
    omega
  · rw [if_neg e8] at hm
    by_cases e3 : s.k = 3
    · rw [if_pos e3] at hn; omega
    · rw [if_neg e3] at hn
      by_cases e4 : s.k = 4 ∨ s.k = 5
      · rw [if_pos e4] at hn; omega
      · rw [if_neg e4, if_neg e8] at hn; omega
theorem Mid.step {xs : List Int} {i : Nat} {out : List St} {nx : List Int} {s : St} (h : Mid xs i out nx) (ht : Take xs i nx.length s) (hv : Vl xs) :
    Mid xs (i + s.need.toNat) (out ++ [s]) (nx ++ s.lmade ((xs.drop i).take s.need.toNat)) := by
  obtain ⟨t1, t2, t3, t4⟩ := ht
  have hn := St.need_bd s
  have hmk := make_pos t1
  have hl := lmade_len t3
  have hlt : ((xs.drop i).take s.need.toNat).length = s.need.toNat := by rw [List.length_take, List.length_drop]; omega
  refine ⟨fun x hx => ?_, ?_, ?_, ?_, t2, ?_⟩
  · rcases List.mem_append.1 hx with hx | hx
    · exact h.ok x hx
    · rw [List.mem_singleton.1 hx]; exact t1
  · rw [rneed_snoc, h.need]; omega
  · have ht : xs.take (i + s.need.toNat) = xs.take i ++ (xs.drop i).take s.need.toNat := List.take_add
    rw [ht, lo_app _ _ _ _ (by rw [List.length_take, h.need]; have := h.le; omega), h.lo]
    have hself : ((xs.drop i).take s.need.toNat).take s.need.toNat = (xs.drop i).take s.need.toNat := by rw [List.take_take, Nat.min_self]
    rw [Option.bind_some, _root_.Go.Proofs.YthllbcjglcplhaaDoor.lo, hself, if_neg (by simp [t3]), _root_.Go.Proofs.YthllbcjglcplhaaDoor.lo]
    simp
  · rw [List.length_append, hl]
    have := h.len
    have := h.le
    by_cases e : s.need = 0
    · have h4 := t4 e
      have := hmk.2.1 e
      omega
    · have := hmk.2.2 e
      omega
  · rw [List.length_append, List.length_append, hl, List.length_singleton]
    have := h.few
    omega
/-- How far the loop is from its end. -/
def far9 (n i nx : Nat) : Nat := 9 * (n - i) + (8 - (nx + (n - i)))
theorem Mid.far {xs : List Int} {i : Nat} {out : List St} {nx : List Int} {s : St} (h : Mid xs i out nx) (ht : Take xs i nx.length s) (hi : i < xs.length) :
    far9 xs.length (i + s.need.toNat) (nx ++ s.lmade ((xs.drop i).take s.need.toNat)).length < far9 xs.length i nx.length := by
  obtain ⟨t1, t2, t3, t4⟩ := ht
  have hn := St.need_bd s
  have hmk := make_pos t1
  have hl := lmade_len t3
  have := h.len
  unfold far9
  rw [List.length_append, hl]
  by_cases e : s.need = 0
  · have h4 := t4 e
    have := hmk.2.1 e
    omega
  · have := hmk.2.2 e
    omega
/-- What a row gives. -/
def RowOf (xs : List Int) (r : List St) (nx : List Int) : Prop := (∀ s ∈ r, s.chk = 0) ∧ rneed r = xs.length ∧ lo r xs = some nx ∧ nx.length ≤ 8 ∧ r.length ≤ nx.length ∧ Vl nx ∧ 1 ≤ r.length ∧ (nx.length : Int) = rmake r
theorem Mid.done {xs : List Int} {out : List St} {nx : List Int} (h : Mid xs xs.length out nx) (h0 : 1 ≤ xs.length) (hv : Vl xs) : RowOf xs out nx := by
  have hlo := h.lo
  rw [List.take_length] at hlo
  have h1 := lo_some out xs nx h.ok h.need.symm hv hlo
  refine ⟨h.ok, h.need, hlo, by have := h.len; omega, h.few, h1.1, ?_, h1.2⟩
  by_cases e : out = []
  · have := h.need; rw [e] at this; have : rneed [] = 0 := rfl; omega
  · exact List.length_pos_iff.2 e
theorem Vl.take' {xs : List Int} (h : Vl xs) (i n : Nat) : Vl ((xs.drop i).take n) := (h.drop i).take n
/-- Plain stitches may be taken. -/
theorem take_one {xs : List Int} {i nx : Nat} {k y : Int} (hi : i < xs.length) (hv : Vl xs) (hy : 1 ≤ y ∧ y ≤ 6) (hk : k = 1 ∨ k = 2 ∨ k = 7 ∨ k = 6 ∧ gi xs i < 3) : Take xs i nx ⟨k, y, 0, 0, false⟩ := by
  have hc : (⟨k, y, 0, 0, false⟩ : St).chk = 0 := by
    unfold St.chk; simp only []; rw [if_neg (by omega), if_pos (by omega), if_neg (by simp)]
  have hn : (⟨k, y, 0, 0, false⟩ : St).need = 1 := by
    unfold St.need; simp only []; rw [if_neg (by omega), if_neg (by omega), if_neg (by omega), if_neg (by omega)]
  have hlt : ((xs.drop i).take 1).length = 1 := by rw [List.length_take, List.length_drop]; omega
  refine ⟨hc, by rw [hn]; show i + 1 ≤ _; omega, ?_, fun h => by omega⟩
  rw [hn]
  show St.lerr _ ((xs.drop i).take 1) = 0
  rw [lerr_in hc (by rw [hlt, hn]; rfl) (Vl.gi (hv.take' i 1))]
  have hg : gi ((xs.drop i).take 1) 0 = gi xs i := by rw [gi_take (by omega), gi_drop]; rfl
  simp only []
  rw [hg, if_neg (by omega), if_neg (by omega)]
theorem take_over {xs : List Int} {i nx : Nat} {y : Int} (hi : i < xs.length) (hy : 1 ≤ y ∧ y ≤ 6) (hf : nx + (xs.length - i) < 8) : Take xs i nx ⟨3, y, 0, 0, false⟩ := by
  have hc : (⟨3, y, 0, 0, false⟩ : St).chk = 0 := by
    unfold St.chk; simp only []; rw [if_neg (by omega), if_pos (by omega), if_neg (by simp)]
  have hn : (⟨3, y, 0, 0, false⟩ : St).need = 0 := by unfold St.need; simp only []; rw [if_neg (by omega), if_pos trivial]
  refine ⟨hc, by rw [hn]; show i + 0 ≤ _; omega, ?_, fun _ => hf⟩
  rw [hn]
  show St.lerr _ [] = 0
  rw [lerr_in hc (by rw [hn]; rfl) (fun i hi => by simp at hi)]
  simp
theorem take_two {xs : List Int} {i nx : Nat} {k y : Int} (hk : k = 4 ∨ k = 5) (hi : i + 1 < xs.length) (hv : Vl xs) (hy : 1 ≤ y ∧ y ≤ 6) (hs : gi xs i + gi xs (i + 1) ≤ 4) : Take xs i nx ⟨k, y, 0, 0, false⟩ := by
  have hc : (⟨k, y, 0, 0, false⟩ : St).chk = 0 := by
    unfold St.chk; simp only []; rw [if_neg (by omega), if_pos (by omega), if_neg (by simp)]
  have hn : (⟨k, y, 0, 0, false⟩ : St).need = 2 := by
    unfold St.need; simp only []; rw [if_neg (by omega), if_neg (by omega), if_pos hk]
  have hlt : ((xs.drop i).take 2).length = 2 := by rw [List.length_take, List.length_drop]; omega
  refine ⟨hc, by rw [hn]; show i + 2 ≤ _; omega, ?_, fun h => by omega⟩
  rw [hn]
  show St.lerr _ ((xs.drop i).take 2) = 0
  rw [lerr_in hc (by rw [hlt, hn]; rfl) (Vl.gi (hv.take' i 2))]
  have hg : gi ((xs.drop i).take 2) 0 = gi xs i := by rw [gi_take (by omega), gi_drop]; rfl
  have hg1 : gi ((xs.drop i).take 2) 1 = gi xs (i + 1) := by rw [gi_take (by omega), gi_drop]
  simp only []
  rw [hg, hg1, if_pos hk, if_neg (by omega)]
theorem take_cable {xs : List Int} {i nx : Nat} {s : St} (hc : s.chk = 0) (h8 : s.k = 8) (hv : Vl xs) (hi : i ≤ xs.length) (hs : s.a + s.b ≤ ((xs.length - i : Nat) : Int)) : Take xs i nx s := by
  obtain ⟨_, _, h3⟩ := St.chk_ok hc
  have hn : s.need = s.a + s.b := by
    unfold St.need; rw [if_neg (by omega), if_neg (by omega), if_neg (by omega), if_pos h8]
  have hlt : ((xs.drop i).take s.need.toNat).length = s.need.toNat := by rw [List.length_take, List.length_drop]; omega
  refine ⟨hc, by rw [hn]; omega, ?_, fun h => by omega⟩
  rw [lerr_in hc (by rw [hlt]; omega) (Vl.gi (hv.take' i _)), if_neg (by omega), if_neg (by omega)]
end Go.Proofs.YthllbcjglcplhaaDoor
/- Charts of plain data in plain Lean: rows that follow one another make a valid chart. -/
namespace Go.Proofs.YthllbcjglcplhaaDoor
set_option linter.unusedVariables false
set_option linter.unusedSimpArgs false
set_option maxRecDepth 8000
open Go Go.RowKit

/-- Numbers of loops of slots. -/
def Ln (xs : List Int) : Prop := 1 ≤ xs.length ∧ xs.length ≤ 8 ∧ Vl xs
/-- Rows that follow one another: what the first one stands on, and what the last one makes. -/
inductive Chn : List Int → List (List St) → List Int → Prop
  | nil (xs : List Int) : Chn xs [] xs
  | cons {xs nx ys : List Int} {r : List St} {rs : List (List St)} : Ln xs → RowOf xs r nx → Chn nx rs ys → Chn xs (r :: rs) ys
theorem Chn.snoc {xs ys nx : List Int} {rows : List (List St)} {r : List St} (h : Chn xs rows ys) (hl : Ln ys) (hr : RowOf ys r nx) : Chn xs (rows ++ [r]) nx := by
  induction h with
  | nil xs => exact .cons hl hr (.nil _)
  | cons a b c ih => exact .cons a b (ih hl hr)
theorem RowOf.ln {xs nx : List Int} {r : List St} (h : RowOf xs r nx) : Ln nx := by
  obtain ⟨_, _, _, h4, h5, h6, h7, _⟩ := h
  exact ⟨by omega, h4, h6⟩
theorem Chn.lr {xs ys : List Int} {rows : List (List St)} (h : Chn xs rows ys) : lr rows xs = true := by
  induction h with
  | nil xs => rfl
  | cons a b c ih => rw [_root_.Go.Proofs.YthllbcjglcplhaaDoor.lr, b.2.2.1]; exact ih
theorem RowOf.rchk {xs nx : List Int} {r : List St} (hl : Ln xs) (h : RowOf xs r nx) : rchk r = 0 := by
  obtain ⟨h1, h2, h3, h4, h5, h6, h7, h8⟩ := h
  rw [rchk_sum (by omega) (by omega) (fun i hi => h1 _ (si_mem hi)), if_neg]
  have := hl.1; have := hl.2.1
  omega
theorem Chn.good {xs ys : List Int} {rows : List (List St)} (h : Chn xs rows ys) : (∀ i, i < rows.length → _root_.Go.Proofs.YthllbcjglcplhaaDoor.rchk (sw rows i) = 0) ∧ (∀ k, k + 1 < rows.length → rneed (sw rows (k + 1)) = rmake (sw rows k)) ∧ (0 < rows.length → rneed (sw rows 0) = xs.length) := by
  induction h with
  | nil xs => exact ⟨fun i hi => by simp at hi, fun i hi => by simp at hi, fun hi => by simp at hi⟩
  | @cons xs nx ys r rs a b c ih =>
    obtain ⟨i1, i2, i3⟩ := ih
    refine ⟨fun i hi => ?_, fun k hk => ?_, fun _ => b.2.1⟩
    · cases i with
      | zero => exact b.rchk a
      | succ i => exact i1 i (by simpa using hi)
    · cases k with
      | zero =>
        have h0 : 0 < rs.length := by simpa using hk
        show rneed (sw rs 0) = rmake r
        rw [i3 h0, b.2.2.2.2.2.2.2]
      | succ k => exact i2 k (by simpa using hk)
/-- Such a chart is valid. -/
theorem Chn.ok {n : Nat} {ys : List Int} {rows : List (List St)} (h : Chn (List.replicate n 1) rows ys) (h1 : rows.length ≤ 31) (h2 : rows.length % 2 = 1) : (cloads rows).1 = 0 := by
  obtain ⟨g1, g2, g3⟩ := h.good
  have hc : cerr rows = 0 := cerr_ok h1 h2 g1 g2
  have hf : first rows = List.replicate n 1 := by
    unfold first
    rw [g3 (by omega)]; simp
  rw [cloads_lr hc, hf, if_pos h.lr]
/-- How many rows a chart of plain data has. -/
def many (n : Nat) : Nat := if min n 9 % 2 = 0 then min n 9 + 1 else min n 9
theorem many_bd (n : Nat) : many n ≤ 9 ∧ many n % 2 = 1 := by unfold many; split <;> omega
end Go.Proofs.YthllbcjglcplhaaDoor
