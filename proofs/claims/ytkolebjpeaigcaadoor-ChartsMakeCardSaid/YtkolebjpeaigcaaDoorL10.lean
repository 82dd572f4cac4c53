/- Texts of this claim in one file: libraries and walks. -/
import Derived.Handed
import Derived.ChangeSlices
import Derived.Deep.Matrix
import Derived.OpenShut
import Derived.ChangeArms
import Derived.Lib.SmallJoins
import Derived.Test.YtkolebjpeaigcaaDoorRows
import Derived.Lib.LaidU8
import Derived.Shelf.Vars
import Derived.Test.YtkolebjpeaigcaaDoorL0
import Derived.Test.YtkolebjpeaigcaaDoorL1
import Derived.Test.YtkolebjpeaigcaaDoorL3
import Derived.Test.YtkolebjpeaigcaaDoorL6
import Derived.Test.YtkolebjpeaigcaaDoorL7
import Derived.Test.YtkolebjpeaigcaaDoorL8
/- What a row of numbers that came in reads as. -/
namespace Go.Proofs.YtkolebjpeaigcaaDoor
set_option linter.unusedVariables false
set_option linter.unusedSimpArgs false
open Go Go.RowKit

/-- A slice of integers that came in: nothing, or a row of cells. -/
def IsRow (k : IntKind) (w : World) (a : Option Addr) (len cap : Nat) (zs : List Int) : Prop :=
  (a = none ∧ len = 0 ∧ cap = 0 ∧ zs = []) ∨
  ∃ x, a = some x ∧ len ≤ cap ∧ cap ≤ maxLen ∧ zs.length = cap ∧ (∀ i, i < zs.length → w.cell? (x.add i) = some (.int k (zs.getD i 0))) ∧ ∀ n ∈ zs, (Lit.int k n).wf = true

theorem cell_spot {w : World} {x : Addr} {v : Value} (h : w.cell? x = some v) : x.spot = none := by
  unfold World.cell? at h
  split at h
  · split at h
    · cases h
    · cases hs : x.spot with
      | none => rfl
      | some s => rename_i hn; rw [hs] at hn; exact absurd rfl hn
  · cases h

theorem IsRow.is {k : IntKind} {w : World} {a : Option Addr} {len cap : Nat} {zs : List Int} (h : IsRow k w a len cap zs) : IS k w (.slice a len cap) cap (zs.take len) := by
  rcases h with ⟨rfl, rfl, rfl, rfl⟩ | ⟨x, rfl, h1, h2, h3, hc, _⟩
  · exact IS.nil k w
  · have hl : (zs.take len).length = len := by rw [List.length_take]; omega
    by_cases h0 : cap = 0
    · obtain rfl : len = 0 := by omega
      refine ⟨some x, by simp, by simp, h2, fun h => (by cases h), fun a ha => ⟨fun h => (by omega), fun j u hj => by simp at hj⟩⟩
    · have hs : x.spot = none := by
        have := hc 0 (by omega)
        rw [show x.add 0 = x from rfl] at this
        exact cell_spot this
      obtain ⟨b, o, s⟩ := x
      have hs' : s = none := hs
      subst hs'
      refine IS.mk hl.symm h1 h2 fun i hi => ?_
      have := hc i (by omega)
      rw [Addr.add_lit] at this
      rw [this, gi_take hi]; rfl

theorem IsRow.all {k : IntKind} {w : World} {a : Option Addr} {len cap : Nat} {zs : List Int} (h : IsRow k w a len cap zs) {n : Int} (hn : n ∈ zs.take len) : (Lit.int k n).wf = true := by
  rcases h with ⟨rfl, rfl, rfl, rfl⟩ | ⟨x, rfl, h1, h2, h3, hc, hw⟩
  · simp at hn
  · exact hw n (List.mem_of_mem_take hn)
theorem wf8 {n : Int} (h : (Lit.int .u8 n).wf = true) : 0 ≤ n ∧ n ≤ 255 := by
  unfold Lit.wf at h
  simp only [Bool.and_eq_true, decide_eq_true_eq] at h
  exact h
theorem wf64 {n : Int} (h : (Lit.int .i64 n).wf = true) : -9223372036854775808 ≤ n ∧ n ≤ 9223372036854775807 := by
  unfold Lit.wf at h
  simp only [Bool.and_eq_true, decide_eq_true_eq] at h
  exact h
theorem IsRow.bd {w : World} {a : Option Addr} {len cap : Nat} {zs : List Int} (h : IsRow .u8 w a len cap zs) : ∀ i, i < (zs.take len).length → 0 ≤ gi (zs.take len) i ∧ gi (zs.take len) i ≤ 255 :=
  fun _ hi => wf8 (h.all (gi_mem hi))
theorem IsRow.bd64 {w : World} {a : Option Addr} {len cap : Nat} {zs : List Int} (h : IsRow .i64 w a len cap zs) : ∀ i, i < (zs.take len).length → -9223372036854775808 ≤ gi (zs.take len) i ∧ gi (zs.take len) i ≤ 9223372036854775807 :=
  fun _ hi => wf64 (h.all (gi_mem hi))

/-! ### What the sizes of the arguments give -/
theorem weights_at {H : Type} {P : Program} : ∀ {ts : List TypeId} {ds : List (DataW H)}, (DataW.weightsEach P ts ds).all (· ≤ reachBytes) = true → ∀ {i : Nat} {t : TypeId} {d : DataW H}, ts[i]? = some t → ds[i]? = some d → (DataW.weights P t d).all (· ≤ reachBytes) = true
  | [], _, _, i, t, d, ht, _ => by simp at ht
  | _ :: _, [], _, i, t, d, _, hd => by simp at hd
  | t0 :: ts, d0 :: ds, h, i, t, d, ht, hd => by
    rw [DataW.weightsEach, List.all_append, Bool.and_eq_true] at h
    cases i with
    | zero =>
      obtain rfl : t0 = t := by simpa using ht
      obtain rfl : d0 = d := by simpa using hd
      exact h.1
    | succ i => exact weights_at h.2 (i := i) (by simpa using ht) (by simpa using hd)
theorem weight_slice {H : Type} {P : Program} {t e : TypeId} (ht : P.underlying t = some (.slice e)) {l r : List (DataW H)} (h : (DataW.weights P t (.slice l r)).all (· ≤ reachBytes) = true) : (l.length + r.length) * P.bytesOf e ≤ 140737488351232 := by
  rw [DataW.weights, ht] at h
  simp only [List.all_cons, Bool.and_eq_true, decide_eq_true_eq] at h
  exact h.1
theorem weight_row {H : Type} {P : Program} {t e : TypeId} (ht : P.underlying t = some (.slice e)) {k : IntKind} {zs : List Int} {n : Nat} {d : DataW H} (hd : d = .slice (Go.ChangeShapes.lits k (zs.take n)) (Go.ChangeShapes.lits k (zs.drop n))) (h : (DataW.weights P t d).all (· ≤ reachBytes) = true) : zs.length * P.bytesOf e ≤ 140737488351232 := by
  subst hd
  have := weight_slice ht h
  have e : (Go.ChangeShapes.lits (H := H) k (zs.take n)).length + (Go.ChangeShapes.lits (H := H) k (zs.drop n)).length = zs.length := by
    simp [Go.ChangeShapes.lits]; omega
  rwa [e] at this

variable {H : Type} {enc : TypeId × Value → H}
theorem returnsInHanded_sized {a : Assume} {C : Checked} {os : Os} {f : FuncId} {fn : Func} {s : ChangeSpec} {conds : List PathCond} {apart fresh handsOn again : Bool}
    (own : ownKnob C.prog.godebug = none) (started : os.Started) (noInit : C.prog.inits.idxOf? f = none) (hfn : C.prog.funcs[f]? = some fn)
    (witness : ∃ (w : World) (tape : Tape) (i : Input), w.os = os ∧ (w.forCall tape i).Shaped C.prog ∧ i.vars = [] ∧ Input.okWide C.prog (w.forCall tape i) .any w.heap.size f i ∧
      s.pre6 enc C.prog fn conds apart (w.forCall tape i).memory i.args ∧ a.holds C.prog (lone (Frame.enter C.prog f i.args .normal) [] (w.forCall tape i)))
    (contract : ∀ (W : World) (base : Nat) (args : Array Value) (ds gs : List (DataW H)) (before : List MemPlace),
      (∀ (j : Nat) t v, fn.params[j]? = some t → args[j]? = some v → Value.okWide C.prog W .any base t v) →
      DataW.Whole enc C.prog fn.params.toList s.vars apart W args.toList ds gs before →
      conds.all (PathCond.test C.prog ⟨fn.params.toList, ds, s.plain.varTypes C.prog, gs⟩) = true →
      (DataW.weightsEach C.prog (fn.params.toList ++ s.plain.varTypes C.prog) (ds ++ gs)).all (· ≤ reachBytes) = true →
      a.holds C.prog (lone (Frame.enter C.prog f args .normal) [] W) →
      Calls C.prog f args W fun e W' => ∃ v, e = .returned v ∧ s.post enc C.prog fn apart fresh handsOn again W args v W') :
    ReturnsInHanded a C os f .any (s.pre6 enc C.prog fn conds apart) (s.post enc C.prog fn apart fresh handsOn again) := by
  refine returnsInHanded_of_calls own started noInit witness ?_
  intro w tape i _ _ _ hok hpre hholds
  obtain ⟨_, _, _, fn', hfn', _, _, _, _, hval⟩ := hok
  have e : fn' = fn := Option.some.inj (hfn'.symm.trans hfn)
  subst e
  obtain ⟨⟨ds, gs, before, hw, hc⟩, hz⟩ := hpre
  have hw' := DataW.Whole.of_heap (w' := w.forCall tape i) (by rfl) hw
  refine (contract (w.forCall tape i) w.heap.size i.args ds gs before hval hw' hc (hz.weights hw) hholds).mono fun e W' ⟨v, he, hp⟩ => ?_
  subst he
  exact ChangeSpec.post_blind hp
/-- .. where the walk wants the shape of the world, too. -/
theorem returnsInHanded_and_open {a : Assume} {C : Checked} {os : Os} {f : FuncId} {fn : Func} {s : ChangeSpec} {conds : List PathCond} {apart fresh handsOn again : Bool} {X : World → Array Value → Prop}
    (hX : ∀ (w w' : World) (args : Array Value), w.heap = w'.heap → X w args → X w' args)
    (own : ownKnob C.prog.godebug = none) (started : os.Started) (noInit : C.prog.inits.idxOf? f = none) (hfn : C.prog.funcs[f]? = some fn)
    (witness : ∃ (w : World) (tape : Tape) (i : Input), w.os = os ∧ (w.forCall tape i).Shaped C.prog ∧ i.vars = [] ∧ Input.okWide C.prog (w.forCall tape i) .any w.heap.size f i ∧
      ((s.pre enc C.prog fn conds apart (w.forCall tape i).memory i.args ∧ X (w.forCall tape i).memory i.args) ∧ sizedMet enc C.prog fn (OpenSpec.ofChange s) apart (w.forCall tape i).memory i.args) ∧ a.holds C.prog (lone (Frame.enter C.prog f i.args .normal) [] (w.forCall tape i)))
    (contract : ∀ (W : World) (base : Nat) (args : Array Value) (ds gs : List (DataW H)) (before : List MemPlace), W.ShapedOpen C.prog →
      (∀ (j : Nat) t v, fn.params[j]? = some t → args[j]? = some v → Value.okWide C.prog W .any base t v) →
      DataW.Whole enc C.prog fn.params.toList s.vars apart W args.toList ds gs before →
      conds.all (PathCond.test C.prog ⟨fn.params.toList, ds, s.plain.varTypes C.prog, gs⟩) = true →
      (DataW.weightsEach C.prog (fn.params.toList ++ s.plain.varTypes C.prog) (ds ++ gs)).all (· ≤ reachBytes) = true → X W args →
      a.holds C.prog (lone (Frame.enter C.prog f args .normal) [] W) →
      Calls C.prog f args W fun e W' => ∃ v, e = .returned v ∧ s.post enc C.prog fn apart fresh handsOn again W args v W') :
    ReturnsInHanded a C os f .any (fun w args => (s.pre enc C.prog fn conds apart w args ∧ X w args) ∧ sizedMet enc C.prog fn (OpenSpec.ofChange s) apart w args) (s.post enc C.prog fn apart fresh handsOn again) := by
  refine returnsInHanded_of_calls own started noInit witness ?_
  intro w tape i _ hso _ hok hpre hholds
  obtain ⟨_, _, _, fn', hfn', _, _, _, _, hval⟩ := hok
  have e : fn' = fn := Option.some.inj (hfn'.symm.trans hfn)
  subst e
  obtain ⟨⟨⟨ds, gs, before, hw, hc⟩, hx⟩, hz⟩ := hpre
  have hw' := DataW.Whole.of_heap (w' := w.forCall tape i) (by rfl) hw
  refine (contract (w.forCall tape i) w.heap.size i.args ds gs before hso hval hw' hc (hz.weights hw) (hX _ _ _ (by rfl) hx) hholds).mono fun e W' ⟨v, he, hp⟩ => ?_
  subst he
  exact ChangeSpec.post_blind hp
end Go.Proofs.YtkolebjpeaigcaaDoor
/- What rows of stitches, charts and lists of lists that came in read as. -/
namespace Go.Proofs.YtkolebjpeaigcaaDoor
set_option linter.unusedVariables false
set_option linter.unusedSimpArgs false
set_option maxRecDepth 8000
open Go Go.RowKit Go.ChangeShapes Go.WideShapes Go.ChangeAt

theorem spot_of {w : World} {a : Addr} {v : Value} (h : w.cell? a = some v) : ∃ b o, a = ⟨b, o, none⟩ := by
  obtain ⟨b, o, s⟩ := a
  have hs : s = none := cell_spot h
  subst hs
  exact ⟨b, o, rfl⟩
section
variable {H : Type} {enc : TypeId × Value → H} {w : World} {base : Nat} {held : Bool}
/-- Five cells that read as a stitch. -/
theorem st_in {sp : Nat → Bool} {fuel : Nat} {cs : List Value} {x : DataW H × List MemPlace} (h : DataW.trod enc Tryd.prog w base sp held fuel 33 cs = some x) : ∃ s : St, s.In ∧ cs = s.cs := by
  obtain ⟨xs, n, _, _, hl, hlen, hf⟩ := DataW.trod_struct Tryd.underlying33 h
  rw [show Tryd.prog.cellsOf 33 = 5 by kernel_rfl] at hl
  match cs, hl with
  | [c0, c1, c2, c3, c4], _ =>
    match xs, hlen with
    | [y0, y1, y2, y3, y4], _ =>
      have c8 : Tryd.prog.cellsOf 31 = 1 := by kernel_rfl
      have cu : Tryd.prog.cellsOf 5 = 1 := by kernel_rfl
      have ci : Tryd.prog.cellsOf 3 = 1 := by kernel_rfl
      have cb : Tryd.prog.cellsOf 4 = 1 := by kernel_rfl
      have h0 : DataW.trod enc Tryd.prog w base sp held n 31 (([c0, c1, c2, c3, c4].drop 0).take (Tryd.prog.cellsOf 31)) = some y0 := hf 0 _ rfl
      rw [c8] at h0
      have h1 : DataW.trod enc Tryd.prog w base sp held n 5 (([c0, c1, c2, c3, c4].drop 1).take (Tryd.prog.cellsOf 5)) = some y1 := hf 1 _ rfl
      rw [cu] at h1
      have h2 : DataW.trod enc Tryd.prog w base sp held n 3 (([c0, c1, c2, c3, c4].drop 2).take (Tryd.prog.cellsOf 3)) = some y2 := hf 2 _ rfl
      rw [ci] at h2
      have h3 : DataW.trod enc Tryd.prog w base sp held n 3 (([c0, c1, c2, c3, c4].drop 3).take (Tryd.prog.cellsOf 3)) = some y3 := hf 3 _ rfl
      rw [ci] at h3
      have h4 : DataW.trod enc Tryd.prog w base sp held n 4 (([c0, c1, c2, c3, c4].drop 4).take (Tryd.prog.cellsOf 4)) = some y4 := hf 4 _ rfl
      rw [cb] at h4
      obtain ⟨k, hk, _, wk⟩ := DataW.trod_int Tryd.underlying31 h0
      obtain ⟨y, hy, _, wy⟩ := DataW.trod_int Tryd.underlying5 h1
      obtain ⟨a, ha, _, wa⟩ := DataW.trod_int Tryd.underlying3 h2
      obtain ⟨b, hb, _, wb⟩ := DataW.trod_int Tryd.underlying3 h3
      obtain ⟨f, hff, _⟩ := DataW.trod_bool Tryd.underlying4 h4
      simp at hk hy ha hb hff
      refine ⟨⟨k, y, a, b, f⟩, ⟨wf8 wk, wf8 wy, wf64 wa, wf64 wb⟩, ?_⟩
      simp [St.cs, hk, hy, ha, hb, hff]
theorem row_in {fuel : Nat} {v : Value} {x : DataW H × List MemPlace} (h : DataW.trod enc Tryd.prog w base (fun _ => true) held fuel 37 [v] = some x) : ∃ c l, RS w v c l ∧ ∀ s ∈ l, St.In s := by
  rcases Deep.open_slice Tryd.underlying37 h with ⟨hcs, _⟩ | ⟨a, len, cap, m, n, D, Pl, hcs, hb, hl, hm, hmm, _, hx⟩
  · obtain rfl : v = .slice none 0 0 := by simpa using hcs
    exact ⟨0, [], RS.nil w, fun s hs => by cases hs⟩
  · obtain rfl : v = .slice (some a) len cap := by simpa using hcs
    simp only [if_true] at hmm
    subst hmm
    rw [show Tryd.prog.cellsOf 33 = 5 by kernel_rfl] at hx
    have key : ∀ i, i < len → ∃ s : St, s.In ∧ ∀ j, j < 5 → w.cell? ((a.add (i * 5)).add j) = s.cs[j]? := fun i hi => by
      obtain ⟨cs', h1, h2⟩ := hx i (by omega)
      obtain ⟨_, _, h4⟩ := World.cells?_some h1
      obtain ⟨s, h5, rfl⟩ := st_in h2
      exact ⟨s, h5, h4⟩
    obtain ⟨F, hF⟩ : ∃ F : Nat → St, ∀ i, i < len → (F i).In ∧ ∀ j, j < 5 → w.cell? ((a.add (i * 5)).add j) = (F i).cs[j]? :=
      ⟨fun i => if h : i < len then (key i h).choose else St.none, fun i hi => by simp only [hi, dif_pos]; exact (key i hi).choose_spec⟩
    have hsi : ∀ i, i < len → si ((List.range len).map F) i = F i := fun i hi => by unfold si; simp [List.getD, hi]
    refine ⟨m, (List.range len).map F, ⟨some a, by simp, by simpa using hl, hm, ?_⟩, fun s hs => ?_⟩
    · by_cases h0 : len = 0
      · subst h0; exact .inl rfl
      · obtain ⟨b, o, hao⟩ : ∃ b o, a = ⟨b, o, none⟩ := by
          have := (hF 0 (by omega)).2 0 (by omega)
          rw [Nat.zero_mul, show a.add 0 = a from by simp [Addr.add], show a.add 0 = a from by simp [Addr.add]] at this
          exact spot_of this
        subst hao
        refine .inr ⟨b, o, rfl, fun i hi => ?_⟩
        have hi' : i < len := by simpa using hi
        have hk := (hF i hi').2
        rw [hsi i hi']
        have k0 := hk 0 (by omega); have k1 := hk 1 (by omega); have k2 := hk 2 (by omega); have k3 := hk 3 (by omega); have k4 := hk 4 (by omega)
        rw [Addr.add_lit, Addr.add_lit] at k0 k1 k2 k3 k4
        exact ⟨k0, k1, k2, k3, k4⟩
    · obtain ⟨i, hi, rfl⟩ := List.mem_map.1 hs
      exact (hF i (List.mem_range.1 hi)).1
theorem rows_in {fuel : Nat} {v : Value} {x : DataW H × List MemPlace} (h : DataW.trod enc Tryd.prog w base (fun _ => true) held fuel 25 [v] = some x) : ∃ c rows, RR w v c rows ∧ ∀ l ∈ rows, ∀ s ∈ l, St.In s := by
  rcases Deep.open_slice1 Tryd.underlying25 (by kernel_rfl) h with ⟨hcs, _⟩ | ⟨a, len, cap, m, n, V, D, Pl, hcs, hb, hl, hm, hmm, _, hx⟩
  · obtain rfl : v = .slice none 0 0 := by simpa using hcs
    exact ⟨0, [], RR.nil w, fun s hs => by cases hs⟩
  · obtain rfl : v = .slice (some a) len cap := by simpa using hcs
    simp only [if_true] at hmm
    subst hmm
    have key : ∀ i, i < len → ∃ y : Nat × List St, RS w (V i) y.1 y.2 ∧ ∀ s ∈ y.2, St.In s := fun i hi => by
      obtain ⟨c, l, h1, h2⟩ := row_in (hx i (by omega)).2
      exact ⟨(c, l), h1, h2⟩
    obtain ⟨F, hF⟩ : ∃ F : Nat → Nat × List St, ∀ i, i < len → RS w (V i) (F i).1 (F i).2 ∧ ∀ s ∈ (F i).2, St.In s :=
      ⟨fun i => if h : i < len then (key i h).choose else (0, []), fun i hi => by simp only [hi, dif_pos]; exact (key i hi).choose_spec⟩
    have hsw : ∀ i, i < len → sw ((List.range len).map fun i => (F i).2) i = (F i).2 := fun i hi => by unfold sw; simp [List.getD, hi]
    refine ⟨m, (List.range len).map fun i => (F i).2, ⟨some a, V, fun i => (F i).1, by simp, by simpa using hl, hm, ?_, fun i hi => ?_⟩, fun l hl => ?_⟩
    · by_cases h0 : len = 0
      · subst h0; exact .inl rfl
      · obtain ⟨b, o, hao⟩ : ∃ b o, a = ⟨b, o, none⟩ := by
          have := (hx 0 (by omega)).1
          rw [show a.add 0 = a from by simp [Addr.add]] at this
          exact spot_of this
        subst hao
        refine .inr ⟨b, o, rfl, fun i hi => ?_⟩
        have hi' : i < len := by simpa using hi
        have := (hx i (by omega)).1
        rwa [Addr.add_lit] at this
    · have hi' : i < len := by simpa using hi
      rw [hsw i hi']; exact (hF i hi').1
    · obtain ⟨i, hi, rfl⟩ := List.mem_map.1 hl
      exact (hF i (List.mem_range.1 hi)).2
theorem iss_in {P : Program} {t e q : TypeId} {fuel : Nat} {v : Value} {x : DataW H × List MemPlace} (ht : P.underlying t = some (.slice e)) (he : P.underlying e = some (.slice q)) (hq : P.underlying q = some (.int .i64)) (ce : P.cellsOf e = 1) (cq : P.cellsOf q = 1)
    (h : DataW.trod enc P w base (fun _ => true) held fuel t [v] = some x) : ∃ c rows, ISS .i64 w v c rows := by
  rcases Deep.open_int_rows ht he hq ce cq h with ⟨hcs, _⟩ | ⟨a, len, cap, A, L, C, Z, hcs, _, hl, hm, _, hx⟩
  · obtain rfl : v = .slice none 0 0 := by simpa using hcs
    exact ⟨0, [], ISS.nil _ _⟩
  · obtain rfl : v = .slice (some a) len cap := by simpa using hcs
    have hri : ∀ i, i < len → ri ((List.range len).map fun r => (Z r).take (L r)) i = (Z i).take (L i) := fun i hi => ri_range_map _ hi
    by_cases h0 : cap = 0
    · have : len = 0 := by omega
      subst this; subst h0
      exact ⟨0, [], fun _ => undef, fun _ => 0, ⟨some a, rfl, Nat.le_refl _, by unfold maxLen; omega, fun h => (by cases h), fun b hb => ⟨fun h => absurd h (by omega), fun j u hj => by simp at hj⟩⟩, fun i hi => by simp at hi⟩
    · obtain ⟨b, o, hao⟩ : ∃ b o, a = ⟨b, o, none⟩ := by
        have := (hx 0 (by omega)).1
        rw [show a.add 0 = a from by simp [Addr.add]] at this
        exact spot_of this
      subst hao
      refine ⟨cap, (List.range len).map (fun r => (Z r).take (L r)), fun r => .slice (A r) (L r) (C r), C, ISV.mk' (by simp) hl hm (fun i hi => ?_) fun i hi => ?_⟩
      · have := (hx i (by omega)).1
        rwa [Addr.add_lit] at this
      · rw [hri i hi]
        obtain ⟨_, g1, g2, g3, g4, g5, g6⟩ := hx i (by omega)
        refine ⟨A i, by simp; omega, by simp; omega, g2, g5, fun a' ha' => ?_⟩
        obtain ⟨_, hcell⟩ := g6 a' ha'
        by_cases hc0 : C i = 0
        · exact ⟨fun h => absurd h (by omega), fun j u hj => by
            have : ((Z i).take (L i)).length = 0 := by simp; omega
            rw [List.eq_nil_of_length_eq_zero this] at hj; simp at hj⟩
        · obtain ⟨b', o', hao'⟩ : ∃ b o, a' = ⟨b, o, none⟩ := by
            have := hcell 0 (by omega)
            rw [show a'.add 0 = a' from by simp [Addr.add]] at this
            exact spot_of this
          subst hao'
          refine ⟨fun _ => rfl, fun j u hj => ?_⟩
          rw [List.getElem?_map, List.getElem?_take] at hj
          split at hj
          · have hjl : j < (Z i).length := by omega
            rw [List.getElem?_eq_getElem hjl] at hj
            have := hcell j (by omega)
            rw [Addr.add_lit] at this
            rw [this, ← Option.some.inj hj]
            simp [List.getD, hjl]
          · cases hj
end
/-- A chart, as it comes in. -/
def ChIn (w : World) (v : Value) : Prop := ∃ u c rows, v = .agg #[u] ∧ RR w u c rows ∧ ∀ l ∈ rows, ∀ s ∈ l, St.In s
theorem open_chart {H : Type} {enc : TypeId × Value → H} {w : World} {b0 : Nat} {v : Value} {d : DataW H} {p : List MemPlace}
    (hv : Value.okWide Tryd.prog w .any b0 27 v) (h : DataW.Trod enc Tryd.prog w 0 (fun _ => true) true 27 v d p) : ChIn w v := by
  obtain ⟨cs, rfl, hsz⟩ := okWide_struct Tryd.underlying27 hv
  obtain ⟨l⟩ := cs
  match l, hsz.trans (show Tryd.prog.cellsOf 27 = 1 by kernel_rfl) with
  | [u], _ =>
    obtain ⟨fuel, hf⟩ := h
    obtain ⟨y0, n, _, _, h0⟩ := trod_struct1 Tryd.underlying27 hf
    obtain ⟨c, rows, h1, h2⟩ := rows_in (by simpa [Value.cells, show Tryd.prog.cellsOf 25 = 1 by kernel_rfl] using h0)
    exact ⟨u, c, rows, rfl, h1, h2⟩
/-- Lists of numbers, as they come in. -/
def IssIn (w : World) (v : Value) : Prop := ∃ c rows, ISS .i64 w v c rows
theorem open_iss {H : Type} {enc : TypeId × Value → H} {w : World} {b0 : Nat} {v : Value} {d : DataW H} {p : List MemPlace}
    (hv : Value.okWide Tryd.prog w .any b0 38 v) (h : DataW.Trod enc Tryd.prog w 0 (fun _ => true) true 38 v d p) : IssIn w v := by
  obtain ⟨a, n, c, rfl⟩ := okWide_slice Tryd.underlying38 hv
  obtain ⟨fuel, hf⟩ := h
  exact iss_in Tryd.underlying38 Tryd.underlying56 Tryd.underlying3 (by kernel_rfl) (by kernel_rfl) (by simpa [Value.cells] using hf)
/-- A row of stitches, as it comes in. -/
def RowIn (w : World) (v : Value) : Prop := ∃ c l, RS w v c l ∧ ∀ s ∈ l, St.In s
theorem open_row {H : Type} {enc : TypeId × Value → H} {w : World} {b0 : Nat} {v : Value} {d : DataW H} {p : List MemPlace}
    (hv : Value.okWide Tryd.prog w .any b0 37 v) (h : DataW.Trod enc Tryd.prog w 0 (fun _ => true) true 37 v d p) : RowIn w v := by
  obtain ⟨a, n, c, rfl⟩ := okWide_slice Tryd.underlying37 hv
  obtain ⟨fuel, hf⟩ := h
  exact row_in (by simpa [Value.cells] using hf)
end Go.Proofs.YtkolebjpeaigcaaDoor
/- What the listed variable gives: the table of the symbols. -/
namespace Go.Proofs.YtkolebjpeaigcaaDoor
set_option linter.unusedVariables false
set_option linter.unusedSimpArgs false
set_option maxRecDepth 8000
open Go Go.RowKit

theorem sy_of {w : World} {l : List (String × DataW Unit)} (h : laidMet Tryd.prog l w) (hm : ("gansey/stitches.symbols", Rows.laid_gansey_stitches_symbols) ∈ l) : Sy w := by
  obtain ⟨g, t, cs, fuel, p, hg, ht, hv, hd⟩ := Lib.laidMet.reads h hm
  have hgn : g = 0 := by
    have hk : Tryd.prog.globalNamed "gansey/stitches.symbols" = some (0) := by kernel_rfl
    exact Option.some.inj (hg.symm.trans hk)
  obtain ⟨n, e, h1, h2, h3, h4⟩ : ∃ n e, Tryd.prog.underlying t = some (.array n e) ∧ Tryd.prog.underlying e = some (.int .u8) ∧ Tryd.prog.cellsOf e = 1 ∧ Tryd.prog.cellsOf t = n := by
    have hh : ((Tryd.prog.globalNamed "gansey/stitches.symbols").bind fun g => (Tryd.prog.globals[g]?).map (·.type)) = some t := by rw [hg]; exact ht
    have hk : ((Tryd.prog.globalNamed "gansey/stitches.symbols").bind fun g => (Tryd.prog.globals[g]?).map (·.type)) = some (100) := by kernel_rfl
    obtain rfl := Option.some.inj (hk.symm.trans hh)
    exact ⟨8, 5, by kernel_rfl, by kernel_rfl, by kernel_rfl, by kernel_rfl⟩
  have hd' : DataW.trod (fun _ => ()) Tryd.prog w 0 (fun _ => true) false fuel t cs.toList = some (Lib.tabData .u8 symT, p) := by
    rw [hd]; exact congrArg (fun x => some (x, p)) (by kernel_rfl)
  have hcs := Lib.cells_of_tab h1 h2 h3 h4 hd'
  unfold World.var? at hv
  rw [hg, hgn] at hv
  simp only [Option.bind_some] at hv
  intro i hi
  split at hv
  · rename_i cs' _ _ hb
    obtain rfl := Option.some.inj hv
    have hc : ∀ j, cs'[j]? = cs'.toList[j]? := fun j => by rw [Array.getElem?_toList]
    simp only [World.cell?, hb]
    rw [hc, hcs]
    rw [List.getElem?_map, gi_some (show i < symT.length from hi)]
    rfl
  · cases hv
end Go.Proofs.YtkolebjpeaigcaaDoor
/- What the shape of the world gives: the cell of internal/bytealg.MaxLen. -/
namespace Go.Proofs.YtkolebjpeaigcaaDoor
set_option linter.unusedVariables false
set_option linter.unusedSimpArgs false
open Go Go.RowKit
theorem mx_of {w : World} (h : w.ShapedOpen Tryd.prog) : Mx w :=
  Go.Proofs.cell_of_shapedOpen_int (zero := #[.int .i64 0]) (t := 3) h (of_decide_eq_true (by kernel_rfl)) (by kernel_rfl) rfl (by kernel_rfl) (by kernel_rfl) Tryd.underlying3
end Go.Proofs.YtkolebjpeaigcaaDoor
/- charts.First; the law ChartsRow, walked. -/
namespace Go.Proofs.YtkolebjpeaigcaaDoor
set_option linter.unusedVariables false
set_option linter.unusedSimpArgs false
set_option maxRecDepth 8000
open Go Go.RowKit

/-- The lowest yarn of the first k stitches. -/
def lw (l : List St) : Nat → Int
  | 0 => 0
  | k + 1 => if k = 0 ∨ (si l k).y < lw l k then (si l k).y else lw l k
def fm (l : List St) : Nat → Int
  | 0 => (si l 0).y
  | k + 1 => if (si l k).y < fm l k then (si l k).y else fm l k
theorem fm_lw (l : List St) : ∀ k, fm l (k + 1) = lw l (k + 1)
  | 0 => by simp [fm, lw]
  | k + 1 => by
    rw [fm, lw, fm_lw l k]
    have : ¬ k + 1 = 0 := by omega
    simp [this]
def fst (l : List St) : Int := lw l l.length
theorem fm_bd {l : List St} (h0 : 0 < l.length) (h : ∀ i, i < l.length → 0 ≤ (si l i).y ∧ (si l i).y ≤ 255) : ∀ k, k ≤ l.length → 0 ≤ fm l k ∧ fm l k ≤ 255
  | 0, _ => h 0 h0
  | k + 1, hk => by
    have h1 := fm_bd h0 h k (by omega)
    have h2 := h k (by omega)
    unfold fm
    split <;> omega

set_option maxHeartbeats 2000000 in
theorem First_calls (v : Value) (c : Nat) (l : List St) (w : World) (h : RS w v c l) : Calls Tryd.prog 25 #[v] w fun e w' => e = .returned (.int .u8 (fst l)) ∧ Ext w w' := by
  obtain ⟨ao, n, rfl, hn, hc, hcm, hat⟩ := h.open
  unfold maxLen at hcm
  by_cases h0 : n = 0
  · have hf : fst l = 0 := by unfold fst; rw [← hn, h0]; rfl
    rw [hf]
    have h0' : ((n : Int) == 0) = true := by rw [h0]; rfl
    clear hat h hn hf
    go_enter Tryd.func25, Tryd.ntmps25
    go_wp2
    go_ret
    exact ⟨rfl, Ext.refl w⟩
  have h0' : ((n : Int) == 0) = false := beq_eq_false_iff_ne.2 (by omega)
  have hfe : fst l = fm l n := by
    unfold fst; rw [← hn]
    obtain ⟨m, rfl⟩ : ∃ m, n = m + 1 := ⟨n - 1, by omega⟩
    exact (fm_lw l m).symm
  rw [hfe]
  have t0 : (0 : Int) < (n : Int) := by omega
  obtain ⟨b, o, rfl, h5⟩ := hat 0 (by omega)
  have c1 := h5.2.1
  rw [Nat.zero_mul, Nat.add_zero] at c1
  have hst : ∀ k, fm l (k + 1) = if (si l k).y < fm l k then (si l k).y else fm l k := fun k => rfl
  have hz : (si l 0).y = fm l 0 := rfl
  rw [hz] at c1
  have HA := Lib.hid hat; have HS := Lib.hid hst
  clear hat h hn h5 hst hfe hz h0
  go_enter Tryd.func25, Tryd.ntmps25
  go_wp2
  go_loopw [3, 5, 15] (fun y _ i wr => ∃ k : Nat, k ≤ n ∧ i = .int .i64 k ∧ y = .int .u8 (fm l k) ∧ Hid (Ext w wr)) (fun _ _ i _ => n - (intOf i).toNat)
  case atStart => exact ⟨0, Nat.zero_le _, rfl, rfl, Lib.hid (Ext.refl w)⟩
  case round =>
    obtain ⟨k, hk, rfl, rfl, HX⟩ := hrel
    by_cases hlt : k < n
    · have hlt' : (k : Int) < (n : Int) := by omega
      obtain ⟨b', o', hbo, h5⟩ := HA.out k hlt
      obtain ⟨rfl, rfl⟩ : b = b' ∧ o = o' := by simpa using hbo
      obtain ⟨u0, u1, u2, u3, u4⟩ := h5.ext HX.out
      have hs := HS.out k
      obtain ⟨S, hS⟩ : ∃ S, S = si l k := ⟨_, rfl⟩
      rw [← hS] at u0 u1 u2 u3 u4 hs
      obtain ⟨Y, hY⟩ : ∃ Y, Y = fm l k := ⟨_, rfl⟩
      rw [← hY] at hs ⊢
      obtain ⟨sk, sy, sa, sb', sf⟩ := S
      simp only [] at u0 u1 u2 u3 u4 hs
      have HSs := Lib.hid hs
      have XX := Lib.hid (HX.out.alloc (.cells #[.int .u8 sk, .int .u8 sy, .int .i64 sa, .int .i64 sb', .bool sf] 33))
      clear hS hY hs hbo h5 c1
      by_cases hlt2 : sy < Y
      · have hs := HSs.out
        rw [if_pos hlt2] at hs
        have HSn := Lib.hid hs
        clear hs
        go_wp2
        go_roundw
        case rel => exact ⟨k + 1, by omega, by go_num, by rw [HSn.out]; congr 1; omega, XX⟩
        case measure => simp [intOf]; omega
      · have hs := HSs.out
        rw [if_neg hlt2] at hs
        have HSn := Lib.hid hs
        clear hs
        go_wp2
        go_roundw
        case rel => exact ⟨k + 1, by omega, by go_num, by rw [HSn.out]; congr 1; omega, XX⟩
        case measure => simp [intOf]; omega
    · obtain rfl : n = k := by omega
      have hlt' : ¬ (n : Int) < (n : Int) := by omega
      go_wp2
      go_ret
      exact ⟨rfl, HX.out⟩

set_option maxHeartbeats 4000000 in
theorem ChartsRow_walk (v : Value) (c : Nat) (l : List St) (w : World) (h : RS w v c l) (hs : ∀ s ∈ l, St.In s) (hy : Sy w) (hm : Mx w) :
    Calls Tryd.prog 5 #[v] w fun e w' => e = .returned (.bool true) ∧ Ext w w' := by
  have hin : ∀ i, i < l.length → 0 ≤ (si l i).k ∧ 0 ≤ (si l i).y := fun i hi => by
    have := hs _ (si_mem hi)
    exact ⟨this.1.1, this.2.1.1⟩
  have k1 := fun w' (x : Ext w w') => CheckRow_calls v c l w' (h.ext x)
  have k2 := fun w' (x : Ext w w') => RRow_calls v c l w' (h.ext x) hin
  have k3 := fun w' (x : Ext w w') (hl : l.length ≤ 1000000) => CNeeds_calls v c l w' (h.ext x) hl
  have k4 := fun w' (x : Ext w w') (hl : l.length ≤ 1000000) => RRowNeeds_calls v c l w' (h.ext x) hl hin
  have k5 := fun w' (x : Ext w w') (hl : l.length ≤ 1000000) => CMakes_calls v c l w' (h.ext x) hl
  have k6 := fun w' (x : Ext w w') (hl : l.length ≤ 1000000) => RRowMakes_calls v c l w' (h.ext x) hl hin
  have k7 := fun w' (x : Ext w w') => First_calls v c l w' (h.ext x)
  have k8 := fun w' (x : Ext w w') => lives13_calls w' (hy.ext x) (hm.ext x)
  obtain ⟨ao, n, rfl, hn, hc, hcm, hat⟩ := h.open
  unfold maxLen at hcm
  by_cases h40 : 40 < n
  · have h40' : (40 : Int) < (n : Int) := by omega
    clear k1 k2 k3 k4 k5 k6 k7 k8 hat h hn
    go_enter Tryd.func5, Tryd.ntmps5
    go_wp2
    go_ret
    exact ⟨rfl, Ext.refl w⟩
  have h40' : ¬ (40 : Int) < (n : Int) := by omega
  have hl : l.length ≤ 1000000 := by omega
  have K1 := Lib.hid k1; have K2 := Lib.hid k2; have K3 := Lib.hid (fun w' x => k3 w' x hl); have K4 := Lib.hid (fun w' x => k4 w' x hl); have K5 := Lib.hid (fun w' x => k5 w' x hl); have K6 := Lib.hid (fun w' x => k6 w' x hl); have K7 := Lib.hid k7; have K8 := Lib.hid k8
  have hst : ∀ k, lw l (k + 1) = if k = 0 ∨ (si l k).y < lw l k then (si l k).y else lw l k := fun k => rfl
  have hfe : fst l = lw l n := by unfold fst; rw [hn]
  rw [hfe] at K7
  generalize rchk l = E1 at *
  generalize rneed l = E2 at *
  generalize rmake l = E3 at *
  have HA := Lib.hid hat; have HS := Lib.hid hst
  clear k1 k2 k3 k4 k5 k6 k7 k8 hat h hn hst hfe hl hs hin h40 hy hm
  go_enter Tryd.func5, Tryd.ntmps5
  go_wp2
  go_loopw [3, 4] (fun y i wr => ∃ k : Nat, k ≤ n ∧ i = .int .i64 k ∧ y = .int .u8 (lw l k) ∧ Hid (Ext w wr)) (fun _ i _ => n - (intOf i).toNat)
  case atStart => exact ⟨0, Nat.zero_le _, rfl, rfl, Lib.hid (Ext.refl w)⟩
  case round =>
    obtain ⟨k, hk, rfl, rfl, HX⟩ := hrel
    by_cases hlt : k < n
    · have hlt' : (k : Int) < (n : Int) := by omega
      obtain ⟨b, o, rfl, h5⟩ := HA.out k hlt
      obtain ⟨u0, u1, u2, u3, u4⟩ := h5.ext HX.out
      have hs := HS.out k
      obtain ⟨S, hS⟩ : ∃ S, S = si l k := ⟨_, rfl⟩
      rw [← hS] at u0 u1 u2 u3 u4 hs
      obtain ⟨Y, hY⟩ : ∃ Y, Y = lw l k := ⟨_, rfl⟩
      rw [← hY] at hs ⊢
      have HSs := Lib.hid hs
      clear hS hY hs h5
      by_cases hk0 : k = 0
      · have hk0' : ((k : Int) == 0) = true := by rw [hk0]; rfl
        have hs := HSs.out
        rw [if_pos (.inl hk0)] at hs
        have HSn := Lib.hid hs
        clear hs hk0
        go_wp2
        go_roundw
        case rel => exact ⟨k + 1, by omega, by go_num, by rw [HSn.out], HX⟩
        case measure => simp [intOf]; omega
      · have hk0' : ((k : Int) == 0) = false := beq_eq_false_iff_ne.2 (by omega)
        by_cases hlt2 : S.y < Y
        · have hs := HSs.out
          rw [if_pos (.inr hlt2)] at hs
          have HSn := Lib.hid hs
          clear hs hk0
          go_wp2
          go_roundw
          case rel => exact ⟨k + 1, by omega, by go_num, by rw [HSn.out], HX⟩
          case measure => simp [intOf]; omega
        · have hs := HSs.out
          rw [if_neg (by omega)] at hs
          have HSn := Lib.hid hs
          clear hs hk0
          go_wp2
          go_roundw
          case rel => exact ⟨k + 1, by omega, by go_num, by rw [HSn.out], HX⟩
          case measure => simp [intOf]; omega
    · obtain rfl : n = k := by omega
      have hlt' : ¬ (n : Int) < (n : Int) := by omega
      generalize lw l n = Y at *
      skip
      go_wp2_with fail
      refine (K1.out _ HX.out).mono ?_
      rintro e w1 ⟨rfl, x⟩
      have X1 := Lib.hid (HX.out.trans x)
      clear x
      go_wp2_with fail
      refine (K2.out _ X1.out).mono ?_
      rintro e w2 ⟨rfl, x⟩
      have X2 := Lib.hid (X1.out.trans x)
      clear x
      go_wp2_with fail
      refine (K3.out _ X2.out).mono ?_
      rintro e w3 ⟨rfl, x⟩
      have X3 := Lib.hid (X2.out.trans x)
      clear x
      go_wp2_with fail
      refine (K4.out _ X3.out).mono ?_
      rintro e w4 ⟨rfl, x⟩
      have X4 := Lib.hid (X3.out.trans x)
      clear x
      go_wp2_with fail
      refine (K5.out _ X4.out).mono ?_
      rintro e w5 ⟨rfl, x⟩
      have X5 := Lib.hid (X4.out.trans x)
      clear x
      go_wp2_with fail
      refine (K6.out _ X5.out).mono ?_
      rintro e w6 ⟨rfl, x⟩
      have X6 := Lib.hid (X5.out.trans x)
      clear x
      go_wp2_with fail
      refine (K7.out _ X6.out).mono ?_
      rintro e w7 ⟨rfl, x⟩
      have X7 := Lib.hid (X6.out.trans x)
      clear x
      go_wp2_with fail
      refine (K8.out _ X7.out).mono ?_
      rintro e w8 ⟨rfl, x⟩
      have X8 := Lib.hid (X7.out.trans x)
      clear x
      go_wp2
      go_ret
      exact ⟨rfl, X8.out⟩
end Go.Proofs.YtkolebjpeaigcaaDoor
