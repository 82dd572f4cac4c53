/- Texts of this claim in one file: libraries and walks. -/
import Derived.Handed
import Derived.ChangeSlices
import Derived.Test.YtinijapkipeamaaDoorRows
import Derived.Lib.LaidU8
import Derived.Deep.Matrix
import Derived.OpenShut
import Derived.ChangeArms
import Derived.Lib.SmallJoins
import Derived.Test.YtinijapkipeamaaDoorMKnown0
import Derived.Test.YtinijapkipeamaaDoorMKnown2
import Derived.Test.YtinijapkipeamaaDoorMKnown5
/- What a row of numbers that came in reads as. -/
namespace Go.Proofs.YtinijapkipeamaaDoor
set_option linter.unusedVariables false
set_option linter.unusedSimpArgs false
open Go Go.RowKit

/-- A slice of integers that came in: nothing, or a row of cells. -/
def IsRow (k : IntKind) (w : World) (a : Option Addr) (len cap : Nat) (zs : List Int) : Prop :=
  (a = none ∧ len = 0 ∧ cap = 0 ∧ zs = []) ∨
  ∃ x, a = some x ∧ len ≤ cap ∧ cap ≤ maxLen ∧ zs.length = cap ∧ (∀ i, i < zs.length → w.cell? (x.add i) = some (.int k (zs.getD i 0))) ∧ ∀ n ∈ zs, (Lit.int k n).wf = true

theorem cell_spot {w : World} {x : Addr} {v : Value} (h : w.cell? x = some v) : x.spot = none := by
  unfold World.cell? at h
  split at h
  · split at h
    · cases h
    · cases hs : x.spot with
      | none => rfl
      | some s => rename_i hn; rw [hs] at hn; exact absurd rfl hn
  · cases h

theorem IsRow.is {k : IntKind} {w : World} {a : Option Addr} {len cap : Nat} {zs : List Int} (h : IsRow k w a len cap zs) : IS k w (.slice a len cap) cap (zs.take len) := by
  rcases h with ⟨rfl, rfl, rfl, rfl⟩ | ⟨x, rfl, h1, h2, h3, hc, _⟩
  · exact IS.nil k w
  · have hl : (zs.take len).length = len := by rw [List.length_take]; omega
    by_cases h0 : cap = 0
    · obtain rfl : len = 0 := by omega
      refine ⟨some x, by simp, by simp, h2, fun h => (by cases h), fun a ha => ⟨fun h => (by omega), fun j u hj => by simp at hj⟩⟩
    · have hs : x.spot = none := by
        have := hc 0 (by omega)
        rw [show x.add 0 = x from rfl] at this
        exact cell_spot this
      obtain ⟨b, o, s⟩ := x
      have hs' : s = none := hs
      subst hs'
      refine IS.mk hl.symm h1 h2 fun i hi => ?_
      have := hc i (by omega)
      rw [Addr.add_lit] at this
      rw [this, gi_take hi]; rfl

theorem IsRow.all {k : IntKind} {w : World} {a : Option Addr} {len cap : Nat} {zs : List Int} (h : IsRow k w a len cap zs) {n : Int} (hn : n ∈ zs.take len) : (Lit.int k n).wf = true := by
  rcases h with ⟨rfl, rfl, rfl, rfl⟩ | ⟨x, rfl, h1, h2, h3, hc, hw⟩
  · simp at hn
  · exact hw n (List.mem_of_mem_take hn)
theorem wf8 {n : Int} (h : (Lit.int .u8 n).wf = true) : 0 ≤ n ∧ n ≤ 255 := by
  unfold Lit.wf at h
  simp only [Bool.and_eq_true, decide_eq_true_eq] at h
  exact h
theorem wf64 {n : Int} (h : (Lit.int .i64 n).wf = true) : -9223372036854775808 ≤ n ∧ n ≤ 9223372036854775807 := by
  unfold Lit.wf at h
  simp only [Bool.and_eq_true, decide_eq_true_eq] at h
  exact h
theorem IsRow.bd {w : World} {a : Option Addr} {len cap : Nat} {zs : List Int} (h : IsRow .u8 w a len cap zs) : ∀ i, i < (zs.take len).length → 0 ≤ gi (zs.take len) i ∧ gi (zs.take len) i ≤ 255 :=
  fun _ hi => wf8 (h.all (gi_mem hi))
theorem IsRow.bd64 {w : World} {a : Option Addr} {len cap : Nat} {zs : List Int} (h : IsRow .i64 w a len cap zs) : ∀ i, i < (zs.take len).length → -9223372036854775808 ≤ gi (zs.take len) i ∧ gi (zs.take len) i ≤ 9223372036854775807 :=
  fun _ hi => wf64 (h.all (gi_mem hi))

/-! ### What the sizes of the arguments give -/
theorem weights_at {H : Type} {P : Program} : ∀ {ts : List TypeId} {ds : List (DataW H)}, (DataW.weightsEach P ts ds).all (· ≤ reachBytes) = true → ∀ {i : Nat} {t : TypeId} {d : DataW H}, ts[i]? = some t → ds[i]? = some d → (DataW.weights P t d).all (· ≤ reachBytes) = true
  | [], _, _, i, t, d, ht, _ => by simp at ht
  | _ :: _, [], _, i, t, d, _, hd => by simp at hd
  | t0 :: ts, d0 :: ds, h, i, t, d, ht, hd => by
    rw [DataW.weightsEach, List.all_append, Bool.and_eq_true] at h
    cases i with
    | zero =>
      obtain rfl : t0 = t := by simpa using ht
      obtain rfl : d0 = d := by simpa using hd
      exact h.1
    | succ i => exact weights_at h.2 (i := i) (by simpa using ht) (by simpa using hd)
theorem weight_slice {H : Type} {P : Program} {t e : TypeId} (ht : P.underlying t = some (.slice e)) {l r : List (DataW H)} (h : (DataW.weights P t (.slice l r)).all (· ≤ reachBytes) = true) : (l.length + r.length) * P.bytesOf e ≤ 140737488351232 := by
  rw [DataW.weights, ht] at h
  simp only [List.all_cons, Bool.and_eq_true, decide_eq_true_eq] at h
  exact h.1
theorem weight_row {H : Type} {P : Program} {t e : TypeId} (ht : P.underlying t = some (.slice e)) {k : IntKind} {zs : List Int} {n : Nat} {d : DataW H} (hd : d = .slice (Go.ChangeShapes.lits k (zs.take n)) (Go.ChangeShapes.lits k (zs.drop n))) (h : (DataW.weights P t d).all (· ≤ reachBytes) = true) : zs.length * P.bytesOf e ≤ 140737488351232 := by
  subst hd
  have := weight_slice ht h
  have e : (Go.ChangeShapes.lits (H := H) k (zs.take n)).length + (Go.ChangeShapes.lits (H := H) k (zs.drop n)).length = zs.length := by
    simp [Go.ChangeShapes.lits]; omega
  rwa [e] at this

variable {H : Type} {enc : TypeId × Value → H}
theorem returnsInHanded_sized {a : Assume} {C : Checked} {os : Os} {f : FuncId} {fn : Func} {s : ChangeSpec} {conds : List PathCond} {apart fresh handsOn again : Bool}
    (own : ownKnob C.prog.godebug = none) (started : os.Started) (noInit : C.prog.inits.idxOf? f = none) (hfn : C.prog.funcs[f]? = some fn)
    (witness : ∃ (w : World) (tape : Tape) (i : Input), w.os = os ∧ (w.forCall tape i).Shaped C.prog ∧ i.vars = [] ∧ Input.okWide C.prog (w.forCall tape i) .any w.heap.size f i ∧
      s.pre6 enc C.prog fn conds apart (w.forCall tape i).memory i.args ∧ a.holds C.prog (lone (Frame.enter C.prog f i.args .normal) [] (w.forCall tape i)))
    (contract : ∀ (W : World) (base : Nat) (args : Array Value) (ds gs : List (DataW H)) (before : List MemPlace),
      (∀ (j : Nat) t v, fn.params[j]? = some t → args[j]? = some v → Value.okWide C.prog W .any base t v) →
      DataW.Whole enc C.prog fn.params.toList s.vars apart W args.toList ds gs before →
      conds.all (PathCond.test C.prog ⟨fn.params.toList, ds, s.plain.varTypes C.prog, gs⟩) = true →
      (DataW.weightsEach C.prog (fn.params.toList ++ s.plain.varTypes C.prog) (ds ++ gs)).all (· ≤ reachBytes) = true →
      a.holds C.prog (lone (Frame.enter C.prog f args .normal) [] W) →
      Calls C.prog f args W fun e W' => ∃ v, e = .returned v ∧ s.post enc C.prog fn apart fresh handsOn again W args v W') :
    ReturnsInHanded a C os f .any (s.pre6 enc C.prog fn conds apart) (s.post enc C.prog fn apart fresh handsOn again) := by
  refine returnsInHanded_of_calls own started noInit witness ?_
  intro w tape i _ _ _ hok hpre hholds
  obtain ⟨_, _, _, fn', hfn', _, _, _, _, hval⟩ := hok
  have e : fn' = fn := Option.some.inj (hfn'.symm.trans hfn)
  subst e
  obtain ⟨⟨ds, gs, before, hw, hc⟩, hz⟩ := hpre
  have hw' := DataW.Whole.of_heap (w' := w.forCall tape i) (by rfl) hw
  refine (contract (w.forCall tape i) w.heap.size i.args ds gs before hval hw' hc (hz.weights hw) hholds).mono fun e W' ⟨v, he, hp⟩ => ?_
  subst he
  exact ChangeSpec.post_blind hp
/-- .. where the walk wants the shape of the world, too. -/
theorem returnsInHanded_and_open {a : Assume} {C : Checked} {os : Os} {f : FuncId} {fn : Func} {s : ChangeSpec} {conds : List PathCond} {apart fresh handsOn again : Bool} {X : World → Array Value → Prop}
    (hX : ∀ (w w' : World) (args : Array Value), w.heap = w'.heap → X w args → X w' args)
    (own : ownKnob C.prog.godebug = none) (started : os.Started) (noInit : C.prog.inits.idxOf? f = none) (hfn : C.prog.funcs[f]? = some fn)
    (witness : ∃ (w : World) (tape : Tape) (i : Input), w.os = os ∧ (w.forCall tape i).Shaped C.prog ∧ i.vars = [] ∧ Input.okWide C.prog (w.forCall tape i) .any w.heap.size f i ∧
      ((s.pre enc C.prog fn conds apart (w.forCall tape i).memory i.args ∧ X (w.forCall tape i).memory i.args) ∧ sizedMet enc C.prog fn (OpenSpec.ofChange s) apart (w.forCall tape i).memory i.args) ∧ a.holds C.prog (lone (Frame.enter C.prog f i.args .normal) [] (w.forCall tape i)))
    (contract : ∀ (W : World) (base : Nat) (args : Array Value) (ds gs : List (DataW H)) (before : List MemPlace), W.ShapedOpen C.prog →
      (∀ (j : Nat) t v, fn.params[j]? = some t → args[j]? = some v → Value.okWide C.prog W .any base t v) →
      DataW.Whole enc C.prog fn.params.toList s.vars apart W args.toList ds gs before →
      conds.all (PathCond.test C.prog ⟨fn.params.toList, ds, s.plain.varTypes C.prog, gs⟩) = true →
      (DataW.weightsEach C.prog (fn.params.toList ++ s.plain.varTypes C.prog) (ds ++ gs)).all (· ≤ reachBytes) = true → X W args →
      a.holds C.prog (lone (Frame.enter C.prog f args .normal) [] W) →
      Calls C.prog f args W fun e W' => ∃ v, e = .returned v ∧ s.post enc C.prog fn apart fresh handsOn again W args v W') :
    ReturnsInHanded a C os f .any (fun w args => (s.pre enc C.prog fn conds apart w args ∧ X w args) ∧ sizedMet enc C.prog fn (OpenSpec.ofChange s) apart w args) (s.post enc C.prog fn apart fresh handsOn again) := by
  refine returnsInHanded_of_calls own started noInit witness ?_
  intro w tape i _ hso _ hok hpre hholds
  obtain ⟨_, _, _, fn', hfn', _, _, _, _, hval⟩ := hok
  have e : fn' = fn := Option.some.inj (hfn'.symm.trans hfn)
  subst e
  obtain ⟨⟨⟨ds, gs, before, hw, hc⟩, hx⟩, hz⟩ := hpre
  have hw' := DataW.Whole.of_heap (w' := w.forCall tape i) (by rfl) hw
  refine (contract (w.forCall tape i) w.heap.size i.args ds gs before hso hval hw' hc (hz.weights hw) (hX _ _ _ (by rfl) hx) hholds).mono fun e W' ⟨v, he, hp⟩ => ?_
  subst he
  exact ChangeSpec.post_blind hp
end Go.Proofs.YtinijapkipeamaaDoor
/- What the listed variable gives: the table of the symbols. -/
namespace Go.Proofs.YtinijapkipeamaaDoor
set_option linter.unusedVariables false
set_option linter.unusedSimpArgs false
set_option maxRecDepth 8000
open Go Go.RowKit

theorem sy_of {w : World} {l : List (String × DataW Unit)} (h : laidMet Tryd.prog l w) (hm : ("gansey/stitches.symbols", Rows.laid_gansey_stitches_symbols) ∈ l) : Sy w := by
  obtain ⟨g, t, cs, fuel, p, hg, ht, hv, hd⟩ := Lib.laidMet.reads h hm
  have hgn : g = 0 := by
    have hk : Tryd.prog.globalNamed "gansey/stitches.symbols" = some (0) := by kernel_rfl
    exact Option.some.inj (hg.symm.trans hk)
  obtain ⟨n, e, h1, h2, h3, h4⟩ : ∃ n e, Tryd.prog.underlying t = some (.array n e) ∧ Tryd.prog.underlying e = some (.int .u8) ∧ Tryd.prog.cellsOf e = 1 ∧ Tryd.prog.cellsOf t = n := by
    have hh : ((Tryd.prog.globalNamed "gansey/stitches.symbols").bind fun g => (Tryd.prog.globals[g]?).map (·.type)) = some t := by rw [hg]; exact ht
    have hk : ((Tryd.prog.globalNamed "gansey/stitches.symbols").bind fun g => (Tryd.prog.globals[g]?).map (·.type)) = some (100) := by kernel_rfl
    obtain rfl := Option.some.inj (hk.symm.trans hh)
    exact ⟨8, 5, by kernel_rfl, by kernel_rfl, by kernel_rfl, by kernel_rfl⟩
  have hd' : DataW.trod (fun _ => ()) Tryd.prog w 0 (fun _ => true) false fuel t cs.toList = some (Lib.tabData .u8 symT, p) := by
    rw [hd]; exact congrArg (fun x => some (x, p)) (by kernel_rfl)
  have hcs := Lib.cells_of_tab h1 h2 h3 h4 hd'
  unfold World.var? at hv
  rw [hg, hgn] at hv
  simp only [Option.bind_some] at hv
  intro i hi
  split at hv
  · rename_i cs' _ _ hb
    obtain rfl := Option.some.inj hv
    have hc : ∀ j, cs'[j]? = cs'.toList[j]? := fun j => by rw [Array.getElem?_toList]
    simp only [World.cell?, hb]
    rw [hc, hcs]
    rw [List.getElem?_map, gi_some (show i < symT.length from hi)]
    rfl
  · cases hv
end Go.Proofs.YtinijapkipeamaaDoor
/- What rows of stitches, charts and lists of lists that came in read as. -/
namespace Go.Proofs.YtinijapkipeamaaDoor
set_option linter.unusedVariables false
set_option linter.unusedSimpArgs false
set_option maxRecDepth 8000
open Go Go.RowKit Go.ChangeShapes Go.WideShapes Go.ChangeAt

theorem spot_of {w : World} {a : Addr} {v : Value} (h : w.cell? a = some v) : ∃ b o, a = ⟨b, o, none⟩ := by
  obtain ⟨b, o, s⟩ := a
  have hs : s = none := cell_spot h
  subst hs
  exact ⟨b, o, rfl⟩
section
variable {H : Type} {enc : TypeId × Value → H} {w : World} {base : Nat} {held : Bool}
/-- Five cells that read as a stitch. -/
theorem st_in {sp : Nat → Bool} {fuel : Nat} {cs : List Value} {x : DataW H × List MemPlace} (h : DataW.trod enc Tryd.prog w base sp held fuel 52 cs = some x) : ∃ s : St, s.In ∧ cs = s.cs := by
  obtain ⟨xs, n, _, _, hl, hlen, hf⟩ := DataW.trod_struct Tryd.underlying52 h
  rw [show Tryd.prog.cellsOf 52 = 5 by kernel_rfl] at hl
  match cs, hl with
  | [c0, c1, c2, c3, c4], _ =>
    match xs, hlen with
    | [y0, y1, y2, y3, y4], _ =>
      have c8 : Tryd.prog.cellsOf 50 = 1 := by kernel_rfl
      have cu : Tryd.prog.cellsOf 5 = 1 := by kernel_rfl
      have ci : Tryd.prog.cellsOf 3 = 1 := by kernel_rfl
      have cb : Tryd.prog.cellsOf 4 = 1 := by kernel_rfl
      have h0 : DataW.trod enc Tryd.prog w base sp held n 50 (([c0, c1, c2, c3, c4].drop 0).take (Tryd.prog.cellsOf 50)) = some y0 := hf 0 _ rfl
      rw [c8] at h0
      have h1 : DataW.trod enc Tryd.prog w base sp held n 5 (([c0, c1, c2, c3, c4].drop 1).take (Tryd.prog.cellsOf 5)) = some y1 := hf 1 _ rfl
      rw [cu] at h1
      have h2 : DataW.trod enc Tryd.prog w base sp held n 3 (([c0, c1, c2, c3, c4].drop 2).take (Tryd.prog.cellsOf 3)) = some y2 := hf 2 _ rfl
      rw [ci] at h2
      have h3 : DataW.trod enc Tryd.prog w base sp held n 3 (([c0, c1, c2, c3, c4].drop 3).take (Tryd.prog.cellsOf 3)) = some y3 := hf 3 _ rfl
      rw [ci] at h3
      have h4 : DataW.trod enc Tryd.prog w base sp held n 4 (([c0, c1, c2, c3, c4].drop 4).take (Tryd.prog.cellsOf 4)) = some y4 := hf 4 _ rfl
      rw [cb] at h4
      obtain ⟨k, hk, _, wk⟩ := DataW.trod_int Tryd.underlying50 h0
      obtain ⟨y, hy, _, wy⟩ := DataW.trod_int Tryd.underlying5 h1
      obtain ⟨a, ha, _, wa⟩ := DataW.trod_int Tryd.underlying3 h2
      obtain ⟨b, hb, _, wb⟩ := DataW.trod_int Tryd.underlying3 h3
      obtain ⟨f, hff, _⟩ := DataW.trod_bool Tryd.underlying4 h4
      simp at hk hy ha hb hff
      refine ⟨⟨k, y, a, b, f⟩, ⟨wf8 wk, wf8 wy, wf64 wa, wf64 wb⟩, ?_⟩
      simp [St.cs, hk, hy, ha, hb, hff]
theorem row_in {fuel : Nat} {v : Value} {x : DataW H × List MemPlace} (h : DataW.trod enc Tryd.prog w base (fun _ => true) held fuel 48 [v] = some x) : ∃ c l, RS w v c l ∧ ∀ s ∈ l, St.In s := by
  rcases Deep.open_slice Tryd.underlying48 h with ⟨hcs, _⟩ | ⟨a, len, cap, m, n, D, Pl, hcs, hb, hl, hm, hmm, _, hx⟩
  · obtain rfl : v = .slice none 0 0 := by simpa using hcs
    exact ⟨0, [], RS.nil w, fun s hs => by cases hs⟩
  · obtain rfl : v = .slice (some a) len cap := by simpa using hcs
    simp only [if_true] at hmm
    subst hmm
    rw [show Tryd.prog.cellsOf 52 = 5 by kernel_rfl] at hx
    have key : ∀ i, i < len → ∃ s : St, s.In ∧ ∀ j, j < 5 → w.cell? ((a.add (i * 5)).add j) = s.cs[j]? := fun i hi => by
      obtain ⟨cs', h1, h2⟩ := hx i (by omega)
      obtain ⟨_, _, h4⟩ := World.cells?_some h1
      obtain ⟨s, h5, rfl⟩ := st_in h2
      exact ⟨s, h5, h4⟩
    obtain ⟨F, hF⟩ : ∃ F : Nat → St, ∀ i, i < len → (F i).In ∧ ∀ j, j < 5 → w.cell? ((a.add (i * 5)).add j) = (F i).cs[j]? :=
      ⟨fun i => if h : i < len then (key i h).choose else St.none, fun i hi => by simp only [hi, dif_pos]; exact (key i hi).choose_spec⟩
    have hsi : ∀ i, i < len → si ((List.range len).map F) i = F i := fun i hi => by unfold si; simp [List.getD, hi]
    refine ⟨m, (List.range len).map F, ⟨some a, by simp, by simpa using hl, hm, ?_⟩, fun s hs => ?_⟩
    · by_cases h0 : len = 0
      · subst h0; exact .inl rfl
      · obtain ⟨b, o, hao⟩ : ∃ b o, a = ⟨b, o, none⟩ := by
          have := (hF 0 (by omega)).2 0 (by omega)
          rw [Nat.zero_mul, show a.add 0 = a from by simp [Addr.add], show a.add 0 = a from by simp [Addr.add]] at this
          exact spot_of this
        subst hao
        refine .inr ⟨b, o, rfl, fun i hi => ?_⟩
        have hi' : i < len := by simpa using hi
        have hk := (hF i hi').2
        rw [hsi i hi']
        have k0 := hk 0 (by omega); have k1 := hk 1 (by omega); have k2 := hk 2 (by omega); have k3 := hk 3 (by omega); have k4 := hk 4 (by omega)
        rw [Addr.add_lit, Addr.add_lit] at k0 k1 k2 k3 k4
        exact ⟨k0, k1, k2, k3, k4⟩
    · obtain ⟨i, hi, rfl⟩ := List.mem_map.1 hs
      exact (hF i (List.mem_range.1 hi)).1
theorem rows_in {fuel : Nat} {v : Value} {x : DataW H × List MemPlace} (h : DataW.trod enc Tryd.prog w base (fun _ => true) held fuel 24 [v] = some x) : ∃ c rows, RR w v c rows ∧ ∀ l ∈ rows, ∀ s ∈ l, St.In s := by
  rcases Deep.open_slice1 Tryd.underlying24 (by kernel_rfl) h with ⟨hcs, _⟩ | ⟨a, len, cap, m, n, V, D, Pl, hcs, hb, hl, hm, hmm, _, hx⟩
  · obtain rfl : v = .slice none 0 0 := by simpa using hcs
    exact ⟨0, [], RR.nil w, fun s hs => by cases hs⟩
  · obtain rfl : v = .slice (some a) len cap := by simpa using hcs
    simp only [if_true] at hmm
    subst hmm
    have key : ∀ i, i < len → ∃ y : Nat × List St, RS w (V i) y.1 y.2 ∧ ∀ s ∈ y.2, St.In s := fun i hi => by
      obtain ⟨c, l, h1, h2⟩ := row_in (hx i (by omega)).2
      exact ⟨(c, l), h1, h2⟩
    obtain ⟨F, hF⟩ : ∃ F : Nat → Nat × List St, ∀ i, i < len → RS w (V i) (F i).1 (F i).2 ∧ ∀ s ∈ (F i).2, St.In s :=
      ⟨fun i => if h : i < len then (key i h).choose else (0, []), fun i hi => by simp only [hi, dif_pos]; exact (key i hi).choose_spec⟩
    have hsw : ∀ i, i < len → sw ((List.range len).map fun i => (F i).2) i = (F i).2 := fun i hi => by unfold sw; simp [List.getD, hi]
    refine ⟨m, (List.range len).map fun i => (F i).2, ⟨some a, V, fun i => (F i).1, by simp, by simpa using hl, hm, ?_, fun i hi => ?_⟩, fun l hl => ?_⟩
    · by_cases h0 : len = 0
      · subst h0; exact .inl rfl
      · obtain ⟨b, o, hao⟩ : ∃ b o, a = ⟨b, o, none⟩ := by
          have := (hx 0 (by omega)).1
          rw [show a.add 0 = a from by simp [Addr.add]] at this
          exact spot_of this
        subst hao
        refine .inr ⟨b, o, rfl, fun i hi => ?_⟩
        have hi' : i < len := by simpa using hi
        have := (hx i (by omega)).1
        rwa [Addr.add_lit] at this
    · have hi' : i < len := by simpa using hi
      rw [hsw i hi']; exact (hF i hi').1
    · obtain ⟨i, hi, rfl⟩ := List.mem_map.1 hl
      exact (hF i (List.mem_range.1 hi)).2
theorem iss_in {P : Program} {t e q : TypeId} {fuel : Nat} {v : Value} {x : DataW H × List MemPlace} (ht : P.underlying t = some (.slice e)) (he : P.underlying e = some (.slice q)) (hq : P.underlying q = some (.int .i64)) (ce : P.cellsOf e = 1) (cq : P.cellsOf q = 1)
    (h : DataW.trod enc P w base (fun _ => true) held fuel t [v] = some x) : ∃ c rows, ISS .i64 w v c rows := by
  rcases Deep.open_int_rows ht he hq ce cq h with ⟨hcs, _⟩ | ⟨a, len, cap, A, L, C, Z, hcs, _, hl, hm, _, hx⟩
  · obtain rfl : v = .slice none 0 0 := by simpa using hcs
    exact ⟨0, [], ISS.nil _ _⟩
  · obtain rfl : v = .slice (some a) len cap := by simpa using hcs
    have hri : ∀ i, i < len → ri ((List.range len).map fun r => (Z r).take (L r)) i = (Z i).take (L i) := fun i hi => ri_range_map _ hi
    by_cases h0 : cap = 0
    · have : len = 0 := by omega
      subst this; subst h0
      exact ⟨0, [], fun _ => undef, fun _ => 0, ⟨some a, rfl, Nat.le_refl _, by unfold maxLen; omega, fun h => (by cases h), fun b hb => ⟨fun h => absurd h (by omega), fun j u hj => by simp at hj⟩⟩, fun i hi => by simp at hi⟩
    · obtain ⟨b, o, hao⟩ : ∃ b o, a = ⟨b, o, none⟩ := by
        have := (hx 0 (by omega)).1
        rw [show a.add 0 = a from by simp [Addr.add]] at this
        exact spot_of this
      subst hao
      refine ⟨cap, (List.range len).map (fun r => (Z r).take (L r)), fun r => .slice (A r) (L r) (C r), C, ISV.mk' (by simp) hl hm (fun i hi => ?_) fun i hi => ?_⟩
      · have := (hx i (by omega)).1
        rwa [Addr.add_lit] at this
      · rw [hri i hi]
        obtain ⟨_, g1, g2, g3, g4, g5, g6⟩ := hx i (by omega)
        refine ⟨A i, by simp; omega, by simp; omega, g2, g5, fun a' ha' => ?_⟩
        obtain ⟨_, hcell⟩ := g6 a' ha'
        by_cases hc0 : C i = 0
        · exact ⟨fun h => absurd h (by omega), fun j u hj => by
            have : ((Z i).take (L i)).length = 0 := by simp; omega
            rw [List.eq_nil_of_length_eq_zero this] at hj; simp at hj⟩
        · obtain ⟨b', o', hao'⟩ : ∃ b o, a' = ⟨b, o, none⟩ := by
            have := hcell 0 (by omega)
            rw [show a'.add 0 = a' from by simp [Addr.add]] at this
            exact spot_of this
          subst hao'
          refine ⟨fun _ => rfl, fun j u hj => ?_⟩
          rw [List.getElem?_map, List.getElem?_take] at hj
          split at hj
          · have hjl : j < (Z i).length := by omega
            rw [List.getElem?_eq_getElem hjl] at hj
            have := hcell j (by omega)
            rw [Addr.add_lit] at this
            rw [this, ← Option.some.inj hj]
            simp [List.getD, hjl]
          · cases hj
end
/-- A chart, as it comes in. -/
def ChIn (w : World) (v : Value) : Prop := ∃ u c rows, v = .agg #[u] ∧ RR w u c rows ∧ ∀ l ∈ rows, ∀ s ∈ l, St.In s
theorem open_chart {H : Type} {enc : TypeId × Value → H} {w : World} {b0 : Nat} {v : Value} {d : DataW H} {p : List MemPlace}
    (hv : Value.okWide Tryd.prog w .any b0 26 v) (h : DataW.Trod enc Tryd.prog w 0 (fun _ => true) true 26 v d p) : ChIn w v := by
  obtain ⟨cs, rfl, hsz⟩ := okWide_struct Tryd.underlying26 hv
  obtain ⟨l⟩ := cs
  match l, hsz.trans (show Tryd.prog.cellsOf 26 = 1 by kernel_rfl) with
  | [u], _ =>
    obtain ⟨fuel, hf⟩ := h
    obtain ⟨y0, n, _, _, h0⟩ := trod_struct1 Tryd.underlying26 hf
    obtain ⟨c, rows, h1, h2⟩ := rows_in (by simpa [Value.cells, show Tryd.prog.cellsOf 24 = 1 by kernel_rfl] using h0)
    exact ⟨u, c, rows, rfl, h1, h2⟩
/-- Lists of numbers, as they come in. -/
def IssIn (w : World) (v : Value) : Prop := ∃ c rows, ISS .i64 w v c rows
theorem open_iss {H : Type} {enc : TypeId × Value → H} {w : World} {b0 : Nat} {v : Value} {d : DataW H} {p : List MemPlace}
    (hv : Value.okWide Tryd.prog w .any b0 54 v) (h : DataW.Trod enc Tryd.prog w 0 (fun _ => true) true 54 v d p) : IssIn w v := by
  obtain ⟨a, n, c, rfl⟩ := okWide_slice Tryd.underlying54 hv
  obtain ⟨fuel, hf⟩ := h
  exact iss_in Tryd.underlying54 Tryd.underlying22 Tryd.underlying3 (by kernel_rfl) (by kernel_rfl) (by simpa [Value.cells] using hf)
/-- A row of stitches, as it comes in. -/
def RowIn (w : World) (v : Value) : Prop := ∃ c l, RS w v c l ∧ ∀ s ∈ l, St.In s
theorem open_row {H : Type} {enc : TypeId × Value → H} {w : World} {b0 : Nat} {v : Value} {d : DataW H} {p : List MemPlace}
    (hv : Value.okWide Tryd.prog w .any b0 48 v) (h : DataW.Trod enc Tryd.prog w 0 (fun _ => true) true 48 v d p) : RowIn w v := by
  obtain ⟨a, n, c, rfl⟩ := okWide_slice Tryd.underlying48 hv
  obtain ⟨fuel, hf⟩ := h
  exact row_in (by simpa [Value.cells] using hf)
end Go.Proofs.YtinijapkipeamaaDoor
/- What an outline as plain data reads as. -/
namespace Go.Proofs.YtinijapkipeamaaDoor
set_option linter.unusedVariables false
set_option linter.unusedSimpArgs false
open Go Go.RowKit Go.ChangeShapes Go.WideShapes Go.ChangeAt

section
variable {H : Type} {enc : TypeId × Value → H} {P : Program} {w : World} {base : Nat} {held : Bool}
theorem bytes_in {t e : TypeId} {fuel : Nat} {v : Value} {x : DataW H × List MemPlace} (ht : P.underlying t = some (.slice e)) (he : P.underlying e = some (.int .u8)) (hc : P.cellsOf e = 1)
    (h : DataW.trod enc P w base (fun _ => true) held fuel t [v] = some x) : ∃ c xs, IS .u8 w v c xs ∧ ∀ i, i < xs.length → 0 ≤ gi xs i ∧ gi xs i ≤ 255 := by
  rcases open_ints ht he hc h with ⟨hcs, _⟩ | ⟨x, l, c, zs, hcs, _, hl, hm, hz, _, hcell, hwz⟩
  · obtain rfl : v = .slice none 0 0 := by simpa using hcs
    exact ⟨0, [], IS.nil _ _, fun i hi => by simp at hi⟩
  · obtain rfl : v = .slice (some x) l c := by simpa using hcs
    have hr : IsRow .u8 w (some x) l c zs := .inr ⟨_, rfl, hl, hm, by simpa using hz, hcell, hwz⟩
    exact ⟨c, zs.take l, hr.is, hr.bd⟩
end
/-- An outline as plain data, as it comes in. -/
def OIn (w : World) (v : Value) : Prop := ∃ f u c st, v = .agg #[.int .u8 f, u] ∧ IS .u8 w u c st ∧ (0 ≤ f ∧ f ≤ 255) ∧ ∀ i, i < st.length → 0 ≤ gi st i ∧ gi st i ≤ 255
theorem open_O {H : Type} {enc : TypeId × Value → H} {w : World} {b0 : Nat} {v : Value} {d : DataW H} {p : List MemPlace}
    (hv : Value.okWide Tryd.prog w .any b0 44 v) (h : DataW.Trod enc Tryd.prog w 0 (fun _ => true) true 44 v d p) : OIn w v := by
  obtain ⟨v0, v1, y0, y1, n, rfl, _, _, g0, g1⟩ := Joins.open_agg2 Tryd.underlying44 (by kernel_rfl) (show Tryd.prog.cellsOf 44 = 2 by kernel_rfl) hv h
  obtain ⟨f, hf, _, wf⟩ := DataW.trod_int Tryd.underlying5 g0
  obtain rfl : v0 = .int .u8 f := by simpa using hf
  obtain ⟨c, st, h1, h2⟩ := bytes_in Tryd.underlying42 Tryd.underlying5 (by kernel_rfl) g1
  exact ⟨f, v1, c, st, rfl, h1, wf8 wf, h2⟩
section
variable {H : Type} {enc : TypeId × Value → H} {P : Program} {w : World} {base : Nat} {sp : Nat → Bool} {held : Bool}
theorem trod_pair {t e : TypeId} {fuel : Nat} {u v : Value} {x : DataW H × List MemPlace} (ht : P.underlying t = some (.array 2 e)) (he : P.underlying e = some (.int .u8)) (hce : P.cellsOf e = 1) (hct : P.cellsOf t = 2)
    (h : DataW.trod enc P w base sp held fuel t [u, v] = some x) : ∃ a b, u = .int .u8 a ∧ v = .int .u8 b ∧ (Lit.int .u8 a).wf = true ∧ (Lit.int .u8 b).wf = true := by
  cases fuel with
  | zero => simp [DataW.trod] at h
  | succ fuel =>
    simp only [DataW.trod, ht, hce, hct, Nat.mul_one] at h
    split at h
    · obtain ⟨xs, hm, hx⟩ := Option.map_eq_some_iff.1 h
      simp only [List.range_succ, List.range_zero, List.nil_append, List.cons_append, List.mapM_cons, List.mapM_nil] at hm
      cases h0 : DataW.trod enc P w base sp held fuel e (([u, v].drop 0).take 1) with
      | none => simp at h0; simp [h0] at hm
      | some y0 =>
        cases h1 : DataW.trod enc P w base sp held fuel e (([u, v].drop 1).take 1) with
        | none => simp at h0 h1; simp [h0, h1] at hm
        | some y1 =>
          obtain ⟨a, ha, _, wa⟩ := DataW.trod_int he h0
          obtain ⟨b, hb, _, wb⟩ := DataW.trod_int he h1
          simp at ha hb
          exact ⟨a, b, ha, hb, wa, wb⟩
    · cases h
end
/-- Two bytes in an array, as they come in. -/
def AIn (w : World) (v : Value) : Prop := ∃ a b, v = .agg #[.int .u8 a, .int .u8 b] ∧ (0 ≤ a ∧ a ≤ 255) ∧ (0 ≤ b ∧ b ≤ 255)
theorem open_A {H : Type} {enc : TypeId × Value → H} {w : World} {b0 : Nat} {v : Value} {d : DataW H} {p : List MemPlace}
    (hv : Value.okWide Tryd.prog w .any b0 45 v) (h : DataW.Trod enc Tryd.prog w 0 (fun _ => true) true 45 v d p) : AIn w v := by
  have hu := Tryd.underlying45
  have hc : Tryd.prog.cellsOf 45 = 2 := by kernel_rfl
  simp only [Value.okWide, hu] at hv
  obtain ⟨cs, rfl, h2, _⟩ := hv
  obtain ⟨c0, c1, rfl⟩ := Joins.array2 (h2.trans hc)
  obtain ⟨fuel, hf⟩ := h
  obtain ⟨a, b, rfl, rfl, wa, wb⟩ := trod_pair hu Tryd.underlying5 (by kernel_rfl) hc (by simpa [Value.cells] using hf)
  exact ⟨a, b, rfl, wf8 wa, wf8 wb⟩
end Go.Proofs.YtinijapkipeamaaDoor
