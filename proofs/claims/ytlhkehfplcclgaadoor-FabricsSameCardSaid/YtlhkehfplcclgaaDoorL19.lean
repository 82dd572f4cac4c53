/- Texts of this claim in one file: libraries and walks. -/
import Derived.Test.YtlhkehfplcclgaaDoorRows
import Derived.Lib.LaidU8
import Derived.Handed
import Derived.ChangeSlices
import Derived.OpenShut
import Derived.ChangeArms
import Derived.Deep.Slices
import Derived.Lib.SmallJoins
import Derived.Test.YtlhkehfplcclgaaDoorL0
import Derived.Test.YtlhkehfplcclgaaDoorL11
import Derived.Test.YtlhkehfplcclgaaDoorL17
/- What the listed variables give: the table of powers of ten. -/
namespace Go.Proofs.YtlhkehfplcclgaaDoor
set_option linter.unusedVariables false
set_option linter.unusedSimpArgs false
open Go Go.RowKit

theorem ptab_of {w : World} {l : List (String × DataW Unit)} (h : laidMet Tryd.prog l w) (hm : ("internal/strconv.uint64pow10", Rows.laid_internal_strconv_uint64pow10) ∈ l) : PTab w := by
  obtain ⟨g, t, cs, fuel, p, hg, ht, hv, hd⟩ := Lib.laidMet.reads h hm
  obtain ⟨n, e, h1, h2, h3, h4⟩ : ∃ n e, Tryd.prog.underlying t = some (.array n e) ∧ Tryd.prog.underlying e = some (.int .u64) ∧ Tryd.prog.cellsOf e = 1 ∧ Tryd.prog.cellsOf t = n := by
    have hh : ((Tryd.prog.globalNamed "internal/strconv.uint64pow10").bind fun g => (Tryd.prog.globals[g]?).map (·.type)) = some t := by rw [hg]; exact ht
    have hk : ((Tryd.prog.globalNamed "internal/strconv.uint64pow10").bind fun g => (Tryd.prog.globals[g]?).map (·.type)) = some (138) := by kernel_rfl
    obtain rfl := Option.some.inj (hk.symm.trans hh)
    exact ⟨20, 24, by kernel_rfl, by kernel_rfl, by kernel_rfl, by kernel_rfl⟩
  have hd' : DataW.trod (fun _ => ()) Tryd.prog w 0 (fun _ => true) false fuel t cs.toList = some (Lib.tabData .u64 Lib.pow10Tab, p) := by
    rw [hd]; exact congrArg (fun x => some (x, p)) (by kernel_rfl)
  have := Lib.cells_of_tab h1 h2 h3 h4 hd'
  unfold PTab Lib.TabIs
  rw [hv, ← this]
end Go.Proofs.YtlhkehfplcclgaaDoor
/- What a row of numbers that came in reads as. -/
namespace Go.Proofs.YtlhkehfplcclgaaDoor
set_option linter.unusedVariables false
set_option linter.unusedSimpArgs false
open Go Go.RowKit

/-- A slice of integers that came in: nothing, or a row of cells. -/
def IsRow (k : IntKind) (w : World) (a : Option Addr) (len cap : Nat) (zs : List Int) : Prop :=
  (a = none ∧ len = 0 ∧ cap = 0 ∧ zs = []) ∨
  ∃ x, a = some x ∧ len ≤ cap ∧ cap ≤ maxLen ∧ zs.length = cap ∧ (∀ i, i < zs.length → w.cell? (x.add i) = some (.int k (zs.getD i 0))) ∧ ∀ n ∈ zs, (Lit.int k n).wf = true

theorem cell_spot {w : World} {x : Addr} {v : Value} (h : w.cell? x = some v) : x.spot = none := by
  unfold World.cell? at h
  split at h
  · split at h
    · cases h
    · cases hs : x.spot with
      | none => rfl
      | some s => rename_i hn; rw [hs] at hn; exact absurd rfl hn
  · cases h

theorem IsRow.is {k : IntKind} {w : World} {a : Option Addr} {len cap : Nat} {zs : List Int} (h : IsRow k w a len cap zs) : IS k w (.slice a len cap) cap (zs.take len) := by
  rcases h with ⟨rfl, rfl, rfl, rfl⟩ | ⟨x, rfl, h1, h2, h3, hc, _⟩
  · exact IS.nil k w
  · have hl : (zs.take len).length = len := by rw [List.length_take]; omega
    by_cases h0 : cap = 0
    · obtain rfl : len = 0 := by omega
      refine ⟨some x, by simp, by simp, h2, fun h => (by cases h), fun a ha => ⟨fun h => (by omega), fun j u hj => by simp at hj⟩⟩
    · have hs : x.spot = none := by
        have := hc 0 (by omega)
        rw [show x.add 0 = x from rfl] at this
        exact cell_spot this
      obtain ⟨b, o, s⟩ := x
      have hs' : s = none := hs
      subst hs'
      refine IS.mk hl.symm h1 h2 fun i hi => ?_
      have := hc i (by omega)
      rw [Addr.add_lit] at this
      rw [this, gi_take hi]; rfl

theorem IsRow.all {k : IntKind} {w : World} {a : Option Addr} {len cap : Nat} {zs : List Int} (h : IsRow k w a len cap zs) {n : Int} (hn : n ∈ zs.take len) : (Lit.int k n).wf = true := by
  rcases h with ⟨rfl, rfl, rfl, rfl⟩ | ⟨x, rfl, h1, h2, h3, hc, hw⟩
  · simp at hn
  · exact hw n (List.mem_of_mem_take hn)
theorem wf8 {n : Int} (h : (Lit.int .u8 n).wf = true) : 0 ≤ n ∧ n ≤ 255 := by
  unfold Lit.wf at h
  simp only [Bool.and_eq_true, decide_eq_true_eq] at h
  exact h
theorem wf64 {n : Int} (h : (Lit.int .i64 n).wf = true) : -9223372036854775808 ≤ n ∧ n ≤ 9223372036854775807 := by
  unfold Lit.wf at h
  simp only [Bool.and_eq_true, decide_eq_true_eq] at h
  exact h
theorem IsRow.bd {w : World} {a : Option Addr} {len cap : Nat} {zs : List Int} (h : IsRow .u8 w a len cap zs) : ∀ i, i < (zs.take len).length → 0 ≤ gi (zs.take len) i ∧ gi (zs.take len) i ≤ 255 :=
  fun _ hi => wf8 (h.all (gi_mem hi))
theorem IsRow.bd64 {w : World} {a : Option Addr} {len cap : Nat} {zs : List Int} (h : IsRow .i64 w a len cap zs) : ∀ i, i < (zs.take len).length → -9223372036854775808 ≤ gi (zs.take len) i ∧ gi (zs.take len) i ≤ 9223372036854775807 :=
  fun _ hi => wf64 (h.all (gi_mem hi))

/-! ### What the sizes of the arguments give -/
theorem weights_at {H : Type} {P : Program} : ∀ {ts : List TypeId} {ds : List (DataW H)}, (DataW.weightsEach P ts ds).all (· ≤ reachBytes) = true → ∀ {i : Nat} {t : TypeId} {d : DataW H}, ts[i]? = some t → ds[i]? = some d → (DataW.weights P t d).all (· ≤ reachBytes) = true
  | [], _, _, i, t, d, ht, _ => by simp at ht
  | _ :: _, [], _, i, t, d, _, hd => by simp at hd
  | t0 :: ts, d0 :: ds, h, i, t, d, ht, hd => by
    rw [DataW.weightsEach, List.all_append, Bool.and_eq_true] at h
    cases i with
    | zero =>
      obtain rfl : t0 = t := by simpa using ht
      obtain rfl : d0 = d := by simpa using hd
      exact h.1
    | succ i => exact weights_at h.2 (i := i) (by simpa using ht) (by simpa using hd)
theorem weight_slice {H : Type} {P : Program} {t e : TypeId} (ht : P.underlying t = some (.slice e)) {l r : List (DataW H)} (h : (DataW.weights P t (.slice l r)).all (· ≤ reachBytes) = true) : (l.length + r.length) * P.bytesOf e ≤ 140737488351232 := by
  rw [DataW.weights, ht] at h
  simp only [List.all_cons, Bool.and_eq_true, decide_eq_true_eq] at h
  exact h.1
theorem weight_row {H : Type} {P : Program} {t e : TypeId} (ht : P.underlying t = some (.slice e)) {k : IntKind} {zs : List Int} {n : Nat} {d : DataW H} (hd : d = .slice (Go.ChangeShapes.lits k (zs.take n)) (Go.ChangeShapes.lits k (zs.drop n))) (h : (DataW.weights P t d).all (· ≤ reachBytes) = true) : zs.length * P.bytesOf e ≤ 140737488351232 := by
  subst hd
  have := weight_slice ht h
  have e : (Go.ChangeShapes.lits (H := H) k (zs.take n)).length + (Go.ChangeShapes.lits (H := H) k (zs.drop n)).length = zs.length := by
    simp [Go.ChangeShapes.lits]; omega
  rwa [e] at this

variable {H : Type} {enc : TypeId × Value → H}
theorem returnsInHanded_sized {a : Assume} {C : Checked} {os : Os} {f : FuncId} {fn : Func} {s : ChangeSpec} {conds : List PathCond} {apart fresh handsOn again : Bool}
    (own : ownKnob C.prog.godebug = none) (started : os.Started) (noInit : C.prog.inits.idxOf? f = none) (hfn : C.prog.funcs[f]? = some fn)
    (witness : ∃ (w : World) (tape : Tape) (i : Input), w.os = os ∧ (w.forCall tape i).Shaped C.prog ∧ i.vars = [] ∧ Input.okWide C.prog (w.forCall tape i) .any w.heap.size f i ∧
      s.pre6 enc C.prog fn conds apart (w.forCall tape i).memory i.args ∧ a.holds C.prog (lone (Frame.enter C.prog f i.args .normal) [] (w.forCall tape i)))
    (contract : ∀ (W : World) (base : Nat) (args : Array Value) (ds gs : List (DataW H)) (before : List MemPlace),
      (∀ (j : Nat) t v, fn.params[j]? = some t → args[j]? = some v → Value.okWide C.prog W .any base t v) →
      DataW.Whole enc C.prog fn.params.toList s.vars apart W args.toList ds gs before →
      conds.all (PathCond.test C.prog ⟨fn.params.toList, ds, s.plain.varTypes C.prog, gs⟩) = true →
      (DataW.weightsEach C.prog (fn.params.toList ++ s.plain.varTypes C.prog) (ds ++ gs)).all (· ≤ reachBytes) = true →
      a.holds C.prog (lone (Frame.enter C.prog f args .normal) [] W) →
      Calls C.prog f args W fun e W' => ∃ v, e = .returned v ∧ s.post enc C.prog fn apart fresh handsOn again W args v W') :
    ReturnsInHanded a C os f .any (s.pre6 enc C.prog fn conds apart) (s.post enc C.prog fn apart fresh handsOn again) := by
  refine returnsInHanded_of_calls own started noInit witness ?_
  intro w tape i _ _ _ hok hpre hholds
  obtain ⟨_, _, _, fn', hfn', _, _, _, _, hval⟩ := hok
  have e : fn' = fn := Option.some.inj (hfn'.symm.trans hfn)
  subst e
  obtain ⟨⟨ds, gs, before, hw, hc⟩, hz⟩ := hpre
  have hw' := DataW.Whole.of_heap (w' := w.forCall tape i) (by rfl) hw
  refine (contract (w.forCall tape i) w.heap.size i.args ds gs before hval hw' hc (hz.weights hw) hholds).mono fun e W' ⟨v, he, hp⟩ => ?_
  subst he
  exact ChangeSpec.post_blind hp
/-- .. where the walk wants the shape of the world, too. -/
theorem returnsInHanded_and_open {a : Assume} {C : Checked} {os : Os} {f : FuncId} {fn : Func} {s : ChangeSpec} {conds : List PathCond} {apart fresh handsOn again : Bool} {X : World → Array Value → Prop}
    (hX : ∀ (w w' : World) (args : Array Value), w.heap = w'.heap → X w args → X w' args)
    (own : ownKnob C.prog.godebug = none) (started : os.Started) (noInit : C.prog.inits.idxOf? f = none) (hfn : C.prog.funcs[f]? = some fn)
    (witness : ∃ (w : World) (tape : Tape) (i : Input), w.os = os ∧ (w.forCall tape i).Shaped C.prog ∧ i.vars = [] ∧ Input.okWide C.prog (w.forCall tape i) .any w.heap.size f i ∧
      ((s.pre enc C.prog fn conds apart (w.forCall tape i).memory i.args ∧ X (w.forCall tape i).memory i.args) ∧ sizedMet enc C.prog fn (OpenSpec.ofChange s) apart (w.forCall tape i).memory i.args) ∧ a.holds C.prog (lone (Frame.enter C.prog f i.args .normal) [] (w.forCall tape i)))
    (contract : ∀ (W : World) (base : Nat) (args : Array Value) (ds gs : List (DataW H)) (before : List MemPlace), W.ShapedOpen C.prog →
      (∀ (j : Nat) t v, fn.params[j]? = some t → args[j]? = some v → Value.okWide C.prog W .any base t v) →
      DataW.Whole enc C.prog fn.params.toList s.vars apart W args.toList ds gs before →
      conds.all (PathCond.test C.prog ⟨fn.params.toList, ds, s.plain.varTypes C.prog, gs⟩) = true →
      (DataW.weightsEach C.prog (fn.params.toList ++ s.plain.varTypes C.prog) (ds ++ gs)).all (· ≤ reachBytes) = true → X W args →
      a.holds C.prog (lone (Frame.enter C.prog f args .normal) [] W) →
      Calls C.prog f args W fun e W' => ∃ v, e = .returned v ∧ s.post enc C.prog fn apart fresh handsOn again W args v W') :
    ReturnsInHanded a C os f .any (fun w args => (s.pre enc C.prog fn conds apart w args ∧ X w args) ∧ sizedMet enc C.prog fn (OpenSpec.ofChange s) apart w args) (s.post enc C.prog fn apart fresh handsOn again) := by
  refine returnsInHanded_of_calls own started noInit witness ?_
  intro w tape i _ hso _ hok hpre hholds
  obtain ⟨_, _, _, fn', hfn', _, _, _, _, hval⟩ := hok
  have e : fn' = fn := Option.some.inj (hfn'.symm.trans hfn)
  subst e
  obtain ⟨⟨⟨ds, gs, before, hw, hc⟩, hx⟩, hz⟩ := hpre
  have hw' := DataW.Whole.of_heap (w' := w.forCall tape i) (by rfl) hw
  refine (contract (w.forCall tape i) w.heap.size i.args ds gs before hso hval hw' hc (hz.weights hw) (hX _ _ _ (by rfl) hx) hholds).mono fun e W' ⟨v, he, hp⟩ => ?_
  subst he
  exact ChangeSpec.post_blind hp
end Go.Proofs.YtlhkehfplcclgaaDoor
/- What the plain data of a fabric that came in reads as. -/
namespace Go.Proofs.YtlhkehfplcclgaaDoor
set_option linter.unusedVariables false
set_option linter.unusedSimpArgs false
set_option maxRecDepth 100000
open Go Go.RowKit Go.ChangeShapes Go.WideShapes Go.ChangeAt

section
variable {H : Type} {enc : TypeId × Value → H} {w : World} {base : Nat} {held : Bool}
theorem bytes_in6 {t e : TypeId} {P : Program} {fuel : Nat} {v : Value} {x : DataW H × List MemPlace} (ht : P.underlying t = some (.slice e)) (he : P.underlying e = some (.int .u8)) (hc : P.cellsOf e = 1)
    (h : DataW.trod enc P w base (fun _ => true) held fuel t [v] = some x) : ∃ c xs, IS .u8 w v c xs ∧ ∀ i, i < xs.length → 0 ≤ gi xs i ∧ gi xs i ≤ 255 := by
  rcases open_ints ht he hc h with ⟨hcs, _⟩ | ⟨x, l, c, zs, hcs, _, hl, hm, hz, _, hcell, hwz⟩
  · obtain rfl : v = .slice none 0 0 := by simpa using hcs
    exact ⟨0, [], IS.nil _ _, fun i hi => by simp at hi⟩
  · obtain rfl : v = .slice (some x) l c := by simpa using hcs
    have hr : IsRow .u8 w (some x) l c zs := .inr ⟨_, rfl, hl, hm, by simpa using hz, hcell, hwz⟩
    exact ⟨c, zs.take l, hr.is, hr.bd⟩
/-- Five cells that read as a loop of plain data. -/
theorem ld_in {fuel : Nat} {cs : List Value} {x : DataW H × List MemPlace} (h : DataW.trod enc Tryd.prog w base (fun _ => true) held fuel 110 cs = some x) :
    ∃ (l : LD) (u v : Value), l.In ∧ cs = [.int .u8 l.y, .bool l.back, .bool l.new, u, v] ∧ (∃ d, IS .u8 w u d l.thr) ∧ ∃ d, IS .u8 w v d l.past := by
  obtain ⟨xs, n, _, _, hl, hlen, hf⟩ := DataW.trod_struct Tryd.underlying110 h
  rw [show Tryd.prog.cellsOf 110 = 5 by kernel_rfl] at hl
  match cs, hl with
  | [c0, c1, c2, c3, c4], _ =>
    match xs, hlen with
    | [y0, y1, y2, y3, y4], _ =>
      have ci : Tryd.prog.cellsOf 5 = 1 := by kernel_rfl
      have cb : Tryd.prog.cellsOf 4 = 1 := by kernel_rfl
      have cl : Tryd.prog.cellsOf 25 = 1 := by kernel_rfl
      have h0 : DataW.trod enc Tryd.prog w base (fun _ => true) held n 5 (([c0, c1, c2, c3, c4].drop 0).take (Tryd.prog.cellsOf 5)) = some y0 := hf 0 _ rfl
      rw [ci] at h0
      have h1 : DataW.trod enc Tryd.prog w base (fun _ => true) held n 4 (([c0, c1, c2, c3, c4].drop 1).take (Tryd.prog.cellsOf 4)) = some y1 := hf 1 _ rfl
      rw [cb] at h1
      have h2 : DataW.trod enc Tryd.prog w base (fun _ => true) held n 4 (([c0, c1, c2, c3, c4].drop 2).take (Tryd.prog.cellsOf 4)) = some y2 := hf 2 _ rfl
      rw [cb] at h2
      have h3 : DataW.trod enc Tryd.prog w base (fun _ => true) held n 25 (([c0, c1, c2, c3, c4].drop 3).take (Tryd.prog.cellsOf 25)) = some y3 := hf 3 _ rfl
      rw [cl] at h3
      have h4 : DataW.trod enc Tryd.prog w base (fun _ => true) held n 25 (([c0, c1, c2, c3, c4].drop 4).take (Tryd.prog.cellsOf 25)) = some y4 := hf 4 _ rfl
      rw [cl] at h4
      obtain ⟨a, ha, _, wa⟩ := DataW.trod_int Tryd.underlying5 h0
      obtain ⟨f, hff, _⟩ := DataW.trod_bool Tryd.underlying4 h1
      obtain ⟨g, hgg, _⟩ := DataW.trod_bool Tryd.underlying4 h2
      obtain ⟨d3, t3, i3, b3⟩ := bytes_in6 Tryd.underlying25 Tryd.underlying5 ci (show DataW.trod enc Tryd.prog w base (fun _ => true) held n 25 [c3] = some y3 from h3)
      obtain ⟨d4, t4, i4, b4⟩ := bytes_in6 Tryd.underlying25 Tryd.underlying5 ci (show DataW.trod enc Tryd.prog w base (fun _ => true) held n 25 [c4] = some y4 from h4)
      simp at ha hff hgg
      exact ⟨⟨a, f, g, t3, t4⟩, c3, c4, ⟨wf8 wa, b3, b4⟩, by simp [ha, hff, hgg], ⟨d3, i3⟩, d4, i4⟩
theorem li_in {fuel : Nat} {v : Value} {x : DataW H × List MemPlace} (h : DataW.trod enc Tryd.prog w base (fun _ => true) held fuel 23 [v] = some x) : ∃ c xs, LI w v c xs ∧ ∀ l ∈ xs, l.In := by
  rcases Deep.open_slice Tryd.underlying23 h with ⟨hcs, _⟩ | ⟨a, len, cap, m, n, D, Pl, hcs, hb, hl, hm, hmm, _, hx⟩
  · obtain rfl : v = .slice none 0 0 := by simpa using hcs
    exact ⟨0, [], ⟨fun _ => undef, fun _ => undef, CK.nil _ _, fun i hi => by simp at hi⟩, fun s hs => by cases hs⟩
  · obtain rfl : v = .slice (some a) len cap := by simpa using hcs
    simp only [if_true] at hmm
    subst hmm
    rw [show Tryd.prog.cellsOf 110 = 5 by kernel_rfl] at hx
    have key : ∀ i, i < len → ∃ s : LD × Value × Value, s.1.In ∧ (∀ j, j < 5 → w.cell? ((a.add (i * 5)).add j) = [Value.int .u8 s.1.y, .bool s.1.back, .bool s.1.new, s.2.1, s.2.2][j]?) ∧ (∃ d, IS .u8 w s.2.1 d s.1.thr) ∧ ∃ d, IS .u8 w s.2.2 d s.1.past := fun i hi => by
      obtain ⟨cs', h1, h2⟩ := hx i (by omega)
      obtain ⟨_, _, h4⟩ := World.cells?_some h1
      obtain ⟨l, u, v, h5, rfl, h6, h7⟩ := ld_in h2
      exact ⟨(l, u, v), h5, h4, h6, h7⟩
    obtain ⟨F, hF⟩ : ∃ F : Nat → LD × Value × Value, ∀ i, i < len → (F i).1.In ∧ (∀ j, j < 5 → w.cell? ((a.add (i * 5)).add j) = [Value.int .u8 (F i).1.y, .bool (F i).1.back, .bool (F i).1.new, (F i).2.1, (F i).2.2][j]?) ∧ (∃ d, IS .u8 w (F i).2.1 d (F i).1.thr) ∧ ∃ d, IS .u8 w (F i).2.2 d (F i).1.past :=
      ⟨fun i => if h : i < len then (key i h).choose else (LD.zero, undef, undef), fun i hi => by simp only [hi, dif_pos]; exact (key i hi).choose_spec⟩
    have hsi : ∀ i, i < len → ldi ((List.range len).map fun i => (F i).1) i = (F i).1 := fun i hi => by unfold ldi; simp [List.getD, hi]
    refine ⟨m, (List.range len).map fun i => (F i).1, ⟨fun i => (F i).2.1, fun i => (F i).2.2, ⟨some a, by simp, by simpa using hl, by unfold maxLen at hm; omega, ?_⟩, fun i hi => ?_⟩, fun s hs => ?_⟩
    · by_cases h0 : m = 0
      · subst h0; exact .inl rfl
      · obtain ⟨b, o, hao⟩ : ∃ b o, a = ⟨b, o, none⟩ := by
          obtain ⟨cs', h1, h2⟩ := hx 0 (by omega)
          obtain ⟨_, h3, h4⟩ := World.cells?_some h1
          obtain ⟨l, u, v, h5, rfl, h6, h7⟩ := ld_in h2
          have := h4 0 (by omega)
          rw [Nat.zero_mul, show a.add 0 = a from by simp [Addr.add], show a.add 0 = a from by simp [Addr.add]] at this
          obtain ⟨b, o, s⟩ := a
          have hs : s = none := cell_spot this
          subst hs
          exact ⟨b, o, rfl⟩
        subst hao
        refine .inr ⟨b, o, rfl, fun i hi => ?_⟩
        have hi' : i < len := by simpa using hi
        have hk := (hF i hi').2.1
        have hg : (((List.range ((List.range len).map fun i => (F i).1).length).map fun i => [Value.int .u8 (ldi ((List.range len).map fun i => (F i).1) i).y, Value.bool (ldi ((List.range len).map fun i => (F i).1) i).back, .bool (ldi ((List.range len).map fun i => (F i).1) i).new, (F i).2.1, (F i).2.2]).getD i []) = [Value.int .u8 (F i).1.y, .bool (F i).1.back, .bool (F i).1.new, (F i).2.1, (F i).2.2] := by
          simp only [List.getD, List.length_map, List.length_range]
          rw [List.getElem?_map, List.getElem?_range hi']
          simp only [Option.map_some, Option.getD_some, hsi i hi']
        rw [hg]
        intro j hj
        have hj' : j < 5 := by simpa using hj
        have h1 := hk j hj'
        rw [Addr.add_lit, Addr.add_lit] at h1
        rw [h1, List.getElem?_eq_getElem hj]
        simp only [List.getD, List.getElem?_eq_getElem hj, Option.getD_some]
    · have hi' : i < len := by simpa using hi
      rw [hsi i hi']; exact (hF i hi').2.2
    · obtain ⟨i, hi, rfl⟩ := List.mem_map.1 hs
      exact (hF i (List.mem_range.1 hi)).1
theorem c3_in {t e : TypeId} {P : Program} {fuel : Nat} {cs : List Value} {x : DataW H × List MemPlace} {sp : Nat → Bool} (ht : P.underlying t = some (.array 3 e)) (he : P.underlying e = some (.int .u8)) (hce : P.cellsOf e = 1) (hct : P.cellsOf t = 3)
    (h : DataW.trod enc P w base sp held fuel t cs = some x) (hl : cs.length = 3) : ∃ c, C3.In c ∧ cs = C3.cs c := by
  match cs, hl with
  | [u, v, z], _ =>
    cases fuel with
    | zero => simp [DataW.trod] at h
    | succ fuel =>
      simp only [DataW.trod, ht, hce, hct, Nat.mul_one, List.length_cons, List.length_nil, if_true] at h
      · obtain ⟨xs, hm, hx⟩ := Option.map_eq_some_iff.1 h
        simp only [List.range_succ, List.range_zero, List.nil_append, List.cons_append, List.mapM_cons, List.mapM_nil] at hm
        cases h0 : DataW.trod enc P w base sp held fuel e (([u, v, z].drop 0).take 1) with
        | none => simp at h0; simp [h0] at hm
        | some y0 =>
          cases h1 : DataW.trod enc P w base sp held fuel e (([u, v, z].drop 1).take 1) with
          | none => simp at h0 h1; simp [h0, h1] at hm
          | some y1 =>
            cases h2 : DataW.trod enc P w base sp held fuel e (([u, v, z].drop 2).take 1) with
            | none => simp at h0 h1 h2; simp [h0, h1, h2] at hm
            | some y2 =>
              obtain ⟨a, ha, _, wa⟩ := DataW.trod_int he h0
              obtain ⟨b, hb, _, wb⟩ := DataW.trod_int he h1
              obtain ⟨c, hc, _, wc⟩ := DataW.trod_int he h2
              simp at ha hb hc
              exact ⟨(a, b, c), ⟨wf8 wa, wf8 wb, wf8 wc⟩, by simp [C3.cs, ha, hb, hc]⟩
theorem cl3_in {fuel : Nat} {v : Value} {x : DataW H × List MemPlace} (h : DataW.trod enc Tryd.prog w base (fun _ => true) held fuel 26 [v] = some x) : ∃ c xs, CL3 w v c xs ∧ ∀ l ∈ xs, C3.In l := by
  rcases Deep.open_slice Tryd.underlying26 h with ⟨hcs, _⟩ | ⟨a, len, cap, m, n, D, Pl, hcs, hb, hl, hm, hmm, _, hx⟩
  · obtain rfl : v = .slice none 0 0 := by simpa using hcs
    exact ⟨0, [], CK.nil _ _, fun s hs => by cases hs⟩
  · obtain rfl : v = .slice (some a) len cap := by simpa using hcs
    simp only [if_true] at hmm
    subst hmm
    have h3 : Tryd.prog.cellsOf 70 = 3 := by kernel_rfl
    rw [h3] at hx
    have key0 : ∀ i, i < m → ∃ s, C3.In s ∧ ∀ j, j < 3 → w.cell? ((a.add (i * 3)).add j) = (C3.cs s)[j]? := fun i hi => by
      obtain ⟨cs', h1, h2⟩ := hx i hi
      obtain ⟨h6, h7, h4⟩ := World.cells?_some h1
      obtain ⟨s, h5, rfl⟩ := c3_in Tryd.underlying70 Tryd.underlying5 (by kernel_rfl) h3 h2 (by omega)
      exact ⟨s, h5, h4⟩
    have key : ∀ i, i < len → ∃ s, C3.In s ∧ ∀ j, j < 3 → w.cell? ((a.add (i * 3)).add j) = (C3.cs s)[j]? := fun i hi => key0 i (by omega)
    obtain ⟨F, hF⟩ : ∃ F : Nat → Int × Int × Int, ∀ i, i < len → C3.In (F i) ∧ ∀ j, j < 3 → w.cell? ((a.add (i * 3)).add j) = (C3.cs (F i))[j]? :=
      ⟨fun i => if h : i < len then (key i h).choose else (0, 0, 0), fun i hi => by simp only [hi, dif_pos]; exact (key i hi).choose_spec⟩
    refine ⟨m, (List.range len).map F, ⟨some a, by simp, by simpa using hl, by unfold maxLen at hm; omega, ?_⟩, fun s hs => ?_⟩
    · by_cases h0 : m = 0
      · subst h0; exact .inl rfl
      · obtain ⟨b, o, hao⟩ : ∃ b o, a = ⟨b, o, none⟩ := by
          obtain ⟨s, _, h4⟩ := key0 0 (by omega)
          have := h4 0 (by omega)
          rw [Nat.zero_mul, show a.add 0 = a from by simp [Addr.add], show a.add 0 = a from by simp [Addr.add]] at this
          obtain ⟨b, o, s⟩ := a
          have hs : s = none := cell_spot this
          subst hs
          exact ⟨b, o, rfl⟩
        subst hao
        refine .inr ⟨b, o, rfl, fun i hi => ?_⟩
        have hi' : i < len := by simpa using hi
        have hg : (((List.range len).map F).map C3.cs).getD i [] = C3.cs (F i) := by simp [List.getD, hi']
        rw [hg]
        intro j hj
        have hj' : j < 3 := by simpa [C3.cs] using hj
        have h1 := (hF i hi').2 j hj'
        rw [Addr.add_lit, Addr.add_lit] at h1
        rw [h1, List.getElem?_eq_getElem hj]
        simp only [List.getD, List.getElem?_eq_getElem hj, Option.getD_some]
    · obtain ⟨i, hi, rfl⟩ := List.mem_map.1 hs
      exact (hF i (List.mem_range.1 hi)).1
theorem wfu64 {n : Int} (h : (Lit.int .u64 n).wf = true) : 0 ≤ n ∧ n < 18446744073709551616 := by
  unfold Lit.wf at h
  simp only [Bool.and_eq_true, decide_eq_true_eq] at h
  have h1 : (0 : Int) ≤ n ∧ n ≤ 18446744073709551615 := h
  omega
end
/-- The plain data of a fabric, as it comes in. -/
def FxIn (w : World) (v : Value) : Prop := ∃ tv fal hv cv x, v = .agg #[tv, .int .u64 fal, hv, cv] ∧ FDm w tv fal hv cv x
theorem open_F {H : Type} {enc : TypeId × Value → H} {w : World} {b0 : Nat} {v : Value} {d : DataW H} {p : List MemPlace}
    (hv : Value.okWide Tryd.prog w .any b0 28 v) (h : DataW.Trod enc Tryd.prog w 0 (fun _ => true) true 28 v d p) : FxIn w v := by
  obtain ⟨v0, v1, v2, v3, y0, y1, y2, y3, n, rfl, _, _, g0, g1, g2, g3⟩ := Joins.open_agg4 Tryd.underlying28 (by kernel_rfl) (show Tryd.prog.cellsOf 28 = 4 by kernel_rfl) hv h
  obtain ⟨ct, xs, h1, h2⟩ := li_in g0
  obtain ⟨f, hf, _, wf⟩ := DataW.trod_int Tryd.underlying24 g1
  obtain rfl : v1 = .int .u64 f := by simpa using hf
  obtain ⟨ch, hs, h3, h4⟩ := bytes_in6 Tryd.underlying25 Tryd.underlying5 (by kernel_rfl) g2
  obtain ⟨cc, cs, h5, h6⟩ := cl3_in g3
  exact ⟨v0, f, v2, v3, ⟨xs, f, hs, cs⟩, rfl, ⟨⟨ct, h1⟩, rfl, ⟨ch, h3⟩, ⟨cc, h5⟩, h2, wfu64 wf, h4, h6⟩⟩
end Go.Proofs.YtlhkehfplcclgaaDoor
