/- The map from names to numbers. -/
import Derived.Test.YtlhkehfplcclgaaDoorVe
import Derived.WideKeyEntry
import Derived.DeepKeys5
namespace Go.Proofs.YtlhkehfplcclgaaDoor
set_option linter.unusedVariables false
set_option linter.unusedSimpArgs false
set_option maxRecDepth 8000
open Go Go.RowKit
open Go.ChangeMaps (setBlock heap_setBlock_same heap_setBlock_other)

theorem laidB : laidOutB Tryd.prog = true := by kernel_rfl
theorem nmLaw : WideMaps.KeyLaw Tryd.prog 41 := deep_law_laid laidB (m := 2) (by omega) (of_decide_eq_true (by kernel_rfl)) (by kernel_rfl) (by kernel_rfl)
theorem nmKeyType : Tryd.prog.keyType 41 = true := by kernel_rfl
theorem nmCells : Tryd.prog.cellsOf 41 = 2 ∧ Tryd.prog.cellsOf 5 = 1 ∧ Tryd.prog.cellsOf 3 = 1 := ⟨by kernel_rfl, by kernel_rfl, by kernel_rfl⟩
theorem nmRow : (41 : TypeId) < Tryd.prog.types.size := of_decide_eq_true (by kernel_rfl)
theorem mwf8 {a : Int} (h : 0 ≤ a ∧ a ≤ 255) : (Lit.int .u8 a).wf = true := by
  have h1 : IntKind.u8.min = 0 := by decide
  have h2 : IntKind.u8.max = 255 := by decide
  simp [Lit.wf, h1, h2]; omega
theorem mwf64 {a : Int} (h : -9223372036854775808 ≤ a ∧ a ≤ 9223372036854775807) : (Lit.int .i64 a).wf = true := by
  have h1 : IntKind.i64.min = -9223372036854775808 := by decide
  have h2 : IntKind.i64.max = 9223372036854775807 := by decide
  simp [Lit.wf, h1, h2]; omega
theorem nm_key {a : Nm} (h : a.In) : ∃ kl, keyOf Tryd.prog 41 a.val = some kl := by
  obtain ⟨c1, c2, c3⟩ := nmCells
  have w1 := mwf8 h.1
  have w2 := mwf64 h.2
  obtain ⟨m, hm⟩ : ∃ m, Tryd.prog.types.size = m + 1 := ⟨Tryd.prog.types.size - 1, by have := Nat.lt_of_le_of_lt (Nat.zero_le _) nmRow; omega⟩
  have k5 : Tryd.prog.keyLits (m + 1) 5 [Value.int .u8 a.y] = some [.int .u8 a.y] := by simp [Program.keyLits, Tryd.underlying5, w1]
  have k3 : Tryd.prog.keyLits (m + 1) 3 [Value.int .i64 a.n] = some [.int .i64 a.n] := by simp [Program.keyLits, Tryd.underlying3, w2]
  refine Option.isSome_iff_exists.1 ?_
  unfold keyOf Nm.val
  simp only [Tryd.underlying41, nmKeyType, Value.formed, c1, hm]
  unfold Program.keyLits
  simp [Tryd.underlying41, c1, c2, c3, Value.cells, k5, k3]
/-- The entries of a map that holds f. -/
structure ME (es : Array MapEntry) (clock : Nat) (f : Nm → Int) : Prop where
  ent : ∀ e ∈ es.toList, ∃ a : Nm, a.In ∧ e.key = a.val ∧ e.val = .int .i64 (f a)
  born : ∀ e ∈ es.toList, e.born < clock
  nd : (es.toList.map (·.born)).Nodup
  kd : (es.toList.map (·.key)).Nodup
  cov : ∀ a : Nm, f a ≠ 0 → ∃ e ∈ es.toList, e.key = a.val
theorem Nm.val_inj {a b : Nm} (h : a.val = b.val) : a = b := by
  obtain ⟨y, n⟩ := a; obtain ⟨z, m⟩ := b
  simp [Nm.val] at h
  obtain ⟨rfl, rfl⟩ := h; rfl
theorem ME.find {es : Array MapEntry} {clock : Nat} {f : Nm → Int} (h : ME es clock f) (w : World) {a : Nm} (ha : a.In) :
    ((Instr.findKey 41 a.val es.toList).run Tryd.prog w = .ok none w ∧ f a = 0 ∧ ∀ e ∈ es.toList, e.key ≠ a.val) ∨ ∃ j e, (Instr.findKey 41 a.val es.toList).run Tryd.prog w = .ok (some (j, .int .i64 (f a))) w ∧ es[j]? = some e ∧ e.key = a.val ∧ e.val = .int .i64 (f a) := by
  obtain ⟨kl, hk⟩ := nm_key ha
  rcases nmLaw.find w hk es.toList (fun e he => by obtain ⟨b, hb, e1, _⟩ := h.ent e he; rw [e1]; exact nm_key hb) with ⟨h1, h2⟩ | ⟨j, e, h1, h2, h3⟩
  · refine .inl ⟨h1, ?_, h2⟩
    by_cases h0 : f a = 0
    · exact h0
    · obtain ⟨e, he, e1⟩ := h.cov a h0; exact absurd e1 (h2 e he)
  · obtain ⟨b, _, e1, e2⟩ := h.ent e (List.mem_of_getElem? h2)
    obtain rfl : b = a := Nm.val_inj (by rw [← e1, h3])
    rw [e2] at h1
    exact .inr ⟨j, e, h1, by simpa using h2, h3, e2⟩
theorem nm_check {a : Nm} (ha : a.In) (w : World) (b : Bool) : (Instr.checkKey b 10000 41 a.val).run Tryd.prog w = .ok () w := by
  obtain ⟨kl, hk⟩ := nm_key ha
  exact nmLaw.check w b hk
theorem zeroI (w : World) : (zeroValue 3).run Tryd.prog w = .ok (.int .i64 0) w := by kernel_rfl
/-- m[k]. -/
theorem ME.look {es : Array MapEntry} {clock : Nat} {f : Nm → Int} (h : ME es clock f) {w : World} {b : Nat} (hb : w.heap[b]? = some (.map es clock)) {a : Nm} (ha : a.In) :
    (Instr.lookup 117 (.map (some b)) a.val false).run Tryd.prog w = .ok (.int .i64 (f a)) w := by
  rcases h.find w ha with ⟨h1, h2, _⟩ | ⟨j, e, h1, h2, h3, h4⟩
  · rw [h2]; simp [Instr.lookup, run_underlying Tryd.underlying117, MapKept.run_getObj_map hb, nm_check ha, h1, zeroI, Result.andThen]
  · simp [Instr.lookup, run_underlying Tryd.underlying117, MapKept.run_getObj_map hb, nm_check ha, h1, Result.andThen]
/-- The entry of a key, made if there is none. -/
theorem ME.entry {es : Array MapEntry} {clock : Nat} {f : Nm → Int} (h : ME es clock f) {w : World} {b : Nat} (hb : w.heap[b]? = some (.map es clock)) {a : Nm} (ha : a.In) :
    ∃ es1 clock1 st, (Instr.mapEntry 117 (.map (some b)) a.val).run Tryd.prog w = .ok (.tuple #[.int .i64 (f a), .int .i64 (st : Nat)]) (setBlock w b (.map es1 clock1)) ∧ ME es1 clock1 f ∧ ∃ (i : Nat) (e : MapEntry), es1[i]? = some e ∧ e.key = a.val ∧ e.born = st := by
  obtain ⟨kl, hk⟩ := nm_key ha
  rcases h.find w ha with ⟨h1, h2, h3⟩ | ⟨j, e, h1, h2, h3, h4⟩
  · refine ⟨es.push ⟨a.val, .int .i64 0, clock⟩, clock + 1, clock, ?_, ⟨?_, ?_, ?_, ?_, ?_⟩, es.size, _, Array.getElem?_push_size .., rfl, rfl⟩
    · rw [h2]; simp [Instr.mapEntry, run_underlying Tryd.underlying117, MapKept.run_getObj_map hb, nm_check ha, h1, zeroI, MapKept.run_setObj_map _ hb, Result.andThen, setBlock, goInt]
    · intro e he
      simp only [Array.toList_push, List.mem_append, List.mem_singleton] at he
      rcases he with he | rfl
      · exact h.ent e he
      · exact ⟨a, ha, rfl, by rw [h2]⟩
    · intro e he
      simp only [Array.toList_push, List.mem_append, List.mem_singleton] at he
      rcases he with he | rfl
      · have := h.born e he; omega
      · exact Nat.lt_succ_self _
    · simp only [Array.toList_push, List.map_append, List.map_cons, List.map_nil]
      refine List.nodup_append.2 ⟨h.nd, by simp, fun x hx y hy e1 => ?_⟩
      simp only [List.mem_singleton] at hy
      obtain ⟨z, hz, rfl⟩ := List.mem_map.1 hx
      have := h.born z hz
      omega
    · simp only [Array.toList_push, List.map_append, List.map_cons, List.map_nil]
      refine List.nodup_append.2 ⟨h.kd, by simp, fun x hx y hy e1 => ?_⟩
      simp only [List.mem_singleton] at hy
      obtain ⟨z, hz, rfl⟩ := List.mem_map.1 hx
      exact h3 z hz (by rw [e1, hy])
    · intro c hc
      obtain ⟨e, he, e1⟩ := h.cov c hc
      exact ⟨e, by simp [he], e1⟩
  · have hsame : es.modify j (fun e => { e with key := a.val }) = es := by
      apply Array.ext'
      rw [Array.toList_modify, ChangeMaps.modify_eq_set _ _ _ _ (show es.toList[j]? = some e by simpa using h2)]
      have : ({ e with key := a.val } : MapEntry) = e := by rw [← h3]
      rw [this]
      exact WideElems.set_self _ _ _ (by simpa using h2)
    refine ⟨es, clock, e.born, ?_, h, j, e, h2, h3, rfl⟩
    simp [Instr.mapEntry, run_underlying Tryd.underlying117, MapKept.run_getObj_map hb, nm_check ha, h1, h2, h3, nmLaw.stays w hk, hsame, MapKept.run_setObj_map _ hb, Result.andThen, setBlock, goInt]
/-- f, but x at a. -/
def upN (f : Nm → Int) (a : Nm) (x : Int) : Nm → Int := fun b => if b = a then x else f b
theorem ME.store {es : Array MapEntry} {clock : Nat} {f : Nm → Int} (h : ME es clock f) {w : World} {b : Nat} (hb : w.heap[b]? = some (.map es clock)) {a : Nm} {i : Nat} {e : MapEntry} (hi : es[i]? = some e) (hk : e.key = a.val) (x : Int) :
    ∃ es', (Instr.entryStore 117 (.map (some b)) (.int .i64 (e.born : Nat)) (.int .i64 x)).run Tryd.prog w = .ok () (setBlock w b (.map es' clock)) ∧ ME es' clock (upN f a x) := by
  have hi2 : es.toList[i]? = some e := by simpa using hi
  have hidx : es.findIdx? (fun y => ((y.born : Nat) : Int) == ((e.born : Nat) : Int)) = some i := by
    rw [WideElems.findIdx_arr]; exact WideElems.findIdx_born h.nd hi2
  have hml : (es.modify i fun y => { y with val := .int .i64 x }).toList = es.toList.set i { e with val := .int .i64 x } := by
    rw [Array.toList_modify, ChangeMaps.modify_eq_set _ _ _ _ hi2]
  have hlt : i < es.toList.length := (List.getElem?_eq_some_iff.1 hi2).1
  have hei : es.toList[i] = e := (List.getElem?_eq_some_iff.1 hi2).2
  refine ⟨es.modify i fun y => { y with val := .int .i64 x }, ?_, ?_⟩
  · simp [Instr.entryStore, MapKept.run_getObj_map hb, asInt, asIntOf, hidx, MapKept.run_setObj_map _ hb, Result.andThen, setBlock]
  · have hmk : ((es.modify i fun y => { y with val := .int .i64 x }).toList.map (·.key)) = es.toList.map (·.key) := by
      rw [hml, List.map_set]
      refine List.ext_getElem (by simp) fun j h1 h2 => ?_
      rw [List.getElem_set]
      split
      · rename_i hij; subst hij; simp [hei]
      · rfl
    have hmb : ((es.modify i fun y => { y with val := .int .i64 x }).toList.map (·.born)) = es.toList.map (·.born) := by
      rw [hml, List.map_set]
      refine List.ext_getElem (by simp) fun j h1 h2 => ?_
      rw [List.getElem_set]
      split
      · rename_i hij; subst hij; simp [hei]
      · rfl
    have hent : ∀ (j : Nat) (y : MapEntry), es.toList[j]? = some y → j ≠ i → y.key ≠ a.val := fun j y hy hne he => by
      have h1 := h.kd
      have hjl := (List.getElem?_eq_some_iff.1 hy).1
      have := (List.getElem_inj (h₀ := by simpa using hjl) (h₁ := by simpa using hlt) h1).1 (by rw [List.getElem_map, List.getElem_map, hei, hk, (List.getElem?_eq_some_iff.1 hy).2, he])
      exact hne this
    refine ⟨fun y hy => ?_, fun y hy => ?_, by rw [hmb]; exact h.nd, by rw [hmk]; exact h.kd, fun c hc => ?_⟩
    · rw [hml] at hy
      obtain ⟨j, hj, rfl⟩ := List.mem_iff_getElem.1 hy
      rw [List.getElem_set]
      obtain ⟨c, hc, e1, e2⟩ := h.ent e (List.mem_of_getElem? hi2)
      obtain rfl : c = a := Nm.val_inj (by rw [← e1, hk])
      split
      · exact ⟨c, hc, e1, by unfold upN; simp⟩
      · rename_i hne
        have hjl : j < es.toList.length := by simpa using hj
        obtain ⟨d, hd, e3, e4⟩ := h.ent es.toList[j] (List.getElem_mem hjl)
        refine ⟨d, hd, e3, ?_⟩
        have hda : d ≠ c := fun hdc => hent j _ (List.getElem?_eq_getElem hjl) (fun e => hne e.symm) (by rw [e3, hdc])
        rw [e4]; unfold upN; rw [if_neg hda]
    · rw [hml] at hy
      obtain ⟨j, hj, rfl⟩ := List.mem_iff_getElem.1 hy
      rw [List.getElem_set]
      split
      · exact h.born e (List.mem_of_getElem? hi2)
      · exact h.born _ (List.getElem_mem _)
    · have hkeys : a.val ∈ es.toList.map (·.key) := List.mem_map.2 ⟨e, List.mem_of_getElem? hi2, hk⟩
      have : c.val ∈ es.toList.map (·.key) := by
        by_cases hca : c = a
        · rw [hca]; exact hkeys
        · unfold upN at hc; rw [if_neg hca] at hc
          obtain ⟨y, hy, e1⟩ := h.cov c hc
          exact List.mem_map.2 ⟨y, hy, e1⟩
      rw [← hmk] at this
      obtain ⟨y, hy, e1⟩ := List.mem_map.1 this
      exact ⟨y, hy, e1⟩
theorem ME.new : ME #[] 0 (fun _ => 0) := ⟨by simp, by simp, by simp, by simp, by simp⟩
/-- Block b is a map that holds f. -/
def MB (w : World) (b : Nat) (f : Nm → Int) : Prop := ∃ es clock, w.heap[b]? = some (.map es clock) ∧ ME es clock f
theorem MB.made (w : World) : MB (w.alloc (.map #[] 0)) w.heap.size (fun _ => 0) := ⟨#[], 0, (MapKept.heap_alloc w _).1, ME.new⟩
theorem setBlock_grown {w : World} {b : Nat} {es : Array MapEntry} {clock : Nat} (hb : w.heap[b]? = some (.map es clock)) (o : Obj) : w.grownBy (setBlock w b o) (some b) := ⟨rfl, rfl, rfl, by simp [setBlock], fun i _ hi => heap_setBlock_other hb _ (fun e => hi (by rw [e]))⟩
theorem MB.kept {w w' : World} {b : Nat} {row : Option Nat} {f : Nm → Int} (h : MB w b f) (hg : w.grownBy w' row) (hne : some b ≠ row) : MB w' b f := by
  obtain ⟨es, clock, hb, hm⟩ := h
  exact ⟨es, clock, (hg.block b (Array.getElem?_eq_some_iff.1 hb).1 hne).trans hb, hm⟩
theorem MB.ext {w w' : World} {b : Nat} {f : Nm → Int} (h : MB w b f) (x : Ext w w') : MB w' b f := by
  obtain ⟨es, clock, hb, hm⟩ := h
  exact ⟨es, clock, x.block hb, hm⟩
/-- m[k]++ step by step, in whatever order the look-up comes. -/
theorem MB.incr {w : World} {b : Nat} {f : Nm → Int} (h : MB w b f) {a : Nm} (ha : a.In) (x : Int) :
    ∃ st w2 w3, (Instr.lookup 117 (.map (some b)) a.val false).run Tryd.prog w = .ok (.int .i64 (f a)) w ∧
      (Instr.mapEntry 117 (.map (some b)) a.val).run Tryd.prog w = .ok (.tuple #[.int .i64 (f a), .int .i64 (st : Nat)]) w2 ∧
      (Instr.lookup 117 (.map (some b)) a.val false).run Tryd.prog w2 = .ok (.int .i64 (f a)) w2 ∧
      (Instr.entryStore 117 (.map (some b)) (.int .i64 (st : Nat)) (.int .i64 x)).run Tryd.prog w2 = .ok () w3 ∧ MB w3 b (upN f a x) ∧ w.grownBy w2 (some b) ∧ w.grownBy w3 (some b) := by
  obtain ⟨es, clock, hb, hm⟩ := h
  obtain ⟨es1, clock1, st, h1, hm1, i, e, h2, h3, rfl⟩ := hm.entry hb ha
  have hb2 : (setBlock w b (.map es1 clock1)).heap[b]? = some (.map es1 clock1) := heap_setBlock_same hb _
  obtain ⟨es', h4, h5⟩ := hm1.store hb2 h2 h3 x
  exact ⟨e.born, _, _, hm.look hb ha, h1, hm1.look hb2 ha, h4, ⟨es', clock1, heap_setBlock_same hb2 _, h5⟩, setBlock_grown hb _, (setBlock_grown hb _).trans (setBlock_grown hb2 _)⟩
end Go.Proofs.YtlhkehfplcclgaaDoor
