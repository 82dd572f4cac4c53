/- Texts of this claim in one file: libraries and walks. -/
import Derived.Deep.LoopGhost
import Derived.Outline
import Derived.Test.YthllbcjglcplhaaDoorL1
/- What charts.Loads computes, in plain Lean, and the list of rows that it builds in memory. -/
namespace Go.Proofs.YthllbcjglcplhaaDoor
set_option linter.unusedVariables false
set_option linter.unusedSimpArgs false
open Go Go.RowKit

/-- A row's stitches on the slots before it: the error, and the slots behind it. -/
def ldRow : List St → List Int → List Int → Int × List Int
  | [], _, acc => (0, acc)
  | s :: r, bf, acc => if s.lerr (bf.take s.need.toNat) ≠ 0 then (s.lerr (bf.take s.need.toNat), []) else ldRow r (bf.drop s.need.toNat) (acc ++ s.lmade (bf.take s.need.toNat))
def ldRows : List (List St) → List Int → List (List Int) → Int × List (List Int)
  | [], _, acc => (0, acc)
  | r :: rs, bf, acc => if (ldRow r bf []).1 ≠ 0 then ((ldRow r bf []).1, []) else ldRows rs (ldRow r bf []).2 (acc ++ [(ldRow r bf []).2])
def first (rows : List (List St)) : List Int := List.replicate (rneed (sw rows 0)).toNat 1
/-- The error of a chart, and the numbers of loops of its slots. -/
def cloads (rows : List (List St)) : Int × List (List Int) := if cerr rows ≠ 0 then (cerr rows, []) else ldRows rows (first rows) [first rows]

theorem drop_si {r : List St} {k : Nat} (h : k < r.length) : r.drop k = si r k :: r.drop (k + 1) := by rw [si_of_lt h]; exact List.drop_eq_getElem_cons h
theorem drop_sw {r : List (List St)} {k : Nat} (h : k < r.length) : r.drop k = sw r k :: r.drop (k + 1) := by rw [sw_of_lt h]; exact List.drop_eq_getElem_cons h
theorem ldRow_bad {r : List St} {k : Nat} (h : k < r.length) {bf acc : List Int} (hb : (si r k).lerr (bf.take (si r k).need.toNat) ≠ 0) : ldRow (r.drop k) bf acc = ((si r k).lerr (bf.take (si r k).need.toNat), []) := by
  rw [drop_si h, ldRow, if_pos hb]
theorem ldRow_next {r : List St} {k : Nat} (h : k < r.length) {bf acc : List Int} (hb : (si r k).lerr (bf.take (si r k).need.toNat) = 0) : ldRow (r.drop k) bf acc = ldRow (r.drop (k + 1)) (bf.drop (si r k).need.toNat) (acc ++ (si r k).lmade (bf.take (si r k).need.toNat)) := by
  rw [drop_si h, ldRow, if_neg (by omega)]
theorem ldRow_end {r : List St} {k : Nat} (h : r.length ≤ k) {bf acc : List Int} : ldRow (r.drop k) bf acc = (0, acc) := by rw [List.drop_eq_nil_of_le h]; rfl
theorem ldRows_bad {r : List (List St)} {k : Nat} (h : k < r.length) {bf : List Int} {acc : List (List Int)} (hb : (ldRow (sw r k) bf []).1 ≠ 0) : ldRows (r.drop k) bf acc = ((ldRow (sw r k) bf []).1, []) := by
  rw [drop_sw h, ldRows, if_pos hb]
theorem ldRows_next {r : List (List St)} {k : Nat} (h : k < r.length) {bf : List Int} {acc : List (List Int)} (hb : (ldRow (sw r k) bf []).1 = 0) : ldRows (r.drop k) bf acc = ldRows (r.drop (k + 1)) (ldRow (sw r k) bf []).2 (acc ++ [(ldRow (sw r k) bf []).2]) := by
  rw [drop_sw h, ldRows, if_neg (by omega)]
theorem ldRows_end {r : List (List St)} {k : Nat} (h : r.length ≤ k) {bf : List Int} {acc : List (List Int)} : ldRows (r.drop k) bf acc = (0, acc) := by rw [List.drop_eq_nil_of_le h]; rfl
theorem rneed_drop {r : List St} {k : Nat} (h : k < r.length) : rneed (r.drop k) = (si r k).need + rneed (r.drop (k + 1)) := by rw [drop_si h, rneed_cons]
theorem rmake_drop {r : List St} {k : Nat} (h : k < r.length) : rmake (r.drop k) = (si r k).make + rmake (r.drop (k + 1)) := by rw [drop_si h, rmake_cons]
theorem lmade_len {s : St} {xs : List Int} (h : s.lerr xs = 0) : (s.lmade xs).length = s.make.toNat := by
  have hc : s.chk = 0 := by
    rcases St.chk_cases s with e | e
    · exact e
    · rw [lerr_chk (by omega)] at h; omega
  have hm : s.make = if s.k = 8 then s.a + s.b else 1 := by unfold St.make; rw [if_neg (by omega)]
  unfold St.lmade
  rw [if_neg (by omega)]
  by_cases h6 : s.k = 6
  · rw [if_pos h6, hm, if_neg (by omega)]; rfl
  · rw [if_neg h6]
    by_cases h7 : s.k = 7
    · rw [if_pos h7, hm, if_neg (by omega)]; rfl
    · rw [if_neg h7]; simp

/-! ### The list of rows in memory -/
/-- Block g holds the slices of the rows laid so far; each row lies in a block of its own. -/
structure LS (eI eR : TypeId) (w wr : World) (g n : Nat) (rows : List (List Int)) (q : Nat → Nat) : Prop where
  ext : Ext w wr
  own : wr.ownsRow g eR 1 (.slice (some ⟨g, 0, none⟩) rows.length n) rows.length ((List.range rows.length).map fun j => .slice (some ⟨q j, 0, none⟩) (ri rows j).length (ri rows j).length)
  cells : ∀ j, j < rows.length → q j ≠ g ∧ (ri rows j).length ≤ maxLen ∧ wr.rowIs (q j) eI (ri rows j).length (fun i => .int .i64 (gi (ri rows j) i))
theorem LS.later {eI eR : TypeId} {w wr wr' : World} {g n : Nat} {rows : List (List Int)} {q : Nat → Nat} (h : LS eI eR w wr g n rows q) (x : Ext wr wr') : LS eI eR w wr' g n rows q :=
  ⟨h.ext.trans x, own_ext h.own x, fun j hj => ⟨(h.cells j hj).1, (h.cells j hj).2.1, x.row (h.cells j hj).2.2⟩⟩
theorem LS.is {eI eR : TypeId} {w wr : World} {g n : Nat} {rows : List (List Int)} {q : Nat → Nat} (h : LS eI eR w wr g n rows q) {j : Nat} (hj : j < rows.length) : IS .i64 wr (.slice (some ⟨q j, 0, none⟩) (ri rows j).length (ri rows j).length) (ri rows j).length (ri rows j) :=
  IS.of_row (h.cells j hj).2.2 rfl (h.cells j hj).2.1 (fun i hi => rfl)
theorem LS.at {eI eR : TypeId} {w wr : World} {g n : Nat} {rows : List (List Int)} {q : Nat → Nat} (h : LS eI eR w wr g n rows q) {j : Nat} (hj : j < rows.length) : wr.cell? ⟨g, j, none⟩ = some (.slice (some ⟨q j, 0, none⟩) (ri rows j).length (ri rows j).length) := by
  obtain ⟨g', cap, f, hv, _, _, hnc, _, hrow, hf⟩ := own_open h.own (by omega)
  simp only [Value.slice.injEq, Option.some.injEq, Addr.mk.injEq, and_true, true_and] at hv
  obtain ⟨rfl, rfl⟩ := hv
  rw [hrow.cell (by omega), hf j (.slice (some ⟨q j, 0, none⟩) (ri rows j).length (ri rows j).length) (by simp [hj])]
theorem LS.lt {eI eR : TypeId} {w wr : World} {g n : Nat} {rows : List (List Int)} {q : Nat → Nat} (h : LS eI eR w wr g n rows q) (h0 : 0 < rows.length) : g < wr.heap.size ∧ rows.length ≤ n ∧ n ≤ maxLen := by
  obtain ⟨g', cap, f, hv, _, hlt, hnc, hcm, _, _⟩ := own_open h.own h0
  simp only [Value.slice.injEq, Option.some.injEq, Addr.mk.injEq, and_true, true_and] at hv
  obtain ⟨rfl, rfl⟩ := hv
  exact ⟨hlt, hnc, hcm⟩
theorem ri_app (a : List (List Int)) (x : List Int) {j : Nat} (h : j < a.length) : ri (a ++ [x]) j = ri a j := by unfold ri; simp [List.getD, List.getElem?_append_left h]
theorem ri_new (a : List (List Int)) (x : List Int) : ri (a ++ [x]) a.length = x := by unfold ri; simp [List.getD]
theorem LS.push {eI eR : TypeId} {w wr w' : World} {g n p : Nat} {rows : List (List Int)} {q : Nat → Nat} {new : List Int} (h : LS eI eR w wr g n rows q) (hg : w.heap.size ≤ g) (hp : p ≠ g) (hm : new.length ≤ maxLen)
    (hr : wr.rowIs p eI new.length (fun i => .int .i64 (gi new i)))
    (hown : w'.ownsRow g eR 1 (.slice (some ⟨g, 0, none⟩) (rows.length + 1) n) (rows.length + 1) (((List.range rows.length).map fun j => .slice (some ⟨q j, 0, none⟩) (ri rows j).length (ri rows j).length) ++ [.slice (some ⟨p, 0, none⟩) new.length new.length]))
    {o : Obj} (hgr : (wr.alloc o).grownBy w' (some g)) : LS eI eR w w' g n (rows ++ [new]) (fun j => if j = rows.length then p else q j) := by
  have keep : ∀ (b : Nat) (m : Nat) (f : Nat → Value), b ≠ g → wr.rowIs b eI m f → w'.rowIs b eI m f := fun b m f hb hr => by
    have h2 := ((Ext.refl wr).alloc o).row hr
    exact h2.of_block (hgr.block b h2.lt (fun e => hb (Option.some.inj e)))
  refine ⟨(h.ext.alloc o).grown hgr (fun k hk => by rw [← Option.some.inj hk]; exact hg), ?_, fun j hj => ?_⟩
  · rw [List.length_append, List.length_singleton]
    have e : ((List.range (rows.length + 1)).map fun j => Value.slice (some ⟨(if j = rows.length then p else q j), 0, none⟩) (ri (rows ++ [new]) j).length (ri (rows ++ [new]) j).length) = ((List.range rows.length).map fun j => .slice (some ⟨q j, 0, none⟩) (ri rows j).length (ri rows j).length) ++ [.slice (some ⟨p, 0, none⟩) new.length new.length] := by
      rw [List.range_succ, List.map_append]
      congr 1
      · refine List.map_congr_left fun j hj => ?_
        have hj := List.mem_range.1 hj
        rw [if_neg (by omega), ri_app _ _ hj]
      · simp [ri_new]
    rw [e]; exact hown
  · rw [List.length_append, List.length_singleton] at hj
    by_cases e : j = rows.length
    · subst e
      simp only [if_true, ri_new]
      exact ⟨hp, hm, keep _ _ _ hp hr⟩
    · simp only [if_neg e, ri_app rows new (show j < rows.length by omega)]
      have := h.cells j (by omega)
      exact ⟨this.1, this.2.1, keep _ _ _ this.1 this.2.2⟩
theorem LS.ret {eI eR : TypeId} {w wr : World} {g n : Nat} {rows : List (List Int)} {q : Nat → Nat} (h : LS eI eR w wr g n rows q) (hn : rows.length = n) (h0 : 0 < n) : ISX .i64 wr (.slice (some ⟨g, 0, none⟩) n n) n rows := by
  have hlt := h.lt (by omega)
  refine ⟨fun j => .slice (some ⟨q j, 0, none⟩) (ri rows j).length (ri rows j).length, ISV.mk' hn.symm (Nat.le_refl _) hlt.2.2 (fun j hj => ?_) (fun j hj => h.is (by omega))⟩
  rw [Nat.zero_add]; exact h.at (by omega)
end Go.Proofs.YthllbcjglcplhaaDoor
/- Contract of charts.Loads. -/
namespace Go.Proofs.YthllbcjglcplhaaDoor
set_option linter.unusedVariables false
set_option linter.unusedSimpArgs false
set_option maxRecDepth 100000
open Go Go.RowKit

theorem eiInt : EI Tryd.prog 68 3 (.int .i64 0) 8 := ⟨Tryd.underlying68, by kernel_rfl, rfl⟩
theorem eiRow : EI Tryd.prog 44 68 (.slice Option.none 0 0) 24 := ⟨Tryd.underlying44, by kernel_rfl, rfl⟩
theorem run_make_lc {P : Program} {t e : TypeId} {z : Value} {bytes : Nat} (ei : EI P t e z bytes) (kl kc : IntKind) (m n : Nat) (hmn : m ≤ n) (hbytes : bytes * n ≤ 281474976710656) (h63 : n ≤ 9223372036854775807) (w : World) :
    (Instr.makeSlice t (.int kl (m : Int)) (.int kc (n : Int))).run P w = .ok (.slice (some ⟨w.heap.size, 0, none⟩) m n) (w.alloc (.cells (madeCells #[z] n) e)) := by
  obtain ⟨i, hi, hz0, hz1, hz2⟩ := info_parts ei.info
  have hb' : (i.bytes : Int) * (n : Int) ≤ 281474976710656 := by
    have h : ((i.bytes * n : Nat) : Int) ≤ 281474976710656 := by rw [hz2]; omega
    rwa [Int.natCast_mul] at h
  have hr := run_make (P := P) w t e i z ei.und hi hz0 kl kc m n (by omega) (by omega) hb' (by omega)
  simp only [Int.toNat_natCast, hz1, Nat.mul_one, ei.cell] at hr
  exact hr
theorem cerr_zero {rows : List (List St)} (h : cerr rows = 0) : rows.length ≤ 31 ∧ 1 ≤ rows.length ∧ (∀ i, i < rows.length → rchk (sw rows i) = 0) ∧ ∀ k, k + 1 < rows.length → rneed (sw rows (k + 1)) = rmake (sw rows k) := by
  unfold cerr at h
  by_cases h1 : 31 < rows.length
  · rw [if_pos h1] at h; omega
  rw [if_neg h1] at h
  by_cases h2 : rows.length % 2 = 0
  · rw [if_pos h2] at h; omega
  rw [if_neg h2] at h
  by_cases h3 : ferr rows ≠ 0
  · rw [if_pos h3] at h; omega
  rw [if_neg h3] at h
  by_cases h4 : fitB rows = true
  · have hf : ∀ i, i < rows.length → rchk (sw rows i) = 0 := by
      have key : ∀ k, k ≤ rows.length → ∀ i, i < k → rchk (sw rows i) = 0 := by
        intro k
        induction k with
        | zero => intro _ i hi; omega
        | succ k ih =>
          intro hk i hi
          by_cases e : i = k
          · subst e
            by_cases hb : rchk (sw rows i) = 0
            · exact hb
            · have := ferr_at rows i (by omega) (ih (by omega)) hb
              omega
          · exact ih (by omega) i (by omega)
      exact key rows.length (Nat.le_refl _)
    refine ⟨by omega, by omega, hf, fun k hk => ?_⟩
    unfold fitB at h4
    rw [List.all_eq_true] at h4
    simpa using h4 k (List.mem_range.2 (by omega))
  · rw [if_neg h4] at h; omega

theorem made0 (z : Value) (n : Nat) : (madeCells #[z] (n + 1))[0]? = some z := by unfold madeCells; simp
theorem LS_start {eI eR : TypeId} {w : World} {R N n : Nat} {f : Nat → Value} {F : List Int} (h : w.rowIs R eI N f) (hF : F = List.replicate N 1) (hf : ∀ i, i < N → f i = .int .i64 1) (hn : n ≤ 100) (hN : N ≤ 100) :
    LS eI eR w (w.alloc (.cells ((madeCells #[.slice Option.none 0 0] (n + 1)).setIfInBounds 0 (.slice (some ⟨R, 0, Option.none⟩) N N)) eR)) w.heap.size (n + 1) [F] (fun _ => R) := by
  have hl : F.length = N := by rw [hF]; simp
  have hlt := h.lt
  refine ⟨(Ext.refl w).alloc _, ?_, fun j hj => ?_⟩
  · have hrow : (w.alloc (.cells ((madeCells #[.slice Option.none 0 0] (n + 1)).setIfInBounds 0 (.slice (some ⟨R, 0, Option.none⟩) N N)) eR)).rowIs w.heap.size eR (n + 1) (fun i => if i = 0 then .slice (some ⟨R, 0, Option.none⟩) N N else .slice Option.none 0 0) := by
      refine ⟨_, Deep.blk_alloc_new _ _, by simp [size_madeCells], fun i hi => ?_⟩
      have hsz : (madeCells #[Value.slice Option.none 0 0] (n + 1)).size = n + 1 := size_madeCells _ _
      have hz : (madeCells #[Value.slice Option.none 0 0] (n + 1))[i]? = some (.slice Option.none 0 0) := by simp [madeCells, hi, Nat.mod_one]
      by_cases e : i = 0
      · subst e; simp [Array.getElem?_setIfInBounds, hsz]
      · rw [Array.getElem?_setIfInBounds_ne (Ne.symm e), hz]
        show some _ = some (if i = 0 then _ else _)
        rw [if_neg e]
    have := own_of_row hrow (m := 1) (by omega) (by unfold maxLen; omega)
    simpa [ri, hl] using this
  · obtain rfl : j = 0 := by simpa using hj
    refine ⟨by omega, by rw [show (ri [F] 0).length = N from hl]; unfold maxLen; omega, ?_⟩
    have h2 := ((Ext.refl w).alloc (.cells ((madeCells #[.slice Option.none 0 0] (n + 1)).setIfInBounds 0 (.slice (some ⟨R, 0, Option.none⟩) N N)) eR)).row h
    have e : (ri [F] 0).length = N := hl
    rw [e]
    obtain ⟨cur, q1, q2, q3⟩ := h2
    exact ⟨cur, q1, q2, fun i hi => by
      rw [q3 i hi, hf i hi, show ri [F] 0 = F from rfl, hF]
      show some (Value.int .i64 1) = some (Value.int .i64 (gi (List.replicate N 1) i))
      rw [gi_of_lt (by simpa using hi)]; simp⟩

theorem Ext.trans' {a b c : World} (h : Ext a b) (k : Below a.heap.size b c) : Ext a c := Below.trans h k

set_option maxHeartbeats 16000000 in
theorem CLoads_calls (v : Value) (c : Nat) (rows : List (List St)) (w : World) (h : RR w v c rows) :
    Calls Tryd.prog 47 #[.agg #[v]] w (RetXE .i64 w (cloads rows).2.length (cloads rows).2 (cloads rows).1) := by
  obtain ⟨ao, n, rfl, hn, hnc, hcm, hat⟩ := h.open
  unfold maxLen at hcm
  have hck := fun w' (x : Ext w w') => checkRows_calls _ c rows w' (h.ext x)
  have HCk := Lib.hid hck; have HA := Lib.hid hat
  clear hck hat h
  have hbox := fun (w' : World) (x : Ext (w.alloc (.cells #[.slice ao n c] 28)) w') => x.cell (show (w.alloc (.cells #[.slice ao n c] 28)).cell? ⟨w.heap.size, 0, none⟩ = some (.slice ao n c) by rw [World.cell?_alloc_at (hn := rfl)]; rfl)
  have HBx := Lib.hid hbox
  clear hbox
  by_cases he : cerr rows = 0
  · obtain ⟨r1, r2, r3, r4⟩ := cerr_zero he
    rw [← hn] at r1 r2 r3 r4
    have hcl : cloads rows = ldRows (rows.drop 0) (first rows) [first rows] := by unfold cloads; rw [if_neg (by omega)]; rfl
    obtain ⟨F, hF⟩ : ∃ F, F = first rows := ⟨_, rfl⟩
    obtain ⟨N, hN⟩ : ∃ N : Nat, rneed (sw rows 0) = N := ⟨(rneed (sw rows 0)).toNat, by have := rneed_bd (sw rows 0); omega⟩
    have hF2 : F = List.replicate N 1 := by rw [hF]; unfold first; rw [hN]; rfl
    have hN16 : 1 ≤ N ∧ N ≤ 16 := by have := rchk_zero (r3 0 (by omega)); omega
    rw [← hF] at hcl
    have HCL := Lib.hid hcl; have HR3 := Lib.hid r3; have HR4 := Lib.hid r4; have HF2 := Lib.hid hF2; have HN := Lib.hid hN; have Hn := Lib.hid hn
    replace HCk := Lib.hid (show ∀ w', Ext w w' → Calls Tryd.prog 70 #[.slice ao n c] w' fun e w'' => e = .returned (.int .i64 0) ∧ Ext w' w'' from fun w' x => by have := HCk.out w' x; rw [he] at this; exact this)
    have hmk := run_make_row' (P := Tryd.prog) 68 3 (.int .i64 0) 8 Tryd.underlying68 (by kernel_rfl) rfl .i64 .i64 N (by omega) (by omega)
    have hmk2 := run_make_lc (P := Tryd.prog) eiRow .i64 .i64 1 (n + 1) (by omega) (by omega) (by omega)
    rw [show ((n + 1 : Nat) : Int) = 1 + (n : Int) by omega, show ((1 : Nat) : Int) = 1 from rfl] at hmk2
    have HMk := Lib.hid hmk; have HMk2 := Lib.hid hmk2
    clear hcl r3 r4 hF hF2 hN hn he hmk hmk2
    go_enter Tryd.func47, Tryd.ntmps47
    go_wp2
    go_step3
    go_wp2_with fail
    refine (HCk.out _ ((Ext.refl w).alloc _)).mono ?_
    rintro e w1 ⟨rfl, x1⟩
    have X1 := Lib.hid x1
    have b0 := HBx.out _ x1
    clear x1 HCk
    obtain ⟨b, o, a0, m0, d0, rfl, hc0, hr0⟩ := HA.out 0 (by omega)
    have hz := rchk_zero (HR3.out 0 (by omega))
    have hcall := CNeeds_calls _ d0 (sw rows 0) w1 (hr0.ext (((Ext.refl w).alloc _).trans X1.out)) (by omega)
    rw [HN.out] at hcall
    have HCa := Lib.hid hcall
    replace hc0 := (((Ext.refl w).alloc (.cells #[.slice (some ⟨b, o, Option.none⟩) n c] 28)).trans X1.out).cell hc0
    rw [Nat.add_zero] at hc0
    have hn0 : (0 : Int) < (n : Int) := by omega
    clear hcall hr0 hz
    go_wp2_with fail
    refine HCa.out.mono ?_
    rintro e w2 ⟨rfl, x2⟩
    replace X1 := Lib.hid (X1.out.trans x2)
    have hmk := HMk.out
    clear x2 HCa b0 hc0 HMk hn0
    go_wp2
    clear hmk
    go_loopw [6, 32] (fun _ i wr => ∃ j : Nat, j ≤ N ∧ i = .int .i64 j ∧ Hid (Ones w2 wr w2.heap.size N j)) (fun _ i _ => N - (intOf i).toNat)
    case atStart => exact ⟨0, Nat.zero_le _, rfl, Lib.hid ⟨(Ext.refl w2).alloc _, _, World.rowIs_made _ _ _ _, fun i hi => by omega⟩⟩
    case round =>
      obtain ⟨j, hj, rfl, HO⟩ := hrel
      by_cases hlt : j < N
      · obtain ⟨f, hrow, hf⟩ := HO.out.2
        have hst := hrow.cell (i := j) (by omega)
        have hfz := hrow.frozen j
        have hnx : Ones w2 (wr.setCell ⟨w2.heap.size, j, none⟩ (.int .i64 1)) w2.heap.size N (j + 1) := ⟨HO.out.1.setCell (Nat.le_refl _) _, _, hrow.set j _, fun i hi => by
          by_cases e : i = j
          · rw [if_pos e]
          · rw [if_neg e]; exact hf i (by omega)⟩
        have HNx := Lib.hid hnx
        clear hrow hf hnx
        go_wp2
        go_roundw
        case rel => exact ⟨j + 1, by omega, by go_num, HNx⟩
        case measure => simp [intOf]; omega
      · obtain rfl : N = j := by omega
        have b0 := HBx.out _ (X1.out.trans HO.out.1)
        have hmk2 := HMk2.out
        obtain ⟨f, hrow, hf⟩ := HO.out.2
        have Hrow := Lib.hid hrow; have Hf := Lib.hid hf
        have X3 := Lib.hid (((Ext.refl w).alloc (.cells #[.slice (some ⟨b, o, Option.none⟩) n c] 28)).trans (X1.out.trans HO.out.1))
        have hR2 := hrow.lt
        obtain ⟨R, hR⟩ : ∃ R, R = w2.heap.size := ⟨_, rfl⟩
        rw [← hR] at Hrow hR2 ⊢
        have HRR := Lib.hid hR
        have HBW := Lib.hid (X1.out.trans HO.out.1)
        clear hrow hf hlt hj HO hR
        have hm0 : (madeCells #[Value.slice Option.none 0 0] (n + 1))[0]? = some (.slice Option.none 0 0) := made0 _ _
        go_wp2
        go_step3
        obtain ⟨wf, hwf⟩ : ∃ wf, wf = wr := ⟨_, rfl⟩
        obtain ⟨wl, hwl⟩ : ∃ wl, wl = wr.alloc (.cells ((madeCells #[.slice Option.none 0 0] (n + 1)).setIfInBounds 0 (.slice (some ⟨R, 0, Option.none⟩) N N)) 68) := ⟨_, rfl⟩
        have hLS : LS 3 68 wf wl wf.heap.size (n + 1) [F] (fun _ => R) := by
          subst hwf
          rw [hwl]
          exact LS_start Hrow.out HF2.out Hf.out (by omega) (by omega)
        rw [← hwl, ← hwf]
        rw [← hwf] at X3 b0 hR2
        have XL := Lib.hid (show Ext wf wl by rw [hwl, hwf]; exact (Ext.refl _).alloc _)
        have HLS := Lib.hid hLS
        replace b0 := XL.out.cell b0
        clear hLS hwl hwf hm0 hmk2 HMk2 HRR hR2 Hrow Hf
        go_wp2
        go_loopg [7, 8, 9, 10, 11, 12, 14, 15, 16, 17, 50, 51, 52, 53, 54, 55, 56, 57, 58, 59, 60, 61, 62, 63, 64, 65, 66, 67, 68, 69, 70, 71, 72, 73, 74, 75, 76, 77, 78, 79, 80, 81, 82, 83, 84, 85, 86, 87, 88, 89, 90, 91, 92] n (fun g s7 s8 _ _ _ _ _ _ _ _ s50 _ _ _ _ _ _ _ _ _ _ _ _ _ _ _ _ _ _ _ _ _ _ _ _ _ _ _ _ _ _ _ _ _ _ _ _ _ _ _ _ _ _ wx => ∃ (k : Nat) (bf : List Int) (acc : List (List Int)) (q : Nat → Nat), k + g = n ∧ s7 = .slice (some ⟨wf.heap.size, 0, Option.none⟩) (k + 1) (n + 1) ∧ s8 = .int .i64 0 ∧ s50 = .int .i64 k ∧ Hid (LS 3 68 wf wx wf.heap.size (n + 1) acc q) ∧ Hid (acc.length = k + 1 ∧ ri acc k = bf ∧ cloads rows = ldRows (rows.drop k) bf acc ∧ (k < n → (bf.length : Int) = rneed (sw rows k))))
        case atStart =>
          exact ⟨0, F, [F], fun _ => R, by omega, rfl, rfl, rfl, HLS, Lib.hid ⟨rfl, rfl, HCL.out, fun _ => by rw [HN.out, HF2.out]; simp⟩⟩
        case round =>
          obtain ⟨k, bf, acc, q, hkg, rfl, rfl, rfl, HL, HS⟩ := hrel
          have XO := Lib.hid (X3.out.trans HL.out.ext)
          by_cases hlt : k < n
          · obtain ⟨b', o', a, m, d, hbo, hcl, hrs⟩ := HA.out k hlt
            obtain ⟨rfl, rfl⟩ : b = b' ∧ o = o' := by simpa using hbo
            replace hcl := XO.out.cell hcl
            have hz := rchk_zero (HR3.out k hlt)
            obtain ⟨S1, S2, S3, S4⟩ := HS.out
            have hat := HL.out.at (j := k) (by omega)
            have his := HL.out.is (j := k) (by omega)
            rw [S2] at hat his
            obtain ⟨ao, m', hv, hm, hmc, hmm, hst⟩ := hrs.open
            simp only [Value.slice.injEq] at hv
            obtain ⟨rfl, rfl, _⟩ := hv
            have hMk := CMakes_calls _ d (sw rows k) wr (hrs.ext XO.out) (by omega)
            obtain ⟨Rk, hRk⟩ : ∃ Rk : Nat, rmake (sw rows k) = Rk := ⟨(rmake (sw rows k)).toNat, by omega⟩
            have hRb : 1 ≤ Rk ∧ Rk ≤ 16 := by omega
            have hm16 : m ≤ 16 := by omega
            rw [hRk] at hMk
            have hneed := S4 hlt
            have hmkc := run_make_cap (P := Tryd.prog) eiInt .i64 .i64 Rk (by omega) (by omega)
            have HMk3 := Lib.hid hMk; have HIS := Lib.hid his; have HSt := Lib.hid hst; have HRk := Lib.hid hRk; have Hm := Lib.hid hm; have Hneed := Lib.hid hneed; have HS1 := Lib.hid S1; have HS2 := Lib.hid S2; have HS3 := Lib.hid S3; have HMkc := Lib.hid hmkc
            clear hMk his hst hRk hm hneed S1 S2 S3 S4 hz hbo hrs HS hmkc hmm hmc
            have k1 : (k : Int) < n := by omega
            have k2 : (k : Int) < (k : Int) + 1 := by omega
            have k3 : (0 : Int) ≤ (k : Int) := by omega
            go_wp2_with fail
            refine HMk3.out.mono ?_
            rintro e wm ⟨rfl, xm⟩
            have hmkc := HMkc.out
            have Xm := Lib.hid xm
            clear xm HMk3 HMkc hcl hat k1 k2 k3
            go_wp2
            clear hmkc
            go_loopg [8, 11, 12, 14, 15, 16, 17, 64, 65, 66, 67, 68, 69, 70, 71, 72, 73, 74, 75, 76, 77, 78, 79, 80, 81, 82, 83, 84, 85, 86, 87] m (fun g2 s8 s11 s12 _ _ _ _ s64 _ _ _ _ _ _ _ _ _ _ _ _ _ _ _ _ _ _ _ _ _ _ _ wx => ∃ (j : Nat) (bf' acc' : List Int) (ad : Addr) (cb : Nat), j + g2 = m ∧ s8 = .int .i64 0 ∧ s64 = .int .i64 j ∧ s11 = .slice (some ad) bf'.length cb ∧ s12 = .slice (some ⟨wm.heap.size, 0, Option.none⟩) acc'.length Rk ∧ Hid (IS .i64 wm (.slice (some ad) bf'.length cb) cb bf') ∧ Hid (wx.ownsRow wm.heap.size 3 1 (.slice (some ⟨wm.heap.size, 0, Option.none⟩) acc'.length Rk) acc'.length (acc'.map (Value.int .i64))) ∧ Hid (Ext wm wx) ∧ Hid (ldRow (sw rows k) bf [] = ldRow ((sw rows k).drop j) bf' acc' ∧ (bf'.length : Int) = rneed ((sw rows k).drop j) ∧ (acc'.length : Int) + rmake ((sw rows k).drop j) = Rk))
            case atStart =>
              refine ⟨0, bf, [], ⟨q k, 0, Option.none⟩, bf.length, by omega, rfl, rfl, rfl, rfl, Lib.hid (HIS.out.ext Xm.out), Lib.hid ?_, Lib.hid ((Ext.refl wm).alloc _), Lib.hid ⟨rfl, by rw [Hneed.out]; rfl, by rw [← HRk.out]; simp⟩⟩
              exact own_of_row (World.rowIs_made _ _ _ _) (Nat.zero_le _) (by unfold maxLen; omega)
            case round =>
              obtain ⟨j, bf', acc', ad, cb, hjg, rfl, rfl, rfl, rfl, HI, HO, HX, HD⟩ := hrel
              by_cases hjm : j < m
              · obtain ⟨b2, o2, rfl, h5⟩ := HSt.out j hjm
                have XX := Lib.hid (XO.out.trans (Xm.out.trans HX.out))
                obtain ⟨c0, c1, c2, c3, c4⟩ := h5.ext XX.out
                obtain ⟨D1, D2, D3⟩ := HD.out
                have hjl : j < (sw rows k).length := by rw [← Hm.out]; exact hjm
                have hnd := rneed_drop hjl
                have hmd := rmake_drop hjl
                have hbd := ldRow_bad hjl (bf := bf') (acc := acc')
                have hnx := ldRow_next hjl (bf := bf') (acc := acc')
                have hrn := rneed_bd ((sw rows k).drop (j + 1))
                have hrm := rmake_bd ((sw rows k).drop (j + 1))
                obtain ⟨s, hs⟩ : ∃ s, s = si (sw rows k) j := ⟨_, rfl⟩
                rw [← hs] at c0 c1 c2 c3 c4 hnd hmd hbd hnx
                have hnb := St.need_bd s
                have hmb := St.make_bd s
                obtain ⟨nd, hn1⟩ : ∃ nd : Nat, s.need = nd := ⟨s.need.toNat, by omega⟩
                rw [hn1, Int.toNat_natCast] at hbd hnx
                rw [hn1] at hnd hnb
                have hle : nd ≤ bf'.length := by omega
                obtain ⟨er, her⟩ : ∃ er, er = s.lerr (bf'.take nd) := ⟨_, rfl⟩
                obtain ⟨md, hmdd⟩ : ∃ md, md = s.lmade (bf'.take nd) := ⟨_, rfl⟩
                have hml : er = 0 → (md.length : Int) = s.make := fun h0 => by
                  have := lmade_len (s := s) (xs := bf'.take nd) (by rw [← her]; exact h0)
                  rw [← hmdd] at this; omega
                rw [← her, ← hmdd] at hnx
                rw [← her] at hbd
                have hfit : er = 0 → acc'.length + md.length ≤ Rk := fun h0 => by have := hml h0; omega
                have hN := SNeeds_calls s
                rw [hn1] at hN
                have HN' := Lib.hid hN; have HBd := Lib.hid hbd; have HNx := Lib.hid hnx; have HFit := Lib.hid hfit; have HMl := Lib.hid hml; have HER := Lib.hid her; have HMD := Lib.hid hmdd
                have hD2 : (((bf'.drop nd).length : Nat) : Int) = rneed ((sw rows k).drop (j + 1)) := by rw [List.length_drop]; omega
                have hD3 : er = 0 → ((acc' ++ md).length : Int) + rmake ((sw rows k).drop (j + 1)) = Rk := fun h0 => by have := hml h0; rw [List.length_append]; omega
                have HD2 := Lib.hid hD2; have HD3 := Lib.hid hD3; have HD1 := Lib.hid D1
                have hB5 := B5.new wr s 49
                have HB5 := Lib.hid hB5
                clear hN hbd hnx hfit hml her hmdd hD2 hD3 D1 D2 D3 hnd hmd hs hn1 hjl h5 hrn hrm hmb hB5 HD
                unfold St.val at HN'
                go_wp2_with fail
                refine (HN'.out _).mono ?_
                rintro e w4 ⟨rfl, x4⟩
                have q5 : At5 w4 wr.heap.size 0 s := (HB5.out.ext x4).at
                have X4 := Lib.hid (((Ext.refl wr).alloc _).trans x4)
                clear x4 c0 c1 c2 c3 c4 HN' HB5
                obtain ⟨q0, q1, q2, q3, q4⟩ := q5
                simp only [Nat.zero_add] at q1 q2 q3 q4
                have r2 : (0 : Int) ≤ (nd : Int) := by omega
                go_wp2
                rcases HI.out.from nd hle with ⟨b5, o5, hadd, hhi⟩ | ⟨hcb, hL0, hn0, hbf⟩
                · obtain rfl : ad = ⟨b5, o5, Option.none⟩ := Option.some.inj hadd
                  have Hlo := Lib.hid (HI.out.upto (m := nd) hle)
                  have hlc := HI.out.len.2.2
                  have r1 : (nd : Int) ≤ (cb : Int) := by omega
                  have r3 : (nd : Int) ≤ (bf'.length : Int) := by omega
                  clear hadd hlc
                  by_cases hcn : cb = nd
                  · subst hcn
                    rw [if_pos rfl, Nat.sub_self] at hhi
                    have Hhi := Lib.hid hhi
                    clear hhi
                    have hS := fun (w' : World) (x : Ext w4 w') => SLoads_calls s (Value.slice (some ⟨b5, o5, Option.none⟩) cb cb) cb (bf'.take cb) w' (Hlo.out.ext ((HX.out.trans X4.out).trans x))
                    rw [← HER.out, ← HMD.out] at hS
                    have HSL := Lib.hid hS
                    unfold St.val at HSL
                    clear hS
                    go_region_held3 (fun w' => w'.cell? ⟨wr.heap.size, 0, Option.none⟩ = some (.int .u8 s.k) ∧ w'.cell? ⟨wr.heap.size, 1, Option.none⟩ = some (.int .u8 s.y) ∧ w'.cell? ⟨wr.heap.size, 2, Option.none⟩ = some (.int .i64 s.a) ∧ w'.cell? ⟨wr.heap.size, 3, Option.none⟩ = some (.int .i64 s.b) ∧ w'.cell? ⟨wr.heap.size, 4, Option.none⟩ = some (.bool s.f)) (first | exact ⟨q0, q1, q2, q3, q4⟩ | exact ⟨p0, p1, p2, p3, p4⟩ | go_keep) (first
                      | (go_at_call 71; (refine (HSL.out _ ?_).mono ?_); (focus (repeat (first | (with_reducible exact Ext.refl _) | (with_reducible apply Ext.drew) | (with_reducible apply Ext.drewN)))); intro e w5 hh; obtain ⟨a9, n9, c9, rfl, hn9, hc9, h9, x9⟩ := hh.open; have X5 : Hid (Ext w4 w5) := Lib.hid (Ext.trans (by (repeat (first | (with_reducible exact Ext.refl _) | (with_reducible apply Ext.drew) | (with_reducible apply Ext.drewN)))) x9); have H9 := Lib.hid h9; have p0 := X5.out.cell q0; have p1 := X5.out.cell q1; have p2 := X5.out.cell q2; have p3 := X5.out.cell q3; have p4 := X5.out.cell q4; have H9n := Lib.hid hn9; clear hh h9 x9 hn9 hc9)
                      | fail)
                    clear HSL q0 q1 q2 q3 q4 p0 p1 p2 p3 p4
                    have X6 := Lib.hid (X4.out.trans X5.out)
                    by_cases he : er = 0
                    · have he' : (er != 0) = false := by rw [bne, beq_iff_eq.2 he]; rfl
                      have hfit := HFit.out he
                      have hnx := HNx.out he
                      have Hnx := Lib.hid hnx
                      have HD3' := Lib.hid (HD3.out he)
                      have hown := own_ext HO.out X6.out
                      have Hown := Lib.hid hown
                      have hwm : wm.heap.size ≤ w5.heap.size := (HX.out.trans X6.out).size
                      have Hwm := Lib.hid hwm
                      clear he hnx hown hwm
                      go_wp2_with (at_builtin; refine app_fits eiInt rfl _ _ rfl wm.heap.size wm.heap.size acc'.length Rk (acc'.map (Value.int .i64)) rfl Hown.out (.slice a9 n9 c9) c9 (md.map (Value.int .i64)) rfl H9.out (onesI _) (by rw [List.length_map]; exact hfit) Hwm.out ?_)
                      intro w6 hown6 hb6
                      have Hown6 := Lib.hid (show w6.ownsRow wm.heap.size 3 1 (.slice (some ⟨wm.heap.size, 0, Option.none⟩) (acc' ++ md).length Rk) (acc' ++ md).length ((acc' ++ md).map (Value.int .i64)) by
                        rw [List.length_append, List.map_append]
                        exact hown6)
                      have HX6 := Lib.hid (show Ext wm w6 from (HX.out.trans X6.out).trans' hb6)
                      clear hown6 hb6 hfit Hown
                      go_wp2
                      go_roundg (m - (j + 1))
                      case measure => omega
                      case rel => exact ⟨j + 1, bf'.drop cb, acc' ++ md, ⟨b5, o5, Option.none⟩, 0, by omega, rfl, by go_num, by rw [List.length_drop], by rw [List.length_append], by rw [List.length_drop]; exact Hhi, Hown6, HX6, Lib.hid ⟨HD1.out.trans Hnx.out, HD2.out, HD3'.out⟩⟩
                    · have he' : (er != 0) = true := by rw [bne, beq_eq_false_iff_ne.2 he]; rfl
                      have hb := HBd.out he
                      have hrow : ldRow (sw rows k) bf [] = (er, []) := HD1.out.trans hb
                      have hcl : cloads rows = (er, []) := by
                        rw [HS3.out, ldRows_bad (by rw [← Hn.out]; exact hlt) (by rw [hrow]; exact he), hrow]
                      have HLst := Lib.hid (show ∀ w', Ext w w' → RetXE .i64 w (cloads rows).2.length (cloads rows).2 (cloads rows).1 (.returned (.tuple #[.slice Option.none 0 0, .int .i64 er])) w' from fun w' x => by
                        rw [hcl]; exact ⟨_, rfl, ISX.nil _ _, x⟩)
                      clear hb hrow hcl he
                      go_wp2
                      (try rw [Exit.noGoto_ret])
                      go_ret2
                      exact HLst.out _ (XO.out.trans (Xm.out.trans (HX.out.trans X6.out)))
                  · rw [if_neg hcn] at hhi
                    have Hhi := Lib.hid hhi
                    clear hhi
                    have hS := fun (w' : World) (x : Ext w4 w') => SLoads_calls s (Value.slice (some ⟨b5, o5, Option.none⟩) nd cb) cb (bf'.take nd) w' (Hlo.out.ext ((HX.out.trans X4.out).trans x))
                    rw [← HER.out, ← HMD.out] at hS
                    have HSL := Lib.hid hS
                    unfold St.val at HSL
                    clear hS
                    go_region_held3 (fun w' => w'.cell? ⟨wr.heap.size, 0, Option.none⟩ = some (.int .u8 s.k) ∧ w'.cell? ⟨wr.heap.size, 1, Option.none⟩ = some (.int .u8 s.y) ∧ w'.cell? ⟨wr.heap.size, 2, Option.none⟩ = some (.int .i64 s.a) ∧ w'.cell? ⟨wr.heap.size, 3, Option.none⟩ = some (.int .i64 s.b) ∧ w'.cell? ⟨wr.heap.size, 4, Option.none⟩ = some (.bool s.f)) (first | exact ⟨q0, q1, q2, q3, q4⟩ | exact ⟨p0, p1, p2, p3, p4⟩ | go_keep) (first
                      | (go_at_call 71; (refine (HSL.out _ ?_).mono ?_); (focus (repeat (first | (with_reducible exact Ext.refl _) | (with_reducible apply Ext.drew) | (with_reducible apply Ext.drewN)))); intro e w5 hh; obtain ⟨a9, n9, c9, rfl, hn9, hc9, h9, x9⟩ := hh.open; have X5 : Hid (Ext w4 w5) := Lib.hid (Ext.trans (by (repeat (first | (with_reducible exact Ext.refl _) | (with_reducible apply Ext.drew) | (with_reducible apply Ext.drewN)))) x9); have H9 := Lib.hid h9; have p0 := X5.out.cell q0; have p1 := X5.out.cell q1; have p2 := X5.out.cell q2; have p3 := X5.out.cell q3; have p4 := X5.out.cell q4; have H9n := Lib.hid hn9; clear hh h9 x9 hn9 hc9)
                      | fail)
                    clear HSL q0 q1 q2 q3 q4 p0 p1 p2 p3 p4
                    have X6 := Lib.hid (X4.out.trans X5.out)
                    by_cases he : er = 0
                    · have he' : (er != 0) = false := by rw [bne, beq_iff_eq.2 he]; rfl
                      have hfit := HFit.out he
                      have hnx := HNx.out he
                      have Hnx := Lib.hid hnx
                      have HD3' := Lib.hid (HD3.out he)
                      have hown := own_ext HO.out X6.out
                      have Hown := Lib.hid hown
                      have hwm : wm.heap.size ≤ w5.heap.size := (HX.out.trans X6.out).size
                      have Hwm := Lib.hid hwm
                      clear he hnx hown hwm
                      go_wp2_with (at_builtin; refine app_fits eiInt rfl _ _ rfl wm.heap.size wm.heap.size acc'.length Rk (acc'.map (Value.int .i64)) rfl Hown.out (.slice a9 n9 c9) c9 (md.map (Value.int .i64)) rfl H9.out (onesI _) (by rw [List.length_map]; exact hfit) Hwm.out ?_)
                      intro w6 hown6 hb6
                      have Hown6 := Lib.hid (show w6.ownsRow wm.heap.size 3 1 (.slice (some ⟨wm.heap.size, 0, Option.none⟩) (acc' ++ md).length Rk) (acc' ++ md).length ((acc' ++ md).map (Value.int .i64)) by
                        rw [List.length_append, List.map_append]
                        exact hown6)
                      have HX6 := Lib.hid (show Ext wm w6 from (HX.out.trans X6.out).trans' hb6)
                      clear hown6 hb6 hfit Hown
                      go_wp2
                      go_roundg (m - (j + 1))
                      case measure => omega
                      case rel => exact ⟨j + 1, bf'.drop nd, acc' ++ md, ⟨b5, o5 + nd, Option.none⟩, cb - nd, by omega, rfl, by go_num, by rw [List.length_drop], by rw [List.length_append], by rw [List.length_drop]; exact Hhi, Hown6, HX6, Lib.hid ⟨HD1.out.trans Hnx.out, HD2.out, HD3'.out⟩⟩
                    · have he' : (er != 0) = true := by rw [bne, beq_eq_false_iff_ne.2 he]; rfl
                      have hb := HBd.out he
                      have hrow : ldRow (sw rows k) bf [] = (er, []) := HD1.out.trans hb
                      have hcl : cloads rows = (er, []) := by
                        rw [HS3.out, ldRows_bad (by rw [← Hn.out]; exact hlt) (by rw [hrow]; exact he), hrow]
                      have HLst := Lib.hid (show ∀ w', Ext w w' → RetXE .i64 w (cloads rows).2.length (cloads rows).2 (cloads rows).1 (.returned (.tuple #[.slice Option.none 0 0, .int .i64 er])) w' from fun w' x => by
                        rw [hcl]; exact ⟨_, rfl, ISX.nil _ _, x⟩)
                      clear hb hrow hcl he
                      go_wp2
                      (try rw [Exit.noGoto_ret])
                      go_ret2
                      exact HLst.out _ (XO.out.trans (Xm.out.trans (HX.out.trans X6.out)))
                · subst hbf
                  subst hn0
                  subst hcb
                  rw [show ((0 : Nat) : Int) = 0 from rfl]
                  have Hlo := Lib.hid (IS.empty (k := .i64) (w := wm) (some ad))
                  have Hhi := Hlo
                  clear hL0
                  have hS := fun (w' : World) (x : Ext w4 w') => SLoads_calls s (Value.slice (some ad) 0 0) 0 (([] : List Int).take 0) w' (Hlo.out.ext ((HX.out.trans X4.out).trans x))
                  rw [← HER.out, ← HMD.out] at hS
                  have HSL := Lib.hid hS
                  unfold St.val at HSL
                  clear hS
                  go_region_held3 (fun w' => w'.cell? ⟨wr.heap.size, 0, Option.none⟩ = some (.int .u8 s.k) ∧ w'.cell? ⟨wr.heap.size, 1, Option.none⟩ = some (.int .u8 s.y) ∧ w'.cell? ⟨wr.heap.size, 2, Option.none⟩ = some (.int .i64 s.a) ∧ w'.cell? ⟨wr.heap.size, 3, Option.none⟩ = some (.int .i64 s.b) ∧ w'.cell? ⟨wr.heap.size, 4, Option.none⟩ = some (.bool s.f)) (first | exact ⟨q0, q1, q2, q3, q4⟩ | exact ⟨p0, p1, p2, p3, p4⟩ | go_keep) (first
                    | (go_at_call 71; (refine (HSL.out _ ?_).mono ?_); (focus (repeat (first | (with_reducible exact Ext.refl _) | (with_reducible apply Ext.drew) | (with_reducible apply Ext.drewN)))); intro e w5 hh; obtain ⟨a9, n9, c9, rfl, hn9, hc9, h9, x9⟩ := hh.open; have X5 : Hid (Ext w4 w5) := Lib.hid (Ext.trans (by (repeat (first | (with_reducible exact Ext.refl _) | (with_reducible apply Ext.drew) | (with_reducible apply Ext.drewN)))) x9); have H9 := Lib.hid h9; have p0 := X5.out.cell q0; have p1 := X5.out.cell q1; have p2 := X5.out.cell q2; have p3 := X5.out.cell q3; have p4 := X5.out.cell q4; have H9n := Lib.hid hn9; clear hh h9 x9 hn9 hc9)
                    | fail)
                  clear HSL q0 q1 q2 q3 q4 p0 p1 p2 p3 p4
                  have X6 := Lib.hid (X4.out.trans X5.out)
                  by_cases he : er = 0
                  · have he' : (er != 0) = false := by rw [bne, beq_iff_eq.2 he]; rfl
                    have hfit := HFit.out he
                    have hnx := HNx.out he
                    have Hnx := Lib.hid hnx
                    have HD3' := Lib.hid (HD3.out he)
                    have hown := own_ext HO.out X6.out
                    have Hown := Lib.hid hown
                    have hwm : wm.heap.size ≤ w5.heap.size := (HX.out.trans X6.out).size
                    have Hwm := Lib.hid hwm
                    clear he hnx hown hwm
                    go_wp2_with (at_builtin; refine app_fits eiInt rfl _ _ rfl wm.heap.size wm.heap.size acc'.length Rk (acc'.map (Value.int .i64)) rfl Hown.out (.slice a9 n9 c9) c9 (md.map (Value.int .i64)) rfl H9.out (onesI _) (by rw [List.length_map]; exact hfit) Hwm.out ?_)
                    intro w6 hown6 hb6
                    have Hown6 := Lib.hid (show w6.ownsRow wm.heap.size 3 1 (.slice (some ⟨wm.heap.size, 0, Option.none⟩) (acc' ++ md).length Rk) (acc' ++ md).length ((acc' ++ md).map (Value.int .i64)) by
                      rw [List.length_append, List.map_append]
                      exact hown6)
                    have HX6 := Lib.hid (show Ext wm w6 from (HX.out.trans X6.out).trans' hb6)
                    clear hown6 hb6 hfit Hown
                    go_wp2
                    go_roundg (m - (j + 1))
                    case measure => omega
                    case rel => exact ⟨j + 1, [], acc' ++ md, ad, 0, by omega, rfl, by go_num, rfl, by rw [List.length_append], Hhi, Hown6, HX6, Lib.hid ⟨HD1.out.trans Hnx.out, HD2.out, HD3'.out⟩⟩
                  · have he' : (er != 0) = true := by rw [bne, beq_eq_false_iff_ne.2 he]; rfl
                    have hb := HBd.out he
                    have hrow : ldRow (sw rows k) bf [] = (er, []) := HD1.out.trans hb
                    have hcl : cloads rows = (er, []) := by
                      rw [HS3.out, ldRows_bad (by rw [← Hn.out]; exact hlt) (by rw [hrow]; exact he), hrow]
                    have HLst := Lib.hid (show ∀ w', Ext w w' → RetXE .i64 w (cloads rows).2.length (cloads rows).2 (cloads rows).1 (.returned (.tuple #[.slice Option.none 0 0, .int .i64 er])) w' from fun w' x => by
                      rw [hcl]; exact ⟨_, rfl, ISX.nil _ _, x⟩)
                    clear hb hrow hcl he
                    go_wp2
                    (try rw [Exit.noGoto_ret])
                    go_ret2
                    exact HLst.out _ (XO.out.trans (Xm.out.trans (HX.out.trans X6.out)))
              · obtain rfl : m = j := by omega
                obtain ⟨D1, D2, D3⟩ := HD.out
                rw [ldRow_end (by rw [← Hm.out]; exact Nat.le_refl _)] at D1
                rw [List.drop_eq_nil_of_le (by rw [← Hm.out]; exact Nat.le_refl _)] at D3
                have hlen : acc'.length = Rk := by
                  have e : rmake [] = 0 := rfl
                  rw [e] at D3; omega
                have hLS := HL.out.later (Xm.out.trans HX.out)
                have hgm : wf.heap.size < wm.heap.size := by
                  have h1 := (HL.out.lt (by rw [HS1.out]; omega)).1
                  have h2 := Xm.out.size
                  omega
                have hown := hLS.own
                obtain ⟨XS, hXS⟩ : ∃ XS, XS = (List.range acc.length).map fun j => Value.slice (some ⟨q j, 0, Option.none⟩) (ri acc j).length (ri acc j).length := ⟨_, rfl⟩
                rw [← hXS, HS1.out] at hown
                have hrw : wr.rowIs wm.heap.size 3 acc'.length (fun i => .int .i64 (gi acc' i)) := by
                  obtain ⟨g', cap', f', hv', _, _, _, _, hrow', hf'⟩ := own_open HO.out (by omega)
                  simp only [Value.slice.injEq, Option.some.injEq, Addr.mk.injEq, and_true, true_and] at hv'
                  obtain ⟨rfl, rfl⟩ := hv'
                  obtain ⟨cur, z1, z2, z3⟩ := hrow'
                  refine ⟨cur, z1, by omega, fun i hi => ?_⟩
                  rw [z3 i (by omega), hf' i (.int .i64 (gi acc' i)) (by rw [List.getElem?_map, gi_some hi]; rfl)]
                rw [hlen]
                have Hown := Lib.hid hown; have HLS2 := Lib.hid hLS; have Hgm := Lib.hid hgm; have Hrw := Lib.hid hrw; have HXS := Lib.hid hXS; have HD1 := Lib.hid D1; have Hlen := Lib.hid hlen
                clear hown hLS hgm hrw hXS D1 D2 D3 hlen HD
                go_wp2_with (at_builtin; refine app_fits_g eiRow rfl _ _ rfl wf.heap.size wf.heap.size (k + 1) (n + 1) XS rfl (World.ownsRow.alloc Hown.out _) _ 1 [.slice (some ⟨wm.heap.size, 0, Option.none⟩) Rk Rk] rfl (VS.one _ _ _) (by intro u hu; simp at hu; subst hu; rfl) (show k + 1 + 1 ≤ n + 1 by omega) ?_)
                intro w7 own7 gr7
                have hpush := LS.push HLS2.out (Nat.le_refl _) (p := wm.heap.size) (new := acc') (by have := Hgm.out; omega) (by rw [Hlen.out]; unfold maxLen; omega) Hrw.out (w' := w7) (by
                  have z := own7
                  rw [HXS.out] at z
                  rw [Hlen.out]
                  rw [HS1.out] at z ⊢
                  exact z) gr7
                have Hpush := Lib.hid hpush
                have hS2 : (acc ++ [acc']).length = k + 1 + 1 := by rw [List.length_append, HS1.out]; rfl
                have hS3 : ri (acc ++ [acc']) (k + 1) = acc' := by rw [← HS1.out]; exact ri_new _ _
                have hS4 : cloads rows = ldRows (rows.drop (k + 1)) acc' (acc ++ [acc']) := by
                  have h0 := ldRows_next (r := rows) (k := k) (by rw [← Hn.out]; exact hlt) (bf := bf) (acc := acc) (by rw [HD1.out])
                  rw [HD1.out] at h0
                  rw [HS3.out]; exact h0
                have hS5 : k + 1 < n → (acc'.length : Int) = rneed (sw rows (k + 1)) := fun h => by rw [HR4.out k h, HRk.out, Hlen.out]
                have HSn := Lib.hid (And.intro hS2 (And.intro hS3 (And.intro hS4 hS5)))
                clear own7 gr7 hpush hS2 hS3 hS4 hS5 Hown HLS2 Hrw
                go_wp2
                go_roundg (n - (k + 1))
                case measure => omega
                case rel => exact ⟨k + 1, acc', acc ++ [acc'], _, by omega, rfl, rfl, by go_num, Hpush, HSn⟩
          · obtain rfl : k = n := by omega
            obtain ⟨S1, S2, S3, S4⟩ := HS.out
            rw [ldRows_end (by rw [← Hn.out]; exact Nat.le_refl _)] at S3
            have HLst := Lib.hid (show RetXE .i64 w (cloads rows).2.length (cloads rows).2 (cloads rows).1 (.returned (.tuple #[.slice (some ⟨wf.heap.size, 0, Option.none⟩) (k + 1) (k + 1), .int .i64 0])) wr by
              rw [S3]
              refine ⟨_, rfl, ?_, XO.out⟩
              have := HL.out.ret S1 (by omega)
              show ISX .i64 wr _ acc.length acc
              rw [S1]; exact this)
            clear S1 S2 S3 S4 HS hlt
            go_wp2
            (try rw [Exit.noGoto_ret])
            go_ret2
            exact HLst.out
  · have hr := Lib.hid (show cloads rows = (cerr rows, []) by unfold cloads; rw [if_pos he])
    have hq : (cerr rows != 0) = true := by rw [bne, beq_eq_false_iff_ne.2 he]; rfl
    have HL := Lib.hid (show ∀ w', Ext w w' → RetXE .i64 w (cloads rows).2.length (cloads rows).2 (cloads rows).1 (.returned (.tuple #[.slice Option.none 0 0, .int .i64 (cerr rows)])) w' from fun w' x => by
      rw [hr.out]; exact ⟨_, rfl, ISX.nil _ _, x⟩)
    generalize cerr rows = q at HCk hq HL
    clear he hn HA HBx
    go_enter Tryd.func47, Tryd.ntmps47
    go_wp2
    go_step3
    go_wp2_with fail
    refine (HCk.out _ ((Ext.refl w).alloc _)).mono ?_
    rintro e w1 ⟨rfl, x1⟩
    have X1 := Lib.hid (((Ext.refl w).alloc _).trans x1)
    clear x1
    go_wp2
    rw [Exit.noGoto_ret]
    go_ret2
    exact HL.out _ X1.out
end Go.Proofs.YthllbcjglcplhaaDoor
/- Rows of stitches of the call's own. -/
namespace Go.Proofs.YthllbcjglcplhaaDoor
set_option linter.unusedVariables false
set_option linter.unusedSimpArgs false
set_option maxRecDepth 8000
open Go Go.RowKit

/-- The five cells of a stitch stand in f from 5 i on. -/
def F5 (f : Nat → Value) (i : Nat) (s : St) : Prop := f (i * 5) = .int .u8 s.k ∧ f (i * 5 + 1) = .int .u8 s.y ∧ f (i * 5 + 2) = .int .i64 s.a ∧ f (i * 5 + 3) = .int .i64 s.b ∧ f (i * 5 + 4) = .bool s.f
/-- Block g has room for c stitches; the first are l. -/
def RO (w : World) (g c : Nat) (l : List St) : Prop := l.length ≤ c ∧ c ≤ maxLen ∧ ∃ f, w.rowIs g 49 (c * 5) f ∧ ∀ i, i < l.length → F5 f i (si l i)
theorem RO.ext {w w' : World} {g c : Nat} {l : List St} (h : RO w g c l) (x : Ext w w') : RO w' g c l := by
  obtain ⟨h1, h2, f, h3, h4⟩ := h
  exact ⟨h1, h2, f, x.row h3, h4⟩
theorem RO.lt {w : World} {g c : Nat} {l : List St} (h : RO w g c l) : g < w.heap.size := by
  obtain ⟨_, _, f, h3, _⟩ := h
  exact h3.lt
theorem RO.rs {w : World} {g c : Nat} {l : List St} (h : RO w g c l) : RS w (.slice (some ⟨g, 0, none⟩) l.length c) c l := by
  obtain ⟨h1, h2, f, h3, h4⟩ := h
  refine ⟨_, rfl, h1, h2, .inr ⟨g, 0, rfl, fun i hi => ?_⟩⟩
  obtain ⟨a, b, c', d, e⟩ := h4 i hi
  rw [Nat.zero_add]
  refine ⟨?_, ?_, ?_, ?_, ?_⟩
  · rw [h3.cell (by omega), a]
  · rw [h3.cell (by omega), b]
  · rw [h3.cell (by omega), c']
  · rw [h3.cell (by omega), d]
  · rw [h3.cell (by omega), e]
theorem RO.frozen {w : World} {g c : Nat} {l : List St} (h : RO w g c l) (o : Nat) : w.frozen? ⟨g, o, none⟩ = false := by
  obtain ⟨_, _, f, h3, _⟩ := h
  exact h3.frozen o
theorem RO.shapeCell {w : World} {g c : Nat} {l : List St} (h : RO w g c l) {o : Nat} (ho : o < c * 5) : ∃ v, w.cell? ⟨g, o, none⟩ = some v := by
  obtain ⟨_, _, f, h3, _⟩ := h
  exact ⟨_, h3.cell ho⟩
theorem si_set {l : List St} {i j : Nat} {s : St} (hi : i < l.length) : si (l.set i s) j = if j = i then s else si l j := by
  unfold si
  by_cases h : j = i
  · subst h; simp [List.getD, hi]
  · rw [if_neg h]
    simp only [List.getD]
    rw [List.getElem?_set_ne (by omega)]
theorem RO.setk {w : World} {g c : Nat} {l : List St} (h : RO w g c l) {i : Nat} (hi : i < l.length) (k : Int) : RO (w.setCell ⟨g, i * 5, none⟩ (.int .u8 k)) g c (l.set i { si l i with k := k }) := by
  obtain ⟨h1, h2, f, h3, h4⟩ := h
  refine ⟨by simpa using h1, h2, _, h3.set (i * 5) _, fun j hj => ?_⟩
  rw [List.length_set] at hj
  rw [si_set hi]
  obtain ⟨a, b, c', d, e⟩ := h4 j hj
  by_cases hji : j = i
  · subst hji
    rw [if_pos rfl]
    refine ⟨if_pos rfl, ?_, ?_, ?_, ?_⟩ <;> (show (if _ then _ else _) = _; rw [if_neg (by omega)]; assumption)
  · rw [if_neg hji]
    refine ⟨?_, ?_, ?_, ?_, ?_⟩ <;> (show (if _ then _ else _) = _; rw [if_neg (by omega)]; assumption)
theorem RO.sety {w : World} {g c : Nat} {l : List St} (h : RO w g c l) {i : Nat} (hi : i < l.length) (y : Int) : RO (w.setCell ⟨g, i * 5 + 1, none⟩ (.int .u8 y)) g c (l.set i { si l i with y := y }) := by
  obtain ⟨h1, h2, f, h3, h4⟩ := h
  refine ⟨by simpa using h1, h2, _, h3.set (i * 5 + 1) _, fun j hj => ?_⟩
  rw [List.length_set] at hj
  rw [si_set hi]
  obtain ⟨a, b, c', d, e⟩ := h4 j hj
  by_cases hji : j = i
  · subst hji
    rw [if_pos rfl]
    refine ⟨?_, if_pos rfl, ?_, ?_, ?_⟩ <;> (show (if _ then _ else _) = _; rw [if_neg (by omega)]; assumption)
  · rw [if_neg hji]
    refine ⟨?_, ?_, ?_, ?_, ?_⟩ <;> (show (if _ then _ else _) = _; rw [if_neg (by omega)]; assumption)
theorem RO.setOther {w : World} {g c : Nat} {l : List St} (h : RO w g c l) {a : Addr} (ha : g ≠ a.block) (v : Value) : RO (w.setCell a v) g c l := by
  obtain ⟨h1, h2, f, h3, h4⟩ := h
  exact ⟨h1, h2, f, h3.setOther ha v, h4⟩
theorem si_rep {n i : Nat} {s : St} (hi : i < n) : si (List.replicate n s) i = s := by unfold si; simp [List.getD, hi]

/-- The zero cells of a stitch. -/
def z5 : Array Value := #[.int .u8 0, .int .u8 0, .int .i64 0, .int .i64 0, .bool false]
theorem RO.made (w : World) (n : Nat) (hn : n ≤ maxLen) : RO (w.alloc (.cells (madeCells z5 (n * 5)) 49)) w.heap.size n (List.replicate n St.none) := by
  have hz : ∀ i, i < n * 5 → (madeCells z5 (n * 5))[i]? = some (z5[i % 5]!) := fun i hi => by
    unfold madeCells
    simp [hi]
    rfl
  have hr := World.rowIs_alloc w (madeCells z5 (n * 5)) 49 (fun i => z5[i % 5]!) (fun i hi => hz i (by rw [size_madeCells] at hi; exact hi))
  rw [size_madeCells] at hr
  refine ⟨by simp, hn, _, hr, fun i hi => ?_⟩
  rw [List.length_replicate] at hi
  rw [si_rep hi]
  refine ⟨?_, ?_, ?_, ?_, ?_⟩
  · show z5[(i * 5) % 5]! = _; rw [show (i * 5) % 5 = 0 by omega]; rfl
  · show z5[(i * 5 + 1) % 5]! = _; rw [show (i * 5 + 1) % 5 = 1 by omega]; rfl
  · show z5[(i * 5 + 2) % 5]! = _; rw [show (i * 5 + 2) % 5 = 2 by omega]; rfl
  · show z5[(i * 5 + 3) % 5]! = _; rw [show (i * 5 + 3) % 5 = 3 by omega]; rfl
  · show z5[(i * 5 + 4) % 5]! = _; rw [show (i * 5 + 4) % 5 = 4 by omega]; rfl
theorem run_make_st (kl kc : IntKind) (n : Nat) (hn : n ≤ 1000000) (w : World) :
    (Instr.makeSlice 41 (.int kl (n : Int)) (.int kc (n : Int))).run Tryd.prog w = .ok (.slice (some ⟨w.heap.size, 0, none⟩) n n) (w.alloc (.cells (madeCells z5 (n * 5)) 49)) := by
  obtain ⟨i, hi, hzz⟩ := Option.map_eq_some_iff.1 (show (Tryd.prog.info? 49).map (fun i => (i.zero, i.size, i.bytes)) = some (some (.agg z5), 5, 32) by kernel_rfl)
  simp only [Prod.mk.injEq] at hzz
  obtain ⟨hz, hs, hb⟩ := hzz
  have hr := run_make (P := Tryd.prog) w 41 49 i (.agg z5) Tryd.underlying41 hi hz kl kc n n (by omega) (Int.le_refl _) (by rw [hb]; omega) (by omega)
  simp only [Int.toNat_natCast, hs] at hr
  exact hr
end Go.Proofs.YthllbcjglcplhaaDoor
/- Charts that a call makes: a block of rows, each in a block of its own. -/
namespace Go.Proofs.YthllbcjglcplhaaDoor
set_option linter.unusedVariables false
set_option linter.unusedSimpArgs false
set_option maxRecDepth 8000
open Go Go.RowKit

def up {α : Type} (f : Nat → α) (k : Nat) (x : α) : Nat → α := fun i => if i = k then x else f i
theorem up_at {α : Type} (f : Nat → α) (k : Nat) (x : α) : up f k x k = x := if_pos rfl
theorem up_ne {α : Type} (f : Nat → α) {k i : Nat} (x : α) (h : i ≠ k) : up f k x i = f i := if_neg h
/-- Block R has room for N rows; the first k are laid: rows i in block q i, of capacity cp i. -/
structure CS (w wr : World) (R N k : Nat) (rows : Nat → List St) (q cp : Nat → Nat) : Prop where
  x : Ext w wr
  r0 : w.heap.size ≤ R
  nm : N ≤ maxLen
  row : ∃ f, wr.rowIs R 41 N f ∧ ∀ i, i < k → f i = .slice (some ⟨q i, 0, none⟩) (rows i).length (cp i)
  ro : ∀ i, i < k → RO wr (q i) (cp i) (rows i) ∧ w.heap.size ≤ q i ∧ q i ≠ R
  inj : ∀ i j, i < k → j < k → q i = q j → i = j
theorem CS.start {w wr : World} {R N : Nat} {f : Nat → Value} {rows : Nat → List St} {q cp : Nat → Nat} (x : Ext w wr) (h : w.heap.size ≤ R) (hN : N ≤ maxLen) (hr : wr.rowIs R 41 N f) : CS w wr R N 0 rows q cp :=
  ⟨x, h, hN, ⟨f, hr, fun i hi => by omega⟩, fun i hi => by omega, fun i j hi => by omega⟩
theorem CS.later {w wr w' : World} {R N k : Nat} {rows : Nat → List St} {q cp : Nat → Nat} (h : CS w wr R N k rows q cp) (x : Ext wr w') : CS w w' R N k rows q cp := by
  obtain ⟨h1, h2, h3, ⟨f, h4, h5⟩, h6, h7⟩ := h
  exact ⟨h1.trans x, h2, h3, ⟨f, x.row h4, h5⟩, fun i hi => ⟨(h6 i hi).1.ext x, (h6 i hi).2⟩, h7⟩
theorem CS.cell {w wr : World} {R N k : Nat} {rows : Nat → List St} {q cp : Nat → Nat} (h : CS w wr R N k rows q cp) {i : Nat} (hi : i < k) (hk : k ≤ N) : wr.cell? ⟨R, i, none⟩ = some (.slice (some ⟨q i, 0, none⟩) (rows i).length (cp i)) := by
  obtain ⟨f, h4, h5⟩ := h.row
  rw [h4.cell (by omega), h5 i hi]
theorem CS.ex {w wr : World} {R N k : Nat} {rows : Nat → List St} {q cp : Nat → Nat} (h : CS w wr R N k rows q cp) {i : Nat} (hi : i < N) : ∃ v, wr.cell? ⟨R, i, none⟩ = some v := by
  obtain ⟨f, h4, h5⟩ := h.row
  exact ⟨_, h4.cell hi⟩
theorem CS.frozen {w wr : World} {R N k : Nat} {rows : Nat → List St} {q cp : Nat → Nat} (h : CS w wr R N k rows q cp) (i : Nat) : wr.frozen? ⟨R, i, none⟩ = false := by
  obtain ⟨f, h4, h5⟩ := h.row
  exact h4.frozen i
theorem CS.lt {w wr : World} {R N k : Nat} {rows : Nat → List St} {q cp : Nat → Nat} (h : CS w wr R N k rows q cp) : R < wr.heap.size := by
  obtain ⟨f, h4, h5⟩ := h.row
  exact h4.lt
theorem CS.congr {w wr : World} {R N k : Nat} {rows rows' : Nat → List St} {q cp : Nat → Nat} (h : CS w wr R N k rows q cp) (e : ∀ i, i < k → rows i = rows' i) : CS w wr R N k rows' q cp := by
  obtain ⟨h1, h2, h3, ⟨f, h4, h5⟩, h6, h7⟩ := h
  exact ⟨h1, h2, h3, ⟨f, h4, fun i hi => by rw [h5 i hi, e i hi]⟩, fun i hi => by rw [← e i hi]; exact h6 i hi, h7⟩
/-- A row is laid behind the others. -/
theorem CS.put {w wr : World} {R N k g c : Nat} {rows : Nat → List St} {q cp : Nat → Nat} {l : List St} (h : CS w wr R N k rows q cp) (hk : k < N) (hg : RO wr g c l) (hw : w.heap.size ≤ g) (hR : g ≠ R) (hd : ∀ i, i < k → q i ≠ g) :
    CS w (wr.setCell ⟨R, k, none⟩ (.slice (some ⟨g, 0, none⟩) l.length c)) R N (k + 1) (up rows k l) (up q k g) (up cp k c) := by
  obtain ⟨h1, h2, h3, ⟨f, h4, h5⟩, h6, h7⟩ := h
  refine ⟨h1.setCell h2 _, h2, h3, ⟨_, h4.set k _, fun i hi => ?_⟩, fun i hi => ?_, fun i j hi hj e => ?_⟩
  · by_cases e : i = k
    · subst e; simp [up]
    · rw [up_ne _ _ e, up_ne _ _ e, up_ne _ _ e, ← h5 i (by omega)]
      exact if_neg e
  · by_cases e : i = k
    · subst e; rw [up_at, up_at, up_at]
      exact ⟨hg.setOther hR _, hw, hR⟩
    · rw [up_ne _ _ e, up_ne _ _ e, up_ne _ _ e]
      obtain ⟨a, b, c'⟩ := h6 i (by omega)
      exact ⟨a.setOther c' _, b, c'⟩
  · by_cases ei : i = k
    · by_cases ej : j = k
      · omega
      · subst ei; rw [up_at, up_ne _ _ ej] at e
        exact absurd e.symm (hd j (by omega))
    · by_cases ej : j = k
      · subst ej; rw [up_at, up_ne _ _ ei] at e
        exact absurd e (hd i (by omega))
      · rw [up_ne _ _ ei, up_ne _ _ ej] at e
        exact h7 i j (by omega) (by omega) e
/-- A cell of row j is written. -/
theorem CS.set {w wr : World} {R N k j o : Nat} {rows : Nat → List St} {q cp : Nat → Nat} {v : Value} {l' : List St} (h : CS w wr R N k rows q cp) (hj : j < k) (hl : RO (wr.setCell ⟨q j, o, none⟩ v) (q j) (cp j) l') (hlen : l'.length = (rows j).length) :
    CS w (wr.setCell ⟨q j, o, none⟩ v) R N k (up rows j l') q cp := by
  obtain ⟨h1, h2, h3, ⟨f, h4, h5⟩, h6, h7⟩ := h
  refine ⟨h1.setCell (h6 j hj).2.1 _, h2, h3, ⟨f, h4.setOther (fun e => (h6 j hj).2.2 e.symm) _, fun i hi => ?_⟩, fun i hi => ?_, h7⟩
  · by_cases e : i = j
    · subst e; rw [up_at, hlen]; exact h5 i hi
    · rw [up_ne _ _ e]; exact h5 i hi
  · by_cases e : i = j
    · subst e; rw [up_at]; exact ⟨hl, (h6 i hi).2⟩
    · rw [up_ne _ _ e]
      exact ⟨(h6 i hi).1.setOther (fun c => e (h7 i j hi hj c)) _, (h6 i hi).2⟩
/-- All rows are laid. -/
theorem CS.rr {w wr : World} {R N : Nat} {rows : Nat → List St} {q cp : Nat → Nat} (h : CS w wr R N N rows q cp) : RR wr (.slice (some ⟨R, 0, none⟩) N N) N ((List.range N).map rows) := by
  have hl : ((List.range N).map rows).length = N := by simp
  have hs : ∀ i, i < N → sw ((List.range N).map rows) i = rows i := fun i hi => by rw [sw_of_lt (by rw [hl]; exact hi)]; simp
  refine ⟨_, fun i => .slice (some ⟨q i, 0, none⟩) (rows i).length (cp i), cp, by rw [hl], by omega, h.nm, .inr ⟨R, 0, rfl, fun i hi => ?_⟩, fun i hi => ?_⟩
  · rw [hl] at hi; rw [Nat.zero_add]; exact h.cell hi (Nat.le_refl _)
  · rw [hl] at hi; rw [hs i hi]; exact (h.ro i hi).1.rs
theorem sw_range {N : Nat} {rows : Nat → List St} {l : List (List St)} (hl : l.length = N) (h : ∀ i, i < N → rows i = sw l i) : (List.range N).map rows = l := by
  apply List.ext_getElem (by simpa using hl.symm)
  intro i h1 h2
  have hi : i < N := by simpa using h1
  rw [List.getElem_map, List.getElem_range, h i hi, sw_of_lt h2]
/-- A chart and an error are returned. -/
def RetCE (w0 : World) (rows : List (List St)) (err : Int) (e : Ending) (w' : World) : Prop := ∃ v, e = .returned (.tuple #[.agg #[v], .int .i64 err]) ∧ RR w' v rows.length rows ∧ Ext w0 w'
theorem eiRows : EI Tryd.prog 26 41 (.slice Option.none 0 0) 24 := ⟨Tryd.underlying26, by kernel_rfl, rfl⟩
end Go.Proofs.YthllbcjglcplhaaDoor
