/- Texts of this claim in one file: libraries and walks. -/
import Derived.Deep.RegionHeld3
import Derived.Outline
import Derived.Shelf.Strings.Builder1
import Derived.Shelf.Strings.BuilderF
import Derived.Shelf.Strings.BuilderK
import Derived.Test.YtinijapkipeamaaDoorProg
import Derived.BigQuiet
import Derived.Test.YtinijapkipeamaaDoorMKnown0
import Derived.Test.YtinijapkipeamaaDoorMKnown4
/- Contracts of stitches.digit, put, Text. -/
namespace Go.Proofs.YtinijapkipeamaaDoor
set_option linter.unusedVariables false
set_option linter.unusedSimpArgs false
set_option maxRecDepth 8000
open Go Go.RowKit

theorem ret_str {a b : ByteArray} (h : a = b) : Ending.returned (.string a) = Ending.returned (.string b) := by rw [h]
theorem bytes_eq {a b : ByteArray} (h : a.data.toList = b.data.toList) : a = b := ByteArray.ext (Array.toList_inj.1 h)
theorem bstr_push (xs : List Int) : ∀ r : ByteArray, (xs.foldl (fun r n => r.push (UInt8.ofNat n.toNat)) r).data.toList = r.data.toList ++ xs.map (fun n => UInt8.ofNat n.toNat) := by
  induction xs with
  | nil => intro r; simp
  | cons x xs ih => intro r; rw [List.foldl_cons, ih]; simp [ByteArray.push]
theorem bstr_data (xs : List Int) : (bstr xs).data.toList = xs.map (fun n => UInt8.ofNat n.toNat) := by unfold bstr; rw [bstr_push]; rfl
theorem bstr_app (xs ys : List Int) : bstr xs ++ bstr ys = bstr (xs ++ ys) := by
  apply bytes_eq
  rw [ByteArray.data_append, Array.toList_append, bstr_data, bstr_data, bstr_data, List.map_append]
theorem bstr_size (xs : List Int) : (bstr xs).size = xs.length := by
  have : (bstr xs).size = (bstr xs).data.toList.length := by rw [Array.length_toList]; rfl
  rw [this, bstr_data, List.length_map]
theorem bstr_nil : bstr [] = ⟨#[]⟩ := rfl

/-- The symbol of a kind. -/
def symT : List Int := [107, 112, 111, 47, 118, 116, 115, 99]
/-- The table of the symbols lies where the program looks for it. -/
def Sy (w : World) : Prop := ∀ i, i < 8 → w.cell? ⟨0, i, none⟩ = some (.int .u8 (gi symT i))
theorem Sy.ext {w w' : World} (h : Sy w) (x : Ext w w') : Sy w' := fun i hi => x.cell (h i hi)
/-- The bytes of a stitch's text. -/
def St.tx (s : St) : List Int :=
  if s.chk ≠ 0 then [] else [gi symT (s.k - 1).toNat] ++ (if s.k = 8 then [48 + s.a, 48 + s.b, if s.f then 70 else 66] else []) ++ (if s.y = 1 then [] else [48 + s.y])
theorem tx_len (s : St) : s.tx.length ≤ 5 := by
  unfold St.tx
  split
  · simp
  · simp only [List.length_append]
    (repeat' split) <;> simp

theorem digit_calls (n : Int) (w : World) (h : 0 ≤ n ∧ n ≤ 9) : Calls Tryd.prog 67 #[.int .i64 n] w fun e w' => e = .returned (.int .u8 (48 + n)) ∧ w = w' := by
  obtain ⟨h1, h2⟩ := h
  go_enter Tryd.func67, Tryd.ntmps67
  go_wp2
  go_ret
  exact ⟨rfl, rfl⟩
theorem put_calls (t : ByteArray) (v : Value) (c : Nat) (xs : List Int) (w : World) (h : IS .u8 w v c xs) (ht : t.size ≤ 1000) (hx : xs.length ≤ 1000) : Calls Tryd.prog 66 #[.string t, v] w fun e w' => e = .returned (.string (t ++ bstr xs)) ∧ w = w' := by
  have hc : (convert 42 9 v).run Tryd.prog w = .ok (.string (bstr xs)) w := run_bstr h Tryd.underlying42 Tryd.underlying5 Tryd.underlying9
  obtain ⟨a, n, c', rfl, hn, rfl, h1⟩ := h.out
  have hs : (bstr xs).size ≤ 1000 := by rw [bstr_size]; exact hx
  generalize bstr xs = u at hc hs
  clear h hn h1 hx
  go_enter Tryd.func66, Tryd.ntmps66
  go_wp2
  go_ret
  exact ⟨rfl, rfl⟩

set_option maxHeartbeats 4000000 in
theorem SText_calls (s : St) (w : World) (hy : Sy w) : Calls Tryd.prog 51 #[s.val] w fun e w' => e = .returned (.string (bstr s.tx)) ∧ Ext w w' := by
  have hc := SCheck_calls s
  have hcc := St.chk_cases s
  have hok := St.chk_ok (s := s)
  have hB := fun (_ : Nat) => B5.new w s 52
  have Hc := Lib.hid hc; have HB := Lib.hid hB; have HY := Lib.hid hy
  clear hc hB hy
  rcases hcc with hc0 | hc1
  · obtain ⟨k1, k2, k3⟩ := hok hc0
    have htx : s.tx = [gi symT (s.k - 1).toNat] ++ (if s.k = 8 then [48 + s.a, 48 + s.b, if s.f then 70 else 66] else []) ++ (if s.y = 1 then [] else [48 + s.y]) := by unfold St.tx; rw [if_neg (by omega)]
    have HTX := Lib.hid htx
    replace Hc := Lib.hid (show ∀ w, Calls Tryd.prog 36 #[s.val] w fun e w' => e = .returned (.int .i64 0) ∧ Ext w w' from fun w => by have := Hc.out w; rw [hc0] at this; exact this)
    clear hc0 hok htx
    obtain ⟨j, hj⟩ : ∃ j : Nat, s.k - 1 = j := ⟨(s.k - 1).toNat, by omega⟩
    have hj8 : j < 8 := by omega
    have hj1 : (s.k - 1).toNat = j := by omega
    have HJ := Lib.hid hj1
    clear hj1
    unfold St.val at *
    go_enter Tryd.func51, Tryd.ntmps51
    go_wp2_with fail
    refine (Hc.out _).mono ?_
    rintro e w1 ⟨rfl, x1⟩
    have X1 := Lib.hid (((Ext.refl w).alloc _).trans x1)
    obtain ⟨c0, c1, c2, c3, c4⟩ := ((HB.out 0).ext x1).at
    simp only [Nat.zero_add] at c1 c2 c3 c4
    have hsy := (HY.out.ext X1.out) j hj8
    clear x1 Hc
    go_wp2_with fail
    refine (put_calls _ _ 1 [gi symT j] _ (IS.lit (xs := [gi symT j]) (arr := #[.int .u8 (gi symT j)]) rfl rfl rfl (Nat.le_of_lt (show 1 < 1000000 by decide))) (by decide) (by simp)).mono ?_
    rintro e w2 ⟨rfl, rfl⟩
    have he0 : ({ data := #[] } : ByteArray) ++ bstr [gi symT j] = bstr [gi symT j] := bstr_app [] _
    rw [he0]
    clear he0
    obtain ⟨w3, hw3⟩ : ∃ w3, w3 = w1.alloc (.cells #[.int .u8 (gi symT j)] 5) := ⟨_, rfl⟩
    have x3 : Ext w1 w3 := by rw [hw3]; exact (Ext.refl _).alloc _
    rw [← hw3]
    have X3 := Lib.hid (X1.out.trans x3)
    have d0 := x3.cell c0; have d1 := x3.cell c1; have d2 := x3.cell c2; have d3 := x3.cell c3; have d4 := x3.cell c4
    clear hw3 c0 c1 c2 c3 c4 hsy x3
    have HJ2 := Lib.hid (show gi symT (s.k - 1).toNat = gi symT j by rw [HJ.out])
    generalize gi symT j = g at *
    by_cases k8 : s.k = 8
    · have k8' : (s.k == 8) = true := beq_iff_eq.2 k8
      have kb : 1 ≤ s.a ∧ s.a ≤ 3 ∧ 1 ≤ s.b ∧ s.b ≤ 3 := by omega
      obtain ⟨kb1, kb2, kb3, kb4⟩ := kb
      have K8 := Lib.hid k8
      clear k8 k3
      cases hsf : s.f
      all_goals rw [hsf] at d4
      · have hf0 := Lib.hid (show (if s.k = 8 then [48 + s.a, 48 + s.b, if s.f then 70 else 66] else []) = [48 + s.a, 48 + s.b, 66] by rw [if_pos K8.out, hsf]; rfl)
        clear hsf
        go_wp2
        go_region_held3 (fun w' => w'.cell? ⟨w.heap.size, 2, none⟩ = some (.int .i64 s.a) ∧ w'.cell? ⟨w.heap.size, 3, none⟩ = some (.int .i64 s.b)) (first | exact ⟨d2, d3⟩ | go_keep) (first
          | (go_at_call_of 67 s.a; refine (digit_calls s.a _ ⟨by omega, by omega⟩).mono ?_; rintro e w6 ⟨rfl, rfl⟩)
          | (go_at_call_of 67 s.b; refine (digit_calls s.b _ ⟨by omega, by omega⟩).mono ?_; rintro e w7 ⟨rfl, rfl⟩)
          | (go_at_call 66; refine (put_calls _ _ 3 [48 + s.a, 48 + s.b, 66] _ ((IS.lit (e := 5) (xs := [48 + s.a, 48 + s.b, 66]) (arr := #[.int .u8 (48 + s.a), .int .u8 (48 + s.b), .int .u8 66]) rfl rfl rfl (Nat.le_of_lt (show 3 < 1000000 by decide))).ext ((Ext.refl _).drew)) (by rw [bstr_size]; simp) (by simp)).mono ?_; rintro e w8 ⟨rfl, rfl⟩)
          | fail)
        rw [bstr_app]
        obtain ⟨w5, hw5⟩ : ∃ w5, w5 = (w3.alloc (.cells #[.int .u8 (48 + s.a), .int .u8 (48 + s.b), .int .u8 66] 5)).drew := ⟨_, rfl⟩
        have x5 : Ext w3 w5 := by rw [hw5]; exact ((Ext.refl _).alloc _).drew
        rw [← hw5]
        have X5 := Lib.hid (X3.out.trans x5)
        replace d1 := x5.cell d1
        clear hw5 x5 d0 d2 d3 d4
        by_cases y1 : s.y = 1
        · have y1' : (s.y != 1) = false := by rw [bne, beq_iff_eq.2 y1]; rfl
          have hf := Lib.hid (show s.tx = ([g] ++ [48 + s.a, 48 + s.b, 66]) by rw [HTX.out, HJ2.out, hf0.out, if_pos y1]; (try simp))
          clear y1
          go_wp2
          go_ret
          exact ⟨ret_str (congrArg bstr hf.out.symm), X5.out⟩
        · have y1' : (s.y != 1) = true := by rw [bne, beq_eq_false_iff_ne.2 y1]; rfl
          have hf := Lib.hid (show s.tx = ([g] ++ [48 + s.a, 48 + s.b, 66]) ++ [48 + s.y] by rw [HTX.out, HJ2.out, hf0.out, if_neg y1]; (try simp))
          clear y1
          go_wp2_with fail
          refine (digit_calls s.y _ ⟨by omega, by omega⟩).mono ?_
          rintro e w8 ⟨rfl, rfl⟩
          go_wp2_with fail
          refine (put_calls _ _ 1 [48 + s.y] _ (IS.lit (xs := [48 + s.y]) (arr := #[.int .u8 (48 + s.y)]) rfl rfl rfl (Nat.le_of_lt (show 1 < 1000000 by decide))) (by rw [bstr_size]; simp) (by simp)).mono ?_
          rintro e w9 ⟨rfl, rfl⟩
          rw [bstr_app]
          go_wp2
          go_ret
          exact ⟨ret_str (congrArg bstr hf.out.symm), X5.out.alloc _⟩
      · have hf0 := Lib.hid (show (if s.k = 8 then [48 + s.a, 48 + s.b, if s.f then 70 else 66] else []) = [48 + s.a, 48 + s.b, 70] by rw [if_pos K8.out, hsf]; rfl)
        clear hsf
        go_wp2
        go_region_held3 (fun w' => w'.cell? ⟨w.heap.size, 2, none⟩ = some (.int .i64 s.a) ∧ w'.cell? ⟨w.heap.size, 3, none⟩ = some (.int .i64 s.b)) (first | exact ⟨d2, d3⟩ | go_keep) (first
          | (go_at_call_of 67 s.a; refine (digit_calls s.a _ ⟨by omega, by omega⟩).mono ?_; rintro e w6 ⟨rfl, rfl⟩)
          | (go_at_call_of 67 s.b; refine (digit_calls s.b _ ⟨by omega, by omega⟩).mono ?_; rintro e w7 ⟨rfl, rfl⟩)
          | (go_at_call 66; refine (put_calls _ _ 3 [48 + s.a, 48 + s.b, 70] _ ((IS.lit (e := 5) (xs := [48 + s.a, 48 + s.b, 70]) (arr := #[.int .u8 (48 + s.a), .int .u8 (48 + s.b), .int .u8 70]) rfl rfl rfl (Nat.le_of_lt (show 3 < 1000000 by decide))).ext ((Ext.refl _).drew)) (by rw [bstr_size]; simp) (by simp)).mono ?_; rintro e w8 ⟨rfl, rfl⟩)
          | fail)
        rw [bstr_app]
        obtain ⟨w5, hw5⟩ : ∃ w5, w5 = (w3.alloc (.cells #[.int .u8 (48 + s.a), .int .u8 (48 + s.b), .int .u8 70] 5)).drew := ⟨_, rfl⟩
        have x5 : Ext w3 w5 := by rw [hw5]; exact ((Ext.refl _).alloc _).drew
        rw [← hw5]
        have X5 := Lib.hid (X3.out.trans x5)
        replace d1 := x5.cell d1
        clear hw5 x5 d0 d2 d3 d4
        by_cases y1 : s.y = 1
        · have y1' : (s.y != 1) = false := by rw [bne, beq_iff_eq.2 y1]; rfl
          have hf := Lib.hid (show s.tx = ([g] ++ [48 + s.a, 48 + s.b, 70]) by rw [HTX.out, HJ2.out, hf0.out, if_pos y1]; (try simp))
          clear y1
          go_wp2
          go_ret
          exact ⟨ret_str (congrArg bstr hf.out.symm), X5.out⟩
        · have y1' : (s.y != 1) = true := by rw [bne, beq_eq_false_iff_ne.2 y1]; rfl
          have hf := Lib.hid (show s.tx = ([g] ++ [48 + s.a, 48 + s.b, 70]) ++ [48 + s.y] by rw [HTX.out, HJ2.out, hf0.out, if_neg y1]; (try simp))
          clear y1
          go_wp2_with fail
          refine (digit_calls s.y _ ⟨by omega, by omega⟩).mono ?_
          rintro e w8 ⟨rfl, rfl⟩
          go_wp2_with fail
          refine (put_calls _ _ 1 [48 + s.y] _ (IS.lit (xs := [48 + s.y]) (arr := #[.int .u8 (48 + s.y)]) rfl rfl rfl (Nat.le_of_lt (show 1 < 1000000 by decide))) (by rw [bstr_size]; simp) (by simp)).mono ?_
          rintro e w9 ⟨rfl, rfl⟩
          rw [bstr_app]
          go_wp2
          go_ret
          exact ⟨ret_str (congrArg bstr hf.out.symm), X5.out.alloc _⟩
    · have k8' : (s.k == 8) = false := beq_eq_false_iff_ne.2 k8
      have K8 := Lib.hid k8
      clear k8 k3
      by_cases y1 : s.y = 1
      · have y1' : (s.y != 1) = false := by rw [bne, beq_iff_eq.2 y1]; rfl
        have hf := Lib.hid (show s.tx = [g] by rw [HTX.out, HJ2.out, if_neg K8.out, if_pos y1]; (try simp))
        clear y1
        go_wp2
        go_ret
        exact ⟨ret_str (congrArg bstr hf.out.symm), X3.out⟩
      · have y1' : (s.y != 1) = true := by rw [bne, beq_eq_false_iff_ne.2 y1]; rfl
        have hf := Lib.hid (show s.tx = [g] ++ [48 + s.y] by rw [HTX.out, HJ2.out, if_neg K8.out, if_neg y1]; (try simp))
        clear y1
        go_wp2_with fail
        refine (digit_calls s.y _ ⟨by omega, by omega⟩).mono ?_
        rintro e w8 ⟨rfl, rfl⟩
        go_wp2_with fail
        refine (put_calls _ _ 1 [48 + s.y] _ (IS.lit (xs := [48 + s.y]) (arr := #[.int .u8 (48 + s.y)]) rfl rfl rfl (Nat.le_of_lt (show 1 < 1000000 by decide))) (by rw [bstr_size]; simp) (by simp)).mono ?_
        rintro e w9 ⟨rfl, rfl⟩
        rw [bstr_app]
        go_wp2
        go_ret
        exact ⟨ret_str (congrArg bstr hf.out.symm), X3.out.alloc _⟩
  · have hr := Lib.hid (show s.tx = [] by unfold St.tx; rw [if_pos (by omega)])
    have hq : (s.chk != 0) = true := by rw [hc1]; rfl
    generalize s.chk = q at Hc hq
    clear hc1 hok
    unfold St.val at *
    go_enter Tryd.func51, Tryd.ntmps51
    go_wp2_with fail
    refine (Hc.out _).mono ?_
    rintro e w1 ⟨rfl, x1⟩
    have X1 := Lib.hid (((Ext.refl w).alloc _).trans x1)
    clear x1
    go_wp2
    go_ret
    exact ⟨ret_str (congrArg bstr hr.out.symm), X1.out⟩
end Go.Proofs.YtinijapkipeamaaDoor
/-
  DERIVED: THE SHELF's CONTRACTS AT THIS DUMP, IN PLAIN WORDS (tools/lay-plain.mjs out of 'TrydShelf.lean', which tools/lay-shelf.mjs wrote): THE SAME DECLARATIONS UNDER THE SAME NAMES: 'import', 'namespace', 'open', 'def', 'theorem' AND NOTHING ELSE: no command of the shelf's: FOR A HAND-IN. Each laying: the table of numbers ('.._ren') and one theorem, a field a fact of the dump's own or the kernel's comparison; each contract: ONE APPLICATION.
-/
namespace Go.Proofs
open Go.Shelf
def Tryd.lays169_ren : Go.Shelf.Ren := ⟨fun | 169 => 52 | n => n, fun | 70 => 79 | 9 => 9 | 0 => 0 | 72 => 81 | 37 => 42 | 127 => 102 | 3 => 3 | 5 => 5 | n => n, fun | n => n⟩
theorem Tryd.lays169 : Go.Proofs.Lays.n169 Tryd.prog Tryd.lays169_ren := {
  mixed := by kernel_rfl
  f169 := Tryd.func52.trans (congrArg some (by kernel_rfl))
  t0 := Tryd.underlying0
  a0 := Tryd.isAgg0
  z0 := Tryd.sizeOf0
  v0 := Tryd.zeroValue0
  t3 := Tryd.underlying3
  a3 := Tryd.isAgg3
  z3 := Tryd.sizeOf3
  v3 := Tryd.zeroValue3
  t9 := Tryd.underlying9
  a9 := Tryd.isAgg9
  z9 := Tryd.sizeOf9
  v9 := Tryd.zeroValue9
  t37 := Tryd.underlying42
  a37 := Tryd.isAgg42
  z37 := Tryd.sizeOf42
  v37 := Tryd.zeroValue42
  t70 := Tryd.underlying79
  a70 := Tryd.isAgg79
  z70 := Tryd.sizeOf79
  v70 := Tryd.zeroValue79
  t72 := Tryd.underlying81
  a72 := Tryd.isAgg81
  z72 := Tryd.sizeOf81
  v72 := Tryd.zeroValue81
  t127 := Tryd.underlying102
  a127 := Tryd.isAgg102
  z127 := Tryd.sizeOf102
  v127 := Tryd.zeroValue102 }
theorem Tryd.Builder_Extra_169 : Builder.Extra Tryd.prog Tryd.lays169_ren := {
  sizeBuilder := by kernel_rfl
  liesBuilder := by kernel_rfl
  t5 := Tryd.underlying5
  a5 := Tryd.isAgg5
  z5 := Tryd.sizeOf5
  v5 := Tryd.zeroValue5
  infoByte := by kernel_rfl
  cellsByte := by kernel_rfl
  sizeByte := by kernel_rfl
  neB5 := by decide }
open Go.RowKit in
/-- (*strings.Builder).String: "String returns the accumulated string.": OF A BUILDER THAT HOLDS AT LEAST ONE BYTE. ✋ THE MODEL FREEZES THOSE BYTES IN THE BUFFER (unsafe.String): a later write INTO them ends the model's run without an answer; a later append BEHIND them goes on. The statement's order of evaluation is drawn: one draw. (LAID: no walk: one application.) -/
theorem Tryd.Builder_String (B b : Nat) (l : List UInt8) (w : World) (h : Lib.IsBuilder 81 5 B b (Lib.byteCells l) w) (h0 : l ≠ []) :
    Calls Tryd.prog 52 #[.pointer (some ⟨b, 0, none⟩)] w fun e w' => e = .returned (.string ⟨l.toArray⟩) ∧ Below B w w' := Any.Builder_String Tryd.lays169 Tryd.Builder_Extra_169 B b l w h h0
open Go.RowKit in
/-- (*strings.Builder).String OF A BUILDER THAT HOLDS NO BYTE: the empty string. (Its buffer is nil, or a row of which it has taken nothing yet; where that row has NO capacity the model lays one new block for unsafe.SliceData's 'some address'.) One draw. (LAID: no walk: one application.) -/
theorem Tryd.Builder_String_empty (B b : Nat) (w : World) (h : Lib.IsBuilder 81 5 B b [] w) (hBw : B ≤ w.heap.size) :
    Calls Tryd.prog 52 #[.pointer (some ⟨b, 0, none⟩)] w fun e w' => e = .returned (.string ⟨#[]⟩) ∧ Below B w w' := Any.Builder_String_empty Tryd.lays169 Tryd.Builder_Extra_169 B b w h hBw
open Go.RowKit in
/-- (*strings.Builder).String: "String returns the accumulated string.": WHATEVER THE BUILDER HOLDS. (LAID: no walk: one application.) -/
theorem Tryd.Builder_String_any (B b : Nat) (l : List UInt8) (w : World) (h : Lib.IsBuilder 81 5 B b (Lib.byteCells l) w) (hBw : B ≤ w.heap.size) :
    Calls Tryd.prog 52 #[.pointer (some ⟨b, 0, none⟩)] w fun e w' => e = .returned (.string ⟨l.toArray⟩) ∧ Below B w w' := Any.Builder_String_any Tryd.lays169 Tryd.Builder_Extra_169 B b l w h hBw
open Go.RowKit in
/-- (*strings.Builder).String: "String returns the accumulated string.": OF A BUILDER THAT HOLDS AT LEAST ONE BYTE. ✋ THE MODEL FREEZES THOSE BYTES IN THE BUFFER (unsafe.String): a later write INTO them ends the model's run without an answer; a later append BEHIND them goes on. The statement's order of evaluation is drawn: one draw. THE FORM '_f': IT SAYS BESIDES THAT THE BUILDER IS A BUILDER STILL ('Lib.IsBuilderF', the same bytes): SO IT CAN BE WRITTEN ON: 'b.WriteString(b.String()[:k])'. (LAID: no walk: one application.) -/
theorem Tryd.Builder_String_f (B b : Nat) (l : List UInt8) (w : World) (h : Lib.IsBuilderF 81 5 B b (Lib.byteCells l) w) (h0 : l ≠ []) :
    Calls Tryd.prog 52 #[.pointer (some ⟨b, 0, none⟩)] w fun e w' => e = .returned (.string ⟨l.toArray⟩) ∧ (Lib.IsBuilderF 81 5 B b (Lib.byteCells l) w' ∧ Below B w w') := Any.Builder_String_f Tryd.lays169 Tryd.Builder_Extra_169 B b l w h h0
open Go.RowKit in
/-- (*strings.Builder).String OF A BUILDER THAT HOLDS NO BYTE: the empty string; THE FORM '_f': a builder still. (LAID: no walk: one application.) -/
theorem Tryd.Builder_String_empty_f (B b : Nat) (w : World) (h : Lib.IsBuilderF 81 5 B b [] w) (hBw : B ≤ w.heap.size) :
    Calls Tryd.prog 52 #[.pointer (some ⟨b, 0, none⟩)] w fun e w' => e = .returned (.string ⟨#[]⟩) ∧ (Lib.IsBuilderF 81 5 B b [] w' ∧ Below B w w') := Any.Builder_String_empty_f Tryd.lays169 Tryd.Builder_Extra_169 B b w h hBw
open Go.RowKit in
/-- (*strings.Builder).String: "String returns the accumulated string.": WHATEVER THE BUILDER HOLDS; THE FORM '_f': OF A BUILDER THAT MAY HAVE BEEN READ BEFORE; AND IT IS A BUILDER STILL, holding the same bytes: it can be written on. (LAID: no walk: one application.) -/
theorem Tryd.Builder_String_any_f (B b : Nat) (l : List UInt8) (w : World) (h : Lib.IsBuilderF 81 5 B b (Lib.byteCells l) w) (hBw : B ≤ w.heap.size) :
    Calls Tryd.prog 52 #[.pointer (some ⟨b, 0, none⟩)] w fun e w' => e = .returned (.string ⟨l.toArray⟩) ∧ (Lib.IsBuilderF 81 5 B b (Lib.byteCells l) w' ∧ Below B w w') := Any.Builder_String_any_f Tryd.lays169 Tryd.Builder_Extra_169 B b l w h hBw
open Go.RowKit in
/-- (*strings.Builder).String: "String returns the accumulated string.": OF A BUILDER THAT HOLDS AT LEAST ONE BYTE. ✋ THE MODEL FREEZES THOSE BYTES IN THE BUFFER (unsafe.String): a later write INTO them ends the model's run without an answer; a later append BEHIND them goes on. The statement's order of evaluation is drawn: one draw. THE FORM '_k': OVER 'Lib.IsBuilderF' (a builder that 'String()' may have read), AND WITH THE FRAME THAT REACHES ABOVE THE BUILDER: 'Lib.OthersKept': every block that is not b and is no row of uint8's stands as it stood: the iterator of a range among them. (LAID: no walk: one application.) -/
theorem Tryd.Builder_String_k (B b : Nat) (l : List UInt8) (w : World) (h : Lib.IsBuilderF 81 5 B b (Lib.byteCells l) w) (h0 : l ≠ []) :
    Calls Tryd.prog 52 #[.pointer (some ⟨b, 0, none⟩)] w fun e w' => e = .returned (.string ⟨l.toArray⟩) ∧ (Lib.IsBuilderF 81 5 B b (Lib.byteCells l) w' ∧ Below B w w' ∧ Lib.OthersKept 5 (some b) w w') := Any.Builder_String_k Tryd.lays169 Tryd.Builder_Extra_169 B b l w h h0
open Go.RowKit in
/-- (*strings.Builder).String OF A BUILDER THAT HOLDS NO BYTE: the empty string; THE FORM '_k': OVER 'Lib.IsBuilderF' (a builder that 'String()' may have read), AND WITH THE FRAME THAT REACHES ABOVE THE BUILDER: 'Lib.OthersKept': every block that is not b and is no row of uint8's stands as it stood: the iterator of a range among them. (LAID: no walk: one application.) -/
theorem Tryd.Builder_String_empty_k (B b : Nat) (w : World) (h : Lib.IsBuilderF 81 5 B b [] w) (hBw : B ≤ w.heap.size) :
    Calls Tryd.prog 52 #[.pointer (some ⟨b, 0, none⟩)] w fun e w' => e = .returned (.string ⟨#[]⟩) ∧ (Lib.IsBuilderF 81 5 B b [] w' ∧ Below B w w' ∧ Lib.OthersKept 5 (some b) w w') := Any.Builder_String_empty_k Tryd.lays169 Tryd.Builder_Extra_169 B b w h hBw
open Go.RowKit in
/-- (*strings.Builder).String: "String returns the accumulated string.": WHATEVER THE BUILDER HOLDS; THE FORM '_k': OVER 'Lib.IsBuilderF' (a builder that 'String()' may have read), AND WITH THE FRAME THAT REACHES ABOVE THE BUILDER: 'Lib.OthersKept': every block that is not b and is no row of uint8's stands as it stood: the iterator of a range among them. (LAID: no walk: one application.) -/
theorem Tryd.Builder_String_any_k (B b : Nat) (l : List UInt8) (w : World) (h : Lib.IsBuilderF 81 5 B b (Lib.byteCells l) w) (hBw : B ≤ w.heap.size) :
    Calls Tryd.prog 52 #[.pointer (some ⟨b, 0, none⟩)] w fun e w' => e = .returned (.string ⟨l.toArray⟩) ∧ (Lib.IsBuilderF 81 5 B b (Lib.byteCells l) w' ∧ Below B w w' ∧ Lib.OthersKept 5 (some b) w w') := Any.Builder_String_any_k Tryd.lays169 Tryd.Builder_Extra_169 B b l w h hBw
end Go.Proofs
/- Contracts of strings.Builder's copyCheck and WriteByte (the shelf's walks, turned to this dump, whose copyCheck ends otherwise at a copied builder). -/
namespace Go.Proofs.YtinijapkipeamaaDoor
set_option linter.unusedVariables false
set_option linter.unusedSimpArgs false
open Go Go.RowKit Go.Shelf

theorem bld_info : (Tryd.prog.info? 81).map (·.size) = some 2 := by kernel_rfl

set_option maxHeartbeats 1000000 in
set_option maxRecDepth 100000 in
theorem bld_check_used (b : Nat) (w : World) (h0 : w.cell? ⟨b, 0, none⟩ = some (.pointer (some ⟨b, 0, none⟩))) :
    Calls Tryd.prog 65 #[.pointer (some ⟨b, 0, none⟩)] w fun e w' => e = .returned (.tuple #[]) ∧ w' = w := by
  obtain ⟨j, hj, _⟩ := Option.map_eq_some_iff.1 bld_info
  go_enter Tryd.func65, Tryd.ntmps65
  go_wp2
  rw [Lib.run_neq_ptr_same w _ Tryd.underlying79 hj]
  go_wp2
  go_end0
  exact ⟨rfl, rfl⟩

set_option maxHeartbeats 1000000 in
set_option maxRecDepth 100000 in
theorem bld_check_fresh (b : Nat) (w : World) (h0 : w.cell? ⟨b, 0, none⟩ = some (.pointer none)) (hsh : w.shape? b = some (81, 2)) (hfz : w.frozen? ⟨b, 0, none⟩ = false) :
    Calls Tryd.prog 65 #[.pointer (some ⟨b, 0, none⟩)] w fun e w' => e = .returned (.tuple #[]) ∧ w' = w.setCell ⟨b, 0, none⟩ (.pointer (some ⟨b, 0, none⟩)) := by
  obtain ⟨j, hj, hjs⟩ := Option.map_eq_some_iff.1 bld_info
  go_enter Tryd.func65, Tryd.ntmps65
  go_wp2
  rw [Lib.run_to_unsafe w ⟨b, 0, none⟩ Tryd.underlying79 Tryd.underlying104 hj (by rw [hjs]; decide) hsh (Nat.zero_lt_succ 1)]
  simp only [Result.andThen]
  rw [Oper.upon_value]
  go_wp2
  rw [run_callFunc_extern Tryd.func69 (by kernel_rfl) (by kernel_rfl) (by kernel_rfl) (e := Extern.AbiNoEscape.same) (by kernel_rfl)]
  rw [Lib.run_noEscape]
  simp only [Result.andThen]
  rw [Oper.upon_value]
  go_wp2
  rw [Lib.run_from_unsafe w ⟨b, 0, none⟩ Tryd.underlying104 Tryd.underlying79 hj hsh (by kernel_rfl)]
  simp only [Result.andThen]
  rw [Oper.upon_value]
  go_wp2
  go_end0
  exact ⟨rfl, rfl⟩

theorem bld_check (B b : Nat) (bs : List Value) (w : World) (h : Lib.IsBuilder 81 5 B b bs w) :
    Calls Tryd.prog 65 #[.pointer (some ⟨b, 0, none⟩)] w fun e w' => e = .returned (.tuple #[]) ∧ (Lib.BuilderAt 81 5 B b (.pointer (some ⟨b, 0, none⟩)) bs w' ∧ Below B w w') := by
  rcases h with h | h
  · refine (bld_check_fresh b w h.cell0 h.shape h.frozen0).mono ?_
    rintro e w' ⟨rfl, rfl⟩
    exact ⟨rfl, h.used _, (Below.refl B w).setCell (p := ⟨b, 0, none⟩) h.1 _⟩
  · refine (bld_check_used b w h.cell0).mono ?_
    rintro e w' ⟨rfl, rfl⟩
    exact ⟨rfl, h, Below.refl B _⟩

set_option maxHeartbeats 2000000 in
set_option maxRecDepth 100000 in
theorem bld_byte (B b : Nat) (bs : List Value) (c : Int) (w : World) (h : Lib.IsBuilder 81 5 B b bs w) (hlen : bs.length + 1 ≤ 140737488355328) (hBw : B ≤ w.heap.size) :
    Calls Tryd.prog 49 #[.pointer (some ⟨b, 0, none⟩), .int .u8 c] w fun e w' => e = .returned .nilIface ∧ (Lib.IsBuilder 81 5 B b (bs ++ [.int .u8 c]) w' ∧ Below B w w') := by
  obtain ⟨i0, hi, hz0, hz1, hz2⟩ := info_parts (show (Tryd.prog.info? 5).map (fun i => (i.zero, i.size, i.bytes)) = some (some (.int .u8 0), 1, 1) by kernel_rfl)
  go_enter Tryd.func49, Tryd.ntmps49
  go_wp2_with (go_at_call 65; refine (bld_check B b bs _ h).mono ?_)
  rintro e w1 ⟨rfl, h1, hb1⟩
  obtain ⟨hB, v, hbk, hown, hne⟩ := h1
  have c0 : w1.cell? ⟨b, 0, none⟩ = some (.pointer (some ⟨b, 0, none⟩)) := by rw [Lib.cell_of_heap hbk]; rfl
  have c1 : w1.cell? ⟨b, 1, none⟩ = some v := by rw [Lib.cell_of_heap hbk]; rfl
  go_wp2_with (at_builtin; refine wpList_append_own _ rfl _ _ 42 rfl B 5 i0 (.int .u8 0) 1 1 Tryd.underlying42 hi hz0 hz1 hz2 rfl (by decide) _ _ _ rfl (hown.alloc _) ⟨w1.heap.size, 0, none⟩ 1 1 [.int .u8 c] rfl rfl ?c1 ?c2 ?c3 ?c4 ?c5 ?_)
  case c1 =>
    intro j u hj
    match j, hj with
    | 0, hj => simp at hj; subst hj; simp [Addr.add]
  case c2 => intro u hu; simp at hu; subst hu; rfl
  case c3 => unfold maxLen; omega
  case c4 => omega
  case c5 => have := hb1.size; simp; omega
  intro v' w2 hown' hgrow _
  have hlt : b < w1.heap.size := by
    rcases Nat.lt_or_ge b w1.heap.size with h' | h'
    · exact h'
    · simp [Array.getElem?_eq_none h'] at hbk
  have hb2 : w2.heap[b]? = some (.cells #[.pointer (some ⟨b, 0, none⟩), v] 81 (0, 0)) := by
    rw [hgrow.block b (by simp; omega) (fun e => hne e.symm), Lib.alloc_old w1 _ b hlt]
    exact hbk
  have d0 : w2.cell? ⟨b, 0, none⟩ = some (.pointer (some ⟨b, 0, none⟩)) := by rw [Lib.cell_of_heap hb2]; rfl
  have d1 : w2.cell? ⟨b, 1, none⟩ = some v := by rw [Lib.cell_of_heap hb2]; rfl
  have f1 : w2.frozen? ⟨b, 1, none⟩ = false := Lib.frozen_of_heap hb2 1
  obtain ⟨g, cap, rfl⟩ : ∃ g cap, v' = .slice (some ⟨g, 0, none⟩) (bs.length + 1) cap := by
    rcases hown'.2 with ⟨_, h0⟩ | ⟨g, cap, cur, hv, _⟩
    · omega
    · exact ⟨g, cap, hv⟩
  go_wp2
  go_ret
  refine ⟨rfl, .inr ?_, ?_⟩
  · exact Lib.BuilderAt.put (T := 81) (e := 5) hB hb2 (bs' := bs ++ [.int .u8 c]) (by simpa using hown') (by decide)
  · exact ((hb1.alloc (by have := hb1.size; omega) _).grown hgrow (by have := hb1.size; simp; omega) (fun k hk => (hown.lt k hk).1)).setCell (p := ⟨b, 1, none⟩) hB _

/-- What lies in other blocks, of another type than bytes, is kept. -/
def KeptBut (b : Nat) (w w' : World) : Prop := ∀ (g : Nat) (o : Array Value) (t : TypeId), w.heap[g]? = some (.cells o t (0, 0)) → g ≠ b → t ≠ 5 → w'.heap[g]? = some (.cells o t (0, 0))
theorem bld_check2 (B b : Nat) (bs : List Value) (w : World) (h : Lib.IsBuilder 81 5 B b bs w) :
    Calls Tryd.prog 65 #[.pointer (some ⟨b, 0, none⟩)] w fun e w' => e = .returned (.tuple #[]) ∧ (Lib.BuilderAt 81 5 B b (.pointer (some ⟨b, 0, none⟩)) bs w' ∧ Below B w w' ∧ KeptBut b w w') := by
  rcases h with h | h
  · refine (bld_check_fresh b w h.cell0 h.shape h.frozen0).mono ?_
    rintro e w' ⟨rfl, rfl⟩
    exact ⟨rfl, h.used _, (Below.refl B w).setCell (p := ⟨b, 0, none⟩) h.1 _, fun g o t hg hb _ => by rw [Deep.blk_setCell_other _ _ _ _ hb]; exact hg⟩
  · refine (bld_check_used b w h.cell0).mono ?_
    rintro e w' ⟨rfl, rfl⟩
    exact ⟨rfl, h, Below.refl B _, fun g o t hg _ _ => hg⟩

set_option maxHeartbeats 2000000 in
set_option maxRecDepth 100000 in
theorem bld_byte2 (B b : Nat) (bs : List Value) (c : Int) (w : World) (h : Lib.IsBuilder 81 5 B b bs w) (hlen : bs.length + 1 ≤ 140737488355328) (hBw : B ≤ w.heap.size) :
    Calls Tryd.prog 49 #[.pointer (some ⟨b, 0, none⟩), .int .u8 c] w fun e w' => e = .returned .nilIface ∧ (Lib.IsBuilder 81 5 B b (bs ++ [.int .u8 c]) w' ∧ Below B w w' ∧ KeptBut b w w') := by
  obtain ⟨i0, hi, hz0, hz1, hz2⟩ := info_parts (show (Tryd.prog.info? 5).map (fun i => (i.zero, i.size, i.bytes)) = some (some (.int .u8 0), 1, 1) by kernel_rfl)
  go_enter Tryd.func49, Tryd.ntmps49
  go_wp2_with (go_at_call 65; refine (bld_check2 B b bs _ h).mono ?_)
  rintro e w1 ⟨rfl, h1, hb1, hk1⟩
  obtain ⟨hB, v, hbk, hown, hne⟩ := h1
  have c0 : w1.cell? ⟨b, 0, none⟩ = some (.pointer (some ⟨b, 0, none⟩)) := by rw [Lib.cell_of_heap hbk]; rfl
  have c1 : w1.cell? ⟨b, 1, none⟩ = some v := by rw [Lib.cell_of_heap hbk]; rfl
  go_wp2_with (at_builtin; refine wpList_append_own _ rfl _ _ 42 rfl B 5 i0 (.int .u8 0) 1 1 Tryd.underlying42 hi hz0 hz1 hz2 rfl (by decide) _ _ _ rfl (hown.alloc _) ⟨w1.heap.size, 0, none⟩ 1 1 [.int .u8 c] rfl rfl ?c1 ?c2 ?c3 ?c4 ?c5 ?_)
  case c1 =>
    intro j u hj
    match j, hj with
    | 0, hj => simp at hj; subst hj; simp [Addr.add]
  case c2 => intro u hu; simp at hu; subst hu; rfl
  case c3 => unfold maxLen; omega
  case c4 => omega
  case c5 => have := hb1.size; simp; omega
  intro v' w2 hown' hgrow _
  have hlt : b < w1.heap.size := by
    rcases Nat.lt_or_ge b w1.heap.size with h' | h'
    · exact h'
    · simp [Array.getElem?_eq_none h'] at hbk
  have hb2 : w2.heap[b]? = some (.cells #[.pointer (some ⟨b, 0, none⟩), v] 81 (0, 0)) := by
    rw [hgrow.block b (by simp; omega) (fun e => hne e.symm), Lib.alloc_old w1 _ b hlt]
    exact hbk
  have d0 : w2.cell? ⟨b, 0, none⟩ = some (.pointer (some ⟨b, 0, none⟩)) := by rw [Lib.cell_of_heap hb2]; rfl
  have d1 : w2.cell? ⟨b, 1, none⟩ = some v := by rw [Lib.cell_of_heap hb2]; rfl
  have f1 : w2.frozen? ⟨b, 1, none⟩ = false := Lib.frozen_of_heap hb2 1
  obtain ⟨g, cap, rfl⟩ : ∃ g cap, v' = .slice (some ⟨g, 0, none⟩) (bs.length + 1) cap := by
    rcases hown'.2 with ⟨_, h0⟩ | ⟨g, cap, cur, hv, _⟩
    · omega
    · exact ⟨g, cap, hv⟩
  go_wp2
  go_ret
  refine ⟨rfl, .inr ?_, ?_, fun q o t hq hqb hqt => ?_⟩
  rotate_left 2
  · have h1 := hk1 q o t hq hqb hqt
    have hlt : q < w1.heap.size := by
      rcases Nat.lt_or_ge q w1.heap.size with h' | h'
      · exact h'
      · rw [Array.getElem?_eq_none h'] at h1; cases h1
    have hno : some q ≠ v.ownBlock := fun e => by
      obtain ⟨_, ho⟩ := hown
      rcases ho with ⟨hv, _⟩ | ⟨g', cap', cur', hv, _, hg', _⟩
      · rw [hv] at e; cases e
      · rw [hv] at e
        obtain rfl : q = g' := Option.some.inj e
        rw [h1] at hg'
        simp at hg'
        exact hqt hg'.2
    rw [Deep.blk_setCell_other _ _ _ _ hqb, hgrow.block q (by simp; omega) hno, Lib.alloc_old w1 _ q hlt]
    exact h1
  · exact Lib.BuilderAt.put (T := 81) (e := 5) hB hb2 (bs' := bs ++ [.int .u8 c]) (by simpa using hown') (by decide)
  · exact ((hb1.alloc (by have := hb1.size; omega) _).grown hgrow (by have := hb1.size; simp; omega) (fun k hk => (hown.lt k hk).1)).setCell (p := ⟨b, 1, none⟩) hB _

set_option maxHeartbeats 2000000 in
set_option maxRecDepth 100000 in
theorem bld_string (B b : Nat) (bs : List Value) (s : ByteArray) (w : World) (h : Lib.IsBuilder 81 5 B b bs w) (hlen : bs.length + s.size ≤ 140737488355328) (hBw : B ≤ w.heap.size) :
    Calls Tryd.prog 50 #[.pointer (some ⟨b, 0, none⟩), .string s] w fun e w' => e = .returned (.tuple #[.int .i64 s.size, .nilIface]) ∧ (Lib.IsBuilder 81 5 B b (bs ++ Lib.strCells s) w' ∧ Below B w w') := by
  obtain ⟨i0, hi, hz0, hz1, hz2⟩ := info_parts (show (Tryd.prog.info? 5).map (fun i => (i.zero, i.size, i.bytes)) = some (some (.int .u8 0), 1, 1) by kernel_rfl)
  go_enter Tryd.func50, Tryd.ntmps50
  go_wp2_with (go_at_call 65; refine (bld_check B b bs _ h).mono ?_)
  rintro e w1 ⟨rfl, h1, hb1⟩
  obtain ⟨hB, v, hbk, hown, hne⟩ := h1
  have c0 : w1.cell? ⟨b, 0, none⟩ = some (.pointer (some ⟨b, 0, none⟩)) := by rw [Lib.cell_of_heap hbk]; rfl
  have c1 : w1.cell? ⟨b, 1, none⟩ = some v := by rw [Lib.cell_of_heap hbk]; rfl
  go_wp2_with (at_builtin; refine Lib.wpList_append_own_string _ rfl _ _ 42 9 rfl B 5 i0 Tryd.underlying42 Tryd.underlying9 hi hz0 hz1 hz2 _ _ _ rfl hown s rfl ?c3 ?c4 ?c5 ?_)
  case c3 => unfold maxLen; omega
  case c4 => omega
  case c5 => have := hb1.size; omega
  intro v' w2 hown' hgrow _
  have hlt : b < w1.heap.size := by
    rcases Nat.lt_or_ge b w1.heap.size with h' | h'
    · exact h'
    · simp [Array.getElem?_eq_none h'] at hbk
  have hb2 : w2.heap[b]? = some (.cells #[.pointer (some ⟨b, 0, none⟩), v] 81 (0, 0)) := by
    rw [hgrow.block b hlt (fun e => hne e.symm)]
    exact hbk
  have d0 : w2.cell? ⟨b, 0, none⟩ = some (.pointer (some ⟨b, 0, none⟩)) := by rw [Lib.cell_of_heap hb2]; rfl
  have d1 : w2.cell? ⟨b, 1, none⟩ = some v := by rw [Lib.cell_of_heap hb2]; rfl
  have f1 : w2.frozen? ⟨b, 1, none⟩ = false := Lib.frozen_of_heap hb2 1
  obtain ⟨ao, n', cap, rfl⟩ : ∃ ao n' cap, v' = .slice ao n' cap := by
    rcases hown'.2 with ⟨hv, _⟩ | ⟨g, cap, cur, hv, _⟩
    · exact ⟨_, _, _, hv⟩
    · exact ⟨_, _, _, hv⟩
  go_wp2
  go_ret2
  refine ⟨rfl, .inr ?_, ?_⟩
  · exact Lib.BuilderAt.put (T := 81) (e := 5) hB hb2 (bs' := bs ++ Lib.strCells s) (by simpa [Lib.strCells_length] using hown') (by decide)
  · exact (hb1.grown hgrow (by have := hb1.size; omega) (fun k hk => (hown.lt k hk).1)).setCell (p := ⟨b, 1, none⟩) hB _
theorem bld_lt {B b : Nat} {bs : List Value} {w : World} (h : Lib.IsBuilder 81 5 B b bs w) : b < w.heap.size := by
  rcases h with h | h <;> exact h.lt
end Go.Proofs.YtinijapkipeamaaDoor
/- Contract of charts.Text. -/
namespace Go.Proofs.YtinijapkipeamaaDoor
set_option linter.unusedVariables false
set_option linter.unusedSimpArgs false
set_option maxRecDepth 8000
open Go Go.RowKit

/-- The bytes of the first k stitches of a row. -/
def rowT (r : List St) : Nat → List Int
  | 0 => []
  | k + 1 => rowT r k ++ (if k = 0 then [] else [32]) ++ (si r k).tx
/-- The bytes of the last k rows, the last one first. -/
def chT (rows : List (List St)) : Nat → List Int
  | 0 => []
  | k + 1 => chT rows k ++ rowT (sw rows (rows.length - 1 - k)) (sw rows (rows.length - 1 - k)).length ++ [10]
/-- The bytes of a chart's text. -/
def ctx (rows : List (List St)) : List Int := if (cloads rows).1 ≠ 0 then [] else chT rows rows.length

def Byt (xs : List Int) : Prop := ∀ x ∈ xs, 0 ≤ x ∧ x ≤ 255
theorem Byt.app {xs ys : List Int} (h : Byt xs) (k : Byt ys) : Byt (xs ++ ys) := fun x hx => by
  rcases List.mem_append.1 hx with hx | hx
  · exact h x hx
  · exact k x hx
theorem byt_one {x : Int} (h : 0 ≤ x ∧ x ≤ 255) : Byt [x] := fun y hy => by rw [List.mem_singleton.1 hy]; exact h
theorem byt_nil : Byt [] := fun x hx => by cases hx
theorem byt_tx (s : St) : Byt s.tx := by
  unfold St.tx
  split
  · exact byt_nil
  · rename_i h
    obtain ⟨k1, k2, k3⟩ := St.chk_ok (s := s) (by simpa using h)
    refine Byt.app (Byt.app (byt_one ?_) ?_) ?_
    · obtain ⟨j, hj⟩ : ∃ j : Nat, (s.k - 1).toNat = j := ⟨_, rfl⟩
      have hj8 : j < 8 := by omega
      rw [hj]
      have : ∀ j, j < 8 → 0 ≤ gi symT j ∧ gi symT j ≤ 255 := by decide
      exact this j hj8
    · split
      · intro x hx
        simp only [List.mem_cons, List.not_mem_nil, or_false] at hx
        rcases hx with rfl | rfl | rfl
        · omega
        · omega
        · split <;> omega
      · exact byt_nil
    · split
      · exact byt_nil
      · exact byt_one (by omega)
theorem byt_row (r : List St) : ∀ k, Byt (rowT r k)
  | 0 => byt_nil
  | k + 1 => by
    unfold rowT
    refine ((byt_row r k).app ?_).app (byt_tx _)
    split
    · exact byt_nil
    · exact byt_one (by omega)
theorem byt_ch (rows : List (List St)) : ∀ k, Byt (chT rows k)
  | 0 => byt_nil
  | k + 1 => ((byt_ch rows k).app (byt_row _ _)).app (byt_one (by omega))
theorem rowT_len (r : List St) : ∀ k, (rowT r k).length ≤ 6 * k
  | 0 => by simp [rowT]
  | k + 1 => by
    have h1 := rowT_len r k
    have h2 := tx_len (si r k)
    unfold rowT
    simp only [List.length_append]
    split <;> simp <;> omega
theorem chT_len {rows : List (List St)} (h : ∀ i, i < rows.length → (sw rows i).length ≤ 16) : ∀ k, k ≤ rows.length → (chT rows k).length ≤ 97 * k
  | 0, _ => by simp [chT]
  | k + 1, hk => by
    have h1 := chT_len h k (by omega)
    have h2 := h (rows.length - 1 - k) (by omega)
    have h3 := rowT_len (sw rows (rows.length - 1 - k)) (sw rows (rows.length - 1 - k)).length
    unfold chT
    simp only [List.length_append, List.length_singleton]
    omega
theorem strCells_bstr {xs : List Int} (h : Byt xs) : Lib.strCells (bstr xs) = xs.map (Value.int .u8) := by
  rw [Lib.strCells_eq, bstr_data]
  unfold Lib.byteCells
  rw [List.map_map]
  refine List.map_congr_left fun x hx => ?_
  have := h x hx
  show Value.int .u8 ((UInt8.ofNat x.toNat).toNat : Int) = _
  rw [UInt8.toNat_ofNat']
  congr 1
  omega
theorem bld_ext {T e : TypeId} {B b : Nat} {bs : List Value} {w w' : World} (h : Lib.IsBuilder T e B b bs w) (x : Ext w w') : Lib.IsBuilder T e B b bs w' := by
  rcases h with ⟨hB, v, hb, hown, hne⟩ | ⟨hB, v, hb, hown, hne⟩
  · exact .inl ⟨hB, v, x.block hb, own_ext hown x, hne⟩
  · exact .inr ⟨hB, v, x.block hb, own_ext hown x, hne⟩
theorem bstr_back (xs : List Int) : (⟨(bstr xs).data.toList.toArray⟩ : ByteArray) = bstr xs := by apply bytes_eq; simp

set_option maxHeartbeats 4000000 in
theorem CText_calls (v : Value) (c : Nat) (rows : List (List St)) (w : World) (h : RR w v c rows) (hy : Sy w) :
    Calls Tryd.prog 35 #[.agg #[v]] w fun e w' => e = .returned (.string (bstr (ctx rows))) ∧ Ext w w' := by
  obtain ⟨ao, n, rfl, hn, hnc, hcm, hat⟩ := h.open
  unfold maxLen at hcm
  have hck := fun w' (x : Ext w w') => CCheck_calls _ c rows w' (h.ext x)
  have HCk := Lib.hid hck; have HA := Lib.hid hat; have HY := Lib.hid hy
  clear hck hat h hy
  have hbox := fun (w' : World) (x : Ext (w.alloc (.cells #[.slice ao n c] 26)) w') => x.cell (show (w.alloc (.cells #[.slice ao n c] 26)).cell? ⟨w.heap.size, 0, none⟩ = some (.slice ao n c) by rw [World.cell?_alloc_at (hn := rfl)]; rfl)
  have HBx := Lib.hid hbox
  clear hbox
  by_cases he : (cloads rows).1 = 0
  · have hce : cerr rows = 0 := by
      by_cases e : cerr rows = 0
      · exact e
      · unfold cloads at he; rw [if_pos e] at he; exact absurd he e
    obtain ⟨r1, r2, r3, _⟩ := cerr_zero hce
    have hlen16 : ∀ i, i < rows.length → (sw rows i).length ≤ 16 := fun i hi => (rchk_zero (r3 i hi)).1
    have hcl := chT_len hlen16
    have hres : ctx rows = chT rows n := by unfold ctx; rw [if_neg (by omega), hn]
    rw [← hn] at r1 r2 hcl hlen16
    have hstep : ∀ k, k < n → chT rows (k + 1) = chT rows k ++ rowT (sw rows (n - 1 - k)) (sw rows (n - 1 - k)).length ++ [10] := fun k hk => by rw [hn]; rfl
    replace HCk := Lib.hid (show ∀ w', Ext w w' → Calls Tryd.prog 26 #[.agg #[.slice ao n c]] w' fun e w'' => e = .returned (.int .i64 0) ∧ Ext w' w'' from fun w' x => by have := HCk.out w' x; rw [he] at this; exact this)
    have HCl := Lib.hid hcl; have HRes := Lib.hid hres; have HSt := Lib.hid hstep; have H16 := Lib.hid hlen16
    clear hcl hres hstep hlen16 he hce r3 hn
    go_enter Tryd.func35, Tryd.ntmps35
    go_wp2_with fail
    refine (HCk.out _ ((Ext.refl w).alloc _)).mono ?_
    rintro e w1 ⟨rfl, x1⟩
    have X1 := Lib.hid x1
    have b0 := HBx.out _ x1
    have hsz : w.heap.size < w1.heap.size := by have := x1.size; simp at this; omega
    clear x1 HCk
    go_wp2
    obtain ⟨BX, hBX⟩ : ∃ BX, BX = w1.heap.size := ⟨_, rfl⟩
    go_loopw [4, 5, 6, 13] (fun _ _ _ i wr => ∃ k : Nat, k ≤ n ∧ i = .int .i64 k ∧ Hid (Lib.IsBuilder 81 5 w1.heap.size w1.heap.size ((chT rows k).map (Value.int .u8)) wr) ∧ Hid (Ext w1 wr)) (fun _ _ _ i _ => n - (intOf i).toNat)
    case atStart => exact ⟨0, Nat.zero_le _, rfl, Lib.hid (Lib.fresh_isBuilder _ _ _), Lib.hid ((Ext.refl w1).alloc _)⟩
    case round =>
      obtain ⟨k, hk, rfl, HBd, HX⟩ := hrel
      clear hBX
      by_cases hlt : k < n
      · obtain ⟨b, o, a, m, d, rfl, hcl, hrs⟩ := HA.out (n - 1 - k) (by omega)
        have XO := Lib.hid (((Ext.refl w).alloc (.cells #[.slice (some ⟨b, o, Option.none⟩) n c] 26)).trans (X1.out.trans HX.out))
        replace hcl := XO.out.cell hcl
        have b1 := HBx.out _ (X1.out.trans HX.out)
        obtain ⟨ao', m', hv, hm, hmc, hmm, hst⟩ := hrs.open
        simp only [Value.slice.injEq] at hv
        obtain ⟨rfl, rfl, _⟩ := hv
        have hm16 : m ≤ 16 := by rw [hm]; exact H16.out _ (by omega)
        have hstp := HSt.out k hlt
        have hcln := HCl.out k hk
        obtain ⟨r, hr⟩ : ∃ r, r = sw rows (n - 1 - k) := ⟨_, rfl⟩
        rw [← hr] at hst hstp hm
        obtain ⟨T, hT⟩ : ∃ T, T = chT rows k := ⟨_, rfl⟩
        rw [← hT] at HBd hcln hstp
        rw [← hm] at hstp
        have hBT : Byt T := by rw [hT]; exact byt_ch _ _
        obtain ⟨ix, hix⟩ : ∃ ix : Nat, ix = n - 1 - k := ⟨_, rfl⟩
        rw [← hix] at hcl
        have HSt' := Lib.hid hst; have HStp := Lib.hid hstp; have Hm := Lib.hid hm; have HBT := Lib.hid hBT
        have t1 : (n : Int) - 1 - (k : Int) = (ix : Int) := by omega
        have t2 : ix < n := by omega
        have t3 : (ix : Int) < n := by omega
        clear hst hstp hm hBT hr hT hix hmm hmc hrs
        obtain ⟨wo, rfl⟩ : ∃ wo : World, wo = wr := ⟨_, rfl⟩
        have Xw := HX
        go_wp2
        clear t1 hcl b1
        go_loopw [5, 6, 27] (fun _ _ i wr => ∃ j : Nat, j ≤ m ∧ i = .int .i64 j ∧ Hid (Lib.IsBuilder 81 5 w1.heap.size w1.heap.size ((T ++ rowT r j).map (Value.int .u8)) wr) ∧ Hid (Ext w1 wr)) (fun _ _ i _ => m - (intOf i).toNat)
        case atStart => exact ⟨0, Nat.zero_le _, rfl, by rw [show T ++ rowT r 0 = T by simp [rowT]]; exact HBd, HX⟩
        case round =>
          obtain ⟨j, hj, rfl, HB2, HX2⟩ := hrel
          have hrl := rowT_len r j
          have hrl1 := rowT_len r (j + 1)
          by_cases hjm : j < m
          · obtain ⟨b2, o2, rfl, h5⟩ := HSt'.out j hjm
            have XX := Lib.hid (((Ext.refl w).alloc (.cells #[.slice (some ⟨b, o, Option.none⟩) n c] 26)).trans (X1.out.trans HX2.out))
            obtain ⟨c0, c1, c2, c3, c4⟩ := h5.ext XX.out
            have hrow : rowT r (j + 1) = rowT r j ++ (if j = 0 then [] else [32]) ++ (si r j).tx := rfl
            have htl := tx_len (si r j)
            have hbt := byt_tx (si r j)
            have hcall := fun w' (x : Ext wr w') => SText_calls (si r j) w' (HY.out.ext (XX.out.trans x))
            obtain ⟨s, hs⟩ : ∃ s, s = si r j := ⟨_, rfl⟩
            rw [← hs] at c0 c1 c2 c3 c4 hrow htl hbt hcall
            have HRow := Lib.hid hrow; have HBt := Lib.hid hbt; have HCa := Lib.hid hcall
            have hb5 := B5.new wr s 52
            have HB5 := Lib.hid hb5
            clear hrow hbt hcall hs h5 hb5
            unfold St.val at HCa
            have HB3 := Lib.hid (bld_ext HB2.out ((Ext.refl wr).alloc (.cells #[.int .u8 s.k, .int .u8 s.y, .int .i64 s.a, .int .i64 s.b, .bool s.f] 52)))
            have hsz : w1.heap.size < wr.heap.size := bld_lt HB2.out
            by_cases j0 : j = 0
            · subst j0
              simp only [Nat.zero_mul, Nat.add_zero] at c0 c1 c2 c3 c4
              have HRow0 := Lib.hid (show T ++ rowT r 1 = T ++ rowT r 0 ++ s.tx by rw [HRow.out, if_pos rfl]; simp)
              go_wp2_with fail
              refine (HCa.out _ ((Ext.refl _).alloc _)).mono ?_
              rintro e w4 ⟨rfl, x4⟩
              have HB4 := Lib.hid (bld_ext HB3.out x4)
              have X4 := Lib.hid (HX2.out.trans (((Ext.refl _).alloc _).trans x4))
              clear x4 c0 c1 c2 c3 c4 HB3 HB5
              go_wp2_with fail
              refine (bld_string w1.heap.size w1.heap.size _ (bstr s.tx) _ HB4.out (by rw [bstr_size, List.length_map, List.length_append]; omega) X4.out.size).mono ?_
              rintro e w5 ⟨rfl, hb, hx⟩
              rw [strCells_bstr HBt.out, ← List.map_append, ← HRow0.out] at hb
              have HBn := Lib.hid hb; have HXn := Lib.hid (show Ext w1 w5 from Below.trans X4.out hx)
              clear hb hx
              go_wp2
              go_roundw
              case rel => exact ⟨1, by omega, by go_num, HBn, HXn⟩
              case measure => simp [intOf]; omega
            · have j0' : (0 : Int) < (j : Int) := by omega
              have HRow0 := Lib.hid (show T ++ rowT r (j + 1) = T ++ rowT r j ++ [32] ++ s.tx by rw [HRow.out, if_neg j0]; simp)
              clear j0
              go_wp2_with fail
              refine (bld_byte2 w1.heap.size w1.heap.size _ 32 _ HB3.out (by rw [List.length_map, List.length_append]; omega) (by simp; omega)).mono ?_
              rintro e w3 ⟨rfl, hb, hx, hkb⟩
              have hbs := hkb _ _ _ HB5.out (by omega) (by decide)
              obtain ⟨q0, q1, q2, q3, q4⟩ := B5.at (s := s) hbs
              simp only [Nat.zero_add] at q1 q2 q3 q4
              have X3' := Lib.hid (show Ext w1 w3 from Below.trans (HX2.out.alloc _) hx)
              have HB6 := Lib.hid hb
              have hsy := HY.out.ext (((Ext.refl w).alloc (.cells #[.slice (some ⟨b, o, Option.none⟩) n c] 26)).trans (X1.out.trans X3'.out))
              have hst := SText_calls s w3 hsy
              unfold St.val at hst
              have HST := Lib.hid hst
              clear hb hx hkb hbs hsy hst c0 c1 c2 c3 c4 HB3 HB5 HCa
              go_wp2_with fail
              refine HST.out.mono ?_
              rintro e w4 ⟨rfl, x4⟩
              have HB4 := Lib.hid (bld_ext HB6.out x4)
              have X4 := Lib.hid (X3'.out.trans x4)
              clear x4 HB6 q0 q1 q2 q3 q4
              go_wp2_with fail
              refine (bld_string w1.heap.size w1.heap.size _ (bstr s.tx) _ HB4.out (by rw [bstr_size]; simp; omega) X4.out.size).mono ?_
              rintro e w5 ⟨rfl, hb, hx⟩
              have hb2 : Lib.IsBuilder 81 5 w1.heap.size w1.heap.size ((T ++ rowT r (j + 1)).map (Value.int .u8)) w5 := by
                rw [HRow0.out, List.map_append, ← strCells_bstr HBt.out, List.map_append]
                exact hb
              have HBn := Lib.hid hb2; have HXn := Lib.hid (show Ext w1 w5 from Below.trans X4.out hx)
              clear hb hb2 hx
              go_wp2
              go_roundw
              case rel => exact ⟨j + 1, by omega, by go_num, HBn, HXn⟩
              case measure => simp [intOf]; omega
          · obtain rfl : m = j := by omega
            clear hjm hj
            go_wp2_with fail
            refine (bld_byte w1.heap.size w1.heap.size _ 10 _ HB2.out (by rw [List.length_map, List.length_append]; omega) HX2.out.size).mono ?_
            rintro e w3 ⟨rfl, hb, hx⟩
            have hb2 : Lib.IsBuilder 81 5 w1.heap.size w1.heap.size ((chT rows (k + 1)).map (Value.int .u8)) w3 := by
              rw [HStp.out, List.map_append]; exact hb
            have HBn := Lib.hid hb2; have HXn := Lib.hid (show Ext w1 w3 from Below.trans HX2.out hx)
            clear hb hb2 hx
            go_wp2
            go_roundw
            case rel => exact ⟨k + 1, by omega, by go_num, HBn, HXn⟩
            case measure => simp [intOf]; omega
      · obtain rfl : n = k := by omega
        have hby : Lib.byteCells (bstr (chT rows n)).data.toList = (chT rows n).map (Value.int .u8) := by rw [← strCells_bstr (byt_ch rows n)]; rfl
        have hS := Tryd.Builder_String_any w1.heap.size w1.heap.size (bstr (chT rows n)).data.toList wr (by rw [hby]; exact HBd.out) HX.out.size
        rw [bstr_back] at hS
        have HS := Lib.hid hS
        clear hS hby hlt hk
        go_wp2_with fail
        refine HS.out.mono ?_
        rintro e w3 ⟨rfl, hx⟩
        have XF := Lib.hid (((Ext.refl w).alloc (.cells #[.slice ao n c] 26)).trans (X1.out.trans (show Ext w1 w3 from Below.trans HX.out hx)))
        clear hx
        go_wp2
        go_ret
        exact ⟨ret_str (congrArg bstr HRes.out.symm), XF.out⟩
  · have hr := Lib.hid (show ctx rows = [] by unfold ctx; rw [if_pos he])
    have hq : ((cloads rows).1 != 0) = true := by rw [bne, beq_eq_false_iff_ne.2 he]; rfl
    generalize (cloads rows).1 = q at HCk hq
    clear he hn HA HBx
    go_enter Tryd.func35, Tryd.ntmps35
    go_wp2_with fail
    refine (HCk.out _ ((Ext.refl w).alloc _)).mono ?_
    rintro e w1 ⟨rfl, x1⟩
    have X1 := Lib.hid (((Ext.refl w).alloc _).trans x1)
    clear x1
    go_wp2
    go_ret
    exact ⟨ret_str (congrArg bstr hr.out.symm), X1.out⟩
end Go.Proofs.YtinijapkipeamaaDoor
/- Outlines in plain Lean; apart, shapes.Check, ganseyref19.Check. -/
namespace Go.Proofs.YtinijapkipeamaaDoor
set_option linter.unusedVariables false
set_option linter.unusedSimpArgs false
set_option maxRecDepth 8000
open Go Go.RowKit

def far (a b : Int) : Bool := decide (2 < a - b ∨ 2 < b - a)
/-- 14 if two successive widths differ by more than 2. -/
def jmp (l : List Int) : Int := if (List.range (l.length - 1)).any (fun i => far (gi l i) (gi l (i + 1))) then 14 else 0
/-- The error of an outline. -/
def oerr (l : List Int) : Int :=
  if 32 < l.length then 3 else if l.length % 2 ≠ 0 ∨ l.length < 2 then 1
  else if l.any (fun x => decide (x < 2 ∨ 16 < x)) then 1 else jmp l
theorem jmp_bad {l : List Int} {i : Nat} (hi : i + 1 < l.length) (h : far (gi l i) (gi l (i + 1)) = true) : jmp l = 14 := by
  unfold jmp
  rw [if_pos]
  rw [List.any_eq_true]
  exact ⟨i, List.mem_range.2 (by omega), h⟩
theorem jmp_ok {l : List Int} (h : ∀ i, i + 1 < l.length → far (gi l i) (gi l (i + 1)) = false) : jmp l = 0 := by
  unfold jmp
  rw [if_neg]
  rw [List.any_eq_true]
  rintro ⟨i, hi, hb⟩
  have := List.mem_range.1 hi
  rw [h i (by omega)] at hb
  cases hb
theorem oerr_long {l : List Int} (h : 32 < l.length) : oerr l = 3 := by unfold oerr; rw [if_pos h]
theorem oerr_odd {l : List Int} (h : l.length ≤ 32) (h2 : l.length % 2 ≠ 0 ∨ l.length < 2) : oerr l = 1 := by unfold oerr; rw [if_neg (by omega), if_pos h2]
theorem oerr_out {l : List Int} (h : l.length ≤ 32) (h2 : ¬ (l.length % 2 ≠ 0 ∨ l.length < 2)) {i : Nat} (hi : i < l.length) (hb : gi l i < 2 ∨ 16 < gi l i) : oerr l = 1 := by
  unfold oerr
  rw [if_neg (by omega), if_neg h2, if_pos]
  rw [List.any_eq_true]
  exact ⟨_, gi_mem hi, by simpa using hb⟩
theorem oerr_in {l : List Int} (h : l.length ≤ 32) (h2 : ¬ (l.length % 2 ≠ 0 ∨ l.length < 2)) (hg : ∀ i, i < l.length → 2 ≤ gi l i ∧ gi l i ≤ 16) : oerr l = jmp l := by
  unfold oerr
  rw [if_neg (by omega), if_neg h2, if_neg]
  rw [List.any_eq_true]
  rintro ⟨x, hx, hb⟩
  obtain ⟨i, hi, rfl⟩ := List.mem_iff_getElem.1 hx
  have := hg i hi
  rw [gi_of_lt hi] at this
  simp at hb
  omega

theorem apart_calls (a b : Int) (w : World) (ha : -1000 ≤ a ∧ a ≤ 1000) (hb : -1000 ≤ b ∧ b ≤ 1000) : Calls Tryd.prog 34 #[.int .i64 a, .int .i64 b] w fun e w' => e = .returned (.bool (far a b)) ∧ w = w' := by
  have t1 : IntKind.i64.wrap (a - b) = a - b := IntWalk.i64_in _ ⟨by omega, by omega⟩
  have t2 : IntKind.i64.wrap (b - a) = b - a := IntWalk.i64_in _ ⟨by omega, by omega⟩
  by_cases h1 : 2 < a - b
  · have hr := Lib.hid (show far a b = true by simp [far]; omega)
    go_enter Tryd.func34, Tryd.ntmps34
    go_wp2
    all_goals (go_ret; exact ⟨ret_bool hr.out.symm, rfl⟩)
  · by_cases h2 : 2 < b - a
    · have hr := Lib.hid (show far a b = true by simp [far]; omega)
      go_enter Tryd.func34, Tryd.ntmps34
      go_wp2
      all_goals (go_ret; exact ⟨ret_bool hr.out.symm, rfl⟩)
    · have hr := Lib.hid (show far a b = false by simp [far]; omega)
      go_enter Tryd.func34, Tryd.ntmps34
      go_wp2
      all_goals (go_ret; exact ⟨ret_bool hr.out.symm, rfl⟩)

set_option maxHeartbeats 2000000 in
theorem HCheck_calls (v : Value) (c : Nat) (l : List Int) (w : World) (h : IS .i64 w v c l) : Calls Tryd.prog 14 #[v] w fun e w' => e = .returned (.int .i64 (oerr l)) ∧ Ext w w' := by
  obtain ⟨ao, n, c', rfl, hn, rfl, hIS⟩ := h.out
  have hcn := hIS.len.2.2
  have hcm : n ≤ 9223372036854775807 := by
    have hm := hIS.open.2.1
    have hm2 := hIS.open.1
    unfold maxLen at hm
    omega
  by_cases h32 : 32 < n
  · have hr := Lib.hid (oerr_long (l := l) (by omega))
    have t : (32 : Int) < (n : Int) := by omega
    clear hn hIS h h32 hcn
    go_enter Tryd.func14, Tryd.ntmps14
    go_wp2
    go_ret
    exact ⟨ret_int hr.out.symm, Ext.refl _⟩
  have h32' : ¬ (32 : Int) < (n : Int) := by omega
  by_cases h2 : n % 2 ≠ 0
  · have hr := Lib.hid (oerr_odd (l := l) (by omega) (.inl (by omega)))
    have t : ((n : Int) % 2 != 0) = true := by rw [bne, beq_eq_false_iff_ne.2 (by omega)]; rfl
    clear hn hIS h h32 hcn h2
    go_enter Tryd.func14, Tryd.ntmps14
    go_wp2
    go_ret
    exact ⟨ret_int hr.out.symm, Ext.refl _⟩
  have t2 : ((n : Int) % 2 != 0) = false := by rw [bne, beq_iff_eq.2 (by omega)]; rfl
  by_cases h3 : n < 2
  · have hr := Lib.hid (oerr_odd (l := l) (by omega) (.inr (by omega)))
    have t : (n : Int) < 2 := by omega
    clear hn hIS h h32 hcn h2 h3
    go_enter Tryd.func14, Tryd.ntmps14
    go_wp2
    go_ret
    exact ⟨ret_int hr.out.symm, Ext.refl _⟩
  have t3 : ¬ (n : Int) < 2 := by omega
  have hout : ∀ i, i < n → gi l i < 2 ∨ 16 < gi l i → oerr l = 1 := fun i hi hb => oerr_out (by omega) (by omega) (by omega) hb
  have hfar : (∀ i, i < n → 2 ≤ gi l i ∧ gi l i ≤ 16) → ∀ i, i + 1 < n → far (gi l i) (gi l (i + 1)) = true → oerr l = 14 := fun hg i hi hb => by
    rw [oerr_in (by omega) (by omega) (fun i hi => hg i (by omega))]; exact jmp_bad (by omega) hb
  have hok : (∀ i, i < n → 2 ≤ gi l i ∧ gi l i ≤ 16) → (∀ i, i + 1 < n → far (gi l i) (gi l (i + 1)) = false) → oerr l = 0 := fun hg hf => by
    rw [oerr_in (by omega) (by omega) (fun i hi => hg i (by omega))]; exact jmp_ok (fun i hi => hf i (by omega))
  obtain ⟨R, hR⟩ : ∃ R, R = oerr l := ⟨_, rfl⟩
  rw [← hR] at hout hfar hok ⊢
  have HI := Lib.hid hIS; have HOut := Lib.hid hout; have HFar := Lib.hid hfar; have HOk := Lib.hid hok
  have hn32 : n ≤ 32 := by omega
  have hn2 : 2 ≤ n := by omega
  clear hIS h hout hfar hok hR hn hcn h32 h2 h3
  go_enter Tryd.func14, Tryd.ntmps14
  go_wp2
  go_loopw [4, 20] (fun _ i wr => ∃ k : Nat, k ≤ n ∧ i = .int .i64 k ∧ Hid (Ext w wr) ∧ Hid (∀ i, i < k → 2 ≤ gi l i ∧ gi l i ≤ 16)) (fun _ i _ => n - (intOf i).toNat)
  case atStart => exact ⟨0, Nat.zero_le _, rfl, Lib.hid (Ext.refl w), Lib.hid (fun i hi => by omega)⟩
  case round =>
    obtain ⟨k, hk, rfl, Hx, HG⟩ := hrel
    by_cases hlt : k < n
    · obtain ⟨b, o, rfl, hcl⟩ := HI.out.at hlt
      replace hcl := Hx.out.cell (hcl k hlt)
      have hbk := HOut.out k hlt
      have hnx : 2 ≤ gi l k ∧ gi l k ≤ 16 → ∀ i, i < k + 1 → 2 ≤ gi l i ∧ gi l i ≤ 16 := fun h0 i hi => by
        by_cases e : i = k
        · rw [e]; exact h0
        · exact HG.out i (by omega)
      generalize gi l k = x at hcl hbk hnx
      have HBk := Lib.hid hbk; have HNx := Lib.hid hnx
      clear hbk hnx
      by_cases x1 : x < 2
      · have HB := Lib.hid (HBk.out (.inl x1))
        clear HBk HNx
        go_wp2
        go_ret
        exact ⟨ret_int HB.out.symm, Hx.out⟩
      · by_cases x2 : 16 < x
        · have HB := Lib.hid (HBk.out (.inr x2))
          clear HBk HNx
          go_wp2
          go_ret
          exact ⟨ret_int HB.out.symm, Hx.out⟩
        · have HN := Lib.hid (HNx.out (by omega))
          clear HBk HNx
          go_wp2
          go_roundw
          case rel => exact ⟨k + 1, by omega, by go_num, Hx, HN⟩
          case measure => simp [intOf]; omega
    · obtain rfl : n = k := by omega
      clear hlt hk HOut
      obtain ⟨wo, rfl⟩ : ∃ wo : World, wo = wr := ⟨_, rfl⟩
      go_wp2
      go_loopw [5] (fun i wr => ∃ k : Nat, k + 1 ≤ n ∧ i = .int .i64 ((k : Int) + 1) ∧ Hid (Ext w wr) ∧ Hid (∀ j, j < k → far (gi l j) (gi l (j + 1)) = false)) (fun i _ => n - (intOf i).toNat)
      case atStart => exact ⟨0, by omega, rfl, Hx, Lib.hid (fun j hj => by omega)⟩
      case round =>
        obtain ⟨k, hk, rfl, Hy, HF⟩ := hrel
        by_cases hlt : k + 1 < n
        · obtain ⟨b, o, rfl, hc1⟩ := HI.out.at hlt
          obtain ⟨b', o', hbo, hc2⟩ := HI.out.at (show k < n by omega)
          obtain ⟨rfl, rfl⟩ : b = b' ∧ o = o' := by simpa using hbo
          replace hc1 := Hy.out.cell (hc1 (k + 1) hlt); replace hc2 := Hy.out.cell (hc2 k (by omega))
          have g1 := HG.out k (by omega)
          have g2 := HG.out (k + 1) hlt
          have hbk := HFar.out HG.out k hlt
          have hnx : far (gi l k) (gi l (k + 1)) = false → ∀ j, j < k + 1 → far (gi l j) (gi l (j + 1)) = false := fun h0 i hi => by
            by_cases e : i = k
            · rw [e]; exact h0
            · exact HF.out i (by omega)
          generalize gi l k = x at *
          generalize gi l (k + 1) = y at *
          have hap := fun w' => apart_calls x y w' (by omega) (by omega)
          generalize far x y = q at hap hbk hnx
          have HAp := Lib.hid hap; have HBk := Lib.hid hbk; have HNx := Lib.hid hnx
          clear hap hbk hnx g1 g2 hbo
          have t1 : (0 : Int) ≤ (k : Int) + 1 := by omega
          have t2 : ((k : Int) + 1).toNat = k + 1 := by omega
          have t3 : (k : Int) + 1 < n := by omega
          have t4 : IntKind.i64.wrap ((k : Int) + 1 - 1) = (k : Int) := by rw [show (k : Int) + 1 - 1 = k by omega]; exact IntWalk.i64_in _ ⟨by omega, by omega⟩
          have t5 : (k : Int) < n := by omega
          have t6 : IntKind.i64.wrap (k : Int) = (k : Int) := IntWalk.i64_in _ ⟨by omega, by omega⟩
          have t7 : (0 : Int) ≤ (k : Int) := by omega
          go_wp2
          go_quiet ((go_at_call 34; exact Calls.quiet_of_same ((HAp.out _).mono fun _ _ ⟨he, hw⟩ => ⟨he, hw.symm⟩)))
          clear t1 t2 t4 t5 t6 t7 hc1 hc2 HAp
          cases hq : q
          · have HN := Lib.hid (HNx.out hq)
            clear HBk HNx hq
            go_wp2
            go_roundw
            case rel => exact ⟨k + 1, by omega, by go_num, Lib.hid (by first | exact Hy.out | exact (Hy.out.drewN _)), HN⟩
            case measure => simp [intOf]; omega
          · have HB := Lib.hid (HBk.out hq)
            clear HBk HNx hq
            go_wp2
            go_ret
            exact ⟨ret_int HB.out.symm, by first | exact Hy.out | exact (Hy.out.drewN _)⟩
        · obtain rfl : n = k + 1 := by omega
          have HR := Lib.hid (HOk.out HG.out (fun i hi => HF.out i (by omega)))
          clear hlt hk
          go_wp2
          go_ret
          exact ⟨ret_int HR.out.symm, Hy.out⟩
end Go.Proofs.YtinijapkipeamaaDoor
