/- Texts of this claim in one file: libraries and walks. -/
import Derived.Deep.RegionHeld3
import Derived.Outline
import Derived.Shelf.Strings.Builder1
import Derived.Shelf.Strings.BuilderF
import Derived.Shelf.Strings.BuilderK
import Derived.Test.YtinijapkipeamaaDoorProg
import Derived.Test.YtinijapkipeamaaDoorMOf0
import Derived.Test.YtinijapkipeamaaDoorMOf1
/- Contracts of stitches.digit, put, Text. -/
namespace Go.Proofs.YtinijapkipeamaaDoor
set_option linter.unusedVariables false
set_option linter.unusedSimpArgs false
set_option maxRecDepth 8000
open Go Go.RowKit

theorem ret_str {a b : ByteArray} (h : a = b) : Ending.returned (.string a) = Ending.returned (.string b) := by rw [h]
theorem bytes_eq {a b : ByteArray} (h : a.data.toList = b.data.toList) : a = b := ByteArray.ext (Array.toList_inj.1 h)
theorem bstr_push (xs : List Int) : ∀ r : ByteArray, (xs.foldl (fun r n => r.push (UInt8.ofNat n.toNat)) r).data.toList = r.data.toList ++ xs.map (fun n => UInt8.ofNat n.toNat) := by
  induction xs with
  | nil => intro r; simp
  | cons x xs ih => intro r; rw [List.foldl_cons, ih]; simp [ByteArray.push]
theorem bstr_data (xs : List Int) : (bstr xs).data.toList = xs.map (fun n => UInt8.ofNat n.toNat) := by unfold bstr; rw [bstr_push]; rfl
theorem bstr_app (xs ys : List Int) : bstr xs ++ bstr ys = bstr (xs ++ ys) := by
  apply bytes_eq
  rw [ByteArray.data_append, Array.toList_append, bstr_data, bstr_data, bstr_data, List.map_append]
theorem bstr_size (xs : List Int) : (bstr xs).size = xs.length := by
  have : (bstr xs).size = (bstr xs).data.toList.length := by rw [Array.length_toList]; rfl
  rw [this, bstr_data, List.length_map]
theorem bstr_nil : bstr [] = ⟨#[]⟩ := rfl

/-- The symbol of a kind. -/
def symT : List Int := [107, 112, 111, 47, 118, 116, 115, 99]
/-- The table of the symbols lies where the program looks for it. -/
def Sy (w : World) : Prop := ∀ i, i < 8 → w.cell? ⟨0, i, none⟩ = some (.int .u8 (gi symT i))
theorem Sy.ext {w w' : World} (h : Sy w) (x : Ext w w') : Sy w' := fun i hi => x.cell (h i hi)
/-- The bytes of a stitch's text. -/
def St.tx (s : St) : List Int :=
  if s.chk ≠ 0 then [] else [gi symT (s.k - 1).toNat] ++ (if s.k = 8 then [48 + s.a, 48 + s.b, if s.f then 70 else 66] else []) ++ (if s.y = 1 then [] else [48 + s.y])
theorem tx_len (s : St) : s.tx.length ≤ 5 := by
  unfold St.tx
  split
  · simp
  · simp only [List.length_append]
    (repeat' split) <;> simp

theorem digit_calls (n : Int) (w : World) (h : 0 ≤ n ∧ n ≤ 9) : Calls Tryd.prog 67 #[.int .i64 n] w fun e w' => e = .returned (.int .u8 (48 + n)) ∧ w = w' := by
  obtain ⟨h1, h2⟩ := h
  go_enter Tryd.func67, Tryd.ntmps67
  go_wp2
  go_ret
  exact ⟨rfl, rfl⟩
theorem put_calls (t : ByteArray) (v : Value) (c : Nat) (xs : List Int) (w : World) (h : IS .u8 w v c xs) (ht : t.size ≤ 1000) (hx : xs.length ≤ 1000) : Calls Tryd.prog 66 #[.string t, v] w fun e w' => e = .returned (.string (t ++ bstr xs)) ∧ w = w' := by
  have hc : (convert 42 9 v).run Tryd.prog w = .ok (.string (bstr xs)) w := run_bstr h Tryd.underlying42 Tryd.underlying5 Tryd.underlying9
  obtain ⟨a, n, c', rfl, hn, rfl, h1⟩ := h.out
  have hs : (bstr xs).size ≤ 1000 := by rw [bstr_size]; exact hx
  generalize bstr xs = u at hc hs
  clear h hn h1 hx
  go_enter Tryd.func66, Tryd.ntmps66
  go_wp2
  go_ret
  exact ⟨rfl, rfl⟩

set_option maxHeartbeats 4000000 in
theorem SText_calls (s : St) (w : World) (hy : Sy w) : Calls Tryd.prog 51 #[s.val] w fun e w' => e = .returned (.string (bstr s.tx)) ∧ Ext w w' := by
  have hc := SCheck_calls s
  have hcc := St.chk_cases s
  have hok := St.chk_ok (s := s)
  have hB := fun (_ : Nat) => B5.new w s 52
  have Hc := Lib.hid hc; have HB := Lib.hid hB; have HY := Lib.hid hy
  clear hc hB hy
  rcases hcc with hc0 | hc1
  · obtain ⟨k1, k2, k3⟩ := hok hc0
    have htx : s.tx = [gi symT (s.k - 1).toNat] ++ (if s.k = 8 then [48 + s.a, 48 + s.b, if s.f then 70 else 66] else []) ++ (if s.y = 1 then [] else [48 + s.y]) := by unfold St.tx; rw [if_neg (by omega)]
    have HTX := Lib.hid htx
    replace Hc := Lib.hid (show ∀ w, Calls Tryd.prog 36 #[s.val] w fun e w' => e = .returned (.int .i64 0) ∧ Ext w w' from fun w => by have := Hc.out w; rw [hc0] at this; exact this)
    clear hc0 hok htx
    obtain ⟨j, hj⟩ : ∃ j : Nat, s.k - 1 = j := ⟨(s.k - 1).toNat, by omega⟩
    have hj8 : j < 8 := by omega
    have hj1 : (s.k - 1).toNat = j := by omega
    have HJ := Lib.hid hj1
    clear hj1
    unfold St.val at *
    go_enter Tryd.func51, Tryd.ntmps51
    go_wp2_with fail
    refine (Hc.out _).mono ?_
    rintro e w1 ⟨rfl, x1⟩
    have X1 := Lib.hid (((Ext.refl w).alloc _).trans x1)
    obtain ⟨c0, c1, c2, c3, c4⟩ := ((HB.out 0).ext x1).at
    simp only [Nat.zero_add] at c1 c2 c3 c4
    have hsy := (HY.out.ext X1.out) j hj8
    clear x1 Hc
    go_wp2_with fail
    refine (put_calls _ _ 1 [gi symT j] _ (IS.lit (xs := [gi symT j]) (arr := #[.int .u8 (gi symT j)]) rfl rfl rfl (Nat.le_of_lt (show 1 < 1000000 by decide))) (by decide) (by simp)).mono ?_
    rintro e w2 ⟨rfl, rfl⟩
    have he0 : ({ data := #[] } : ByteArray) ++ bstr [gi symT j] = bstr [gi symT j] := bstr_app [] _
    rw [he0]
    clear he0
    obtain ⟨w3, hw3⟩ : ∃ w3, w3 = w1.alloc (.cells #[.int .u8 (gi symT j)] 5) := ⟨_, rfl⟩
    have x3 : Ext w1 w3 := by rw [hw3]; exact (Ext.refl _).alloc _
    rw [← hw3]
    have X3 := Lib.hid (X1.out.trans x3)
    have d0 := x3.cell c0; have d1 := x3.cell c1; have d2 := x3.cell c2; have d3 := x3.cell c3; have d4 := x3.cell c4
    clear hw3 c0 c1 c2 c3 c4 hsy x3
    have HJ2 := Lib.hid (show gi symT (s.k - 1).toNat = gi symT j by rw [HJ.out])
    generalize gi symT j = g at *
    by_cases k8 : s.k = 8
    · have k8' : (s.k == 8) = true := beq_iff_eq.2 k8
      have kb : 1 ≤ s.a ∧ s.a ≤ 3 ∧ 1 ≤ s.b ∧ s.b ≤ 3 := by omega
      obtain ⟨kb1, kb2, kb3, kb4⟩ := kb
      have K8 := Lib.hid k8
      clear k8 k3
      cases hsf : s.f
      all_goals rw [hsf] at d4
      · have hf0 := Lib.hid (show (if s.k = 8 then [48 + s.a, 48 + s.b, if s.f then 70 else 66] else []) = [48 + s.a, 48 + s.b, 66] by rw [if_pos K8.out, hsf]; rfl)
        clear hsf
        go_wp2
        go_region_held3 (fun w' => w'.cell? ⟨w.heap.size, 2, none⟩ = some (.int .i64 s.a) ∧ w'.cell? ⟨w.heap.size, 3, none⟩ = some (.int .i64 s.b)) (first | exact ⟨d2, d3⟩ | go_keep) (first
          | (go_at_call_of 67 s.a; refine (digit_calls s.a _ ⟨by omega, by omega⟩).mono ?_; rintro e w6 ⟨rfl, rfl⟩)
          | (go_at_call_of 67 s.b; refine (digit_calls s.b _ ⟨by omega, by omega⟩).mono ?_; rintro e w7 ⟨rfl, rfl⟩)
          | (go_at_call 66; refine (put_calls _ _ 3 [48 + s.a, 48 + s.b, 66] _ ((IS.lit (e := 5) (xs := [48 + s.a, 48 + s.b, 66]) (arr := #[.int .u8 (48 + s.a), .int .u8 (48 + s.b), .int .u8 66]) rfl rfl rfl (Nat.le_of_lt (show 3 < 1000000 by decide))).ext ((Ext.refl _).drew)) (by rw [bstr_size]; simp) (by simp)).mono ?_; rintro e w8 ⟨rfl, rfl⟩)
          | fail)
        rw [bstr_app]
        obtain ⟨w5, hw5⟩ : ∃ w5, w5 = (w3.alloc (.cells #[.int .u8 (48 + s.a), .int .u8 (48 + s.b), .int .u8 66] 5)).drew := ⟨_, rfl⟩
        have x5 : Ext w3 w5 := by rw [hw5]; exact ((Ext.refl _).alloc _).drew
        rw [← hw5]
        have X5 := Lib.hid (X3.out.trans x5)
        replace d1 := x5.cell d1
        clear hw5 x5 d0 d2 d3 d4
        by_cases y1 : s.y = 1
        · have y1' : (s.y != 1) = false := by rw [bne, beq_iff_eq.2 y1]; rfl
          have hf := Lib.hid (show s.tx = ([g] ++ [48 + s.a, 48 + s.b, 66]) by rw [HTX.out, HJ2.out, hf0.out, if_pos y1]; (try simp))
          clear y1
          go_wp2
          go_ret
          exact ⟨ret_str (congrArg bstr hf.out.symm), X5.out⟩
        · have y1' : (s.y != 1) = true := by rw [bne, beq_eq_false_iff_ne.2 y1]; rfl
          have hf := Lib.hid (show s.tx = ([g] ++ [48 + s.a, 48 + s.b, 66]) ++ [48 + s.y] by rw [HTX.out, HJ2.out, hf0.out, if_neg y1]; (try simp))
          clear y1
          go_wp2_with fail
          refine (digit_calls s.y _ ⟨by omega, by omega⟩).mono ?_
          rintro e w8 ⟨rfl, rfl⟩
          go_wp2_with fail
          refine (put_calls _ _ 1 [48 + s.y] _ (IS.lit (xs := [48 + s.y]) (arr := #[.int .u8 (48 + s.y)]) rfl rfl rfl (Nat.le_of_lt (show 1 < 1000000 by decide))) (by rw [bstr_size]; simp) (by simp)).mono ?_
          rintro e w9 ⟨rfl, rfl⟩
          rw [bstr_app]
          go_wp2
          go_ret
          exact ⟨ret_str (congrArg bstr hf.out.symm), X5.out.alloc _⟩
      · have hf0 := Lib.hid (show (if s.k = 8 then [48 + s.a, 48 + s.b, if s.f then 70 else 66] else []) = [48 + s.a, 48 + s.b, 70] by rw [if_pos K8.out, hsf]; rfl)
        clear hsf
        go_wp2
        go_region_held3 (fun w' => w'.cell? ⟨w.heap.size, 2, none⟩ = some (.int .i64 s.a) ∧ w'.cell? ⟨w.heap.size, 3, none⟩ = some (.int .i64 s.b)) (first | exact ⟨d2, d3⟩ | go_keep) (first
          | (go_at_call_of 67 s.a; refine (digit_calls s.a _ ⟨by omega, by omega⟩).mono ?_; rintro e w6 ⟨rfl, rfl⟩)
          | (go_at_call_of 67 s.b; refine (digit_calls s.b _ ⟨by omega, by omega⟩).mono ?_; rintro e w7 ⟨rfl, rfl⟩)
          | (go_at_call 66; refine (put_calls _ _ 3 [48 + s.a, 48 + s.b, 70] _ ((IS.lit (e := 5) (xs := [48 + s.a, 48 + s.b, 70]) (arr := #[.int .u8 (48 + s.a), .int .u8 (48 + s.b), .int .u8 70]) rfl rfl rfl (Nat.le_of_lt (show 3 < 1000000 by decide))).ext ((Ext.refl _).drew)) (by rw [bstr_size]; simp) (by simp)).mono ?_; rintro e w8 ⟨rfl, rfl⟩)
          | fail)
        rw [bstr_app]
        obtain ⟨w5, hw5⟩ : ∃ w5, w5 = (w3.alloc (.cells #[.int .u8 (48 + s.a), .int .u8 (48 + s.b), .int .u8 70] 5)).drew := ⟨_, rfl⟩
        have x5 : Ext w3 w5 := by rw [hw5]; exact ((Ext.refl _).alloc _).drew
        rw [← hw5]
        have X5 := Lib.hid (X3.out.trans x5)
        replace d1 := x5.cell d1
        clear hw5 x5 d0 d2 d3 d4
        by_cases y1 : s.y = 1
        · have y1' : (s.y != 1) = false := by rw [bne, beq_iff_eq.2 y1]; rfl
          have hf := Lib.hid (show s.tx = ([g] ++ [48 + s.a, 48 + s.b, 70]) by rw [HTX.out, HJ2.out, hf0.out, if_pos y1]; (try simp))
          clear y1
          go_wp2
          go_ret
          exact ⟨ret_str (congrArg bstr hf.out.symm), X5.out⟩
        · have y1' : (s.y != 1) = true := by rw [bne, beq_eq_false_iff_ne.2 y1]; rfl
          have hf := Lib.hid (show s.tx = ([g] ++ [48 + s.a, 48 + s.b, 70]) ++ [48 + s.y] by rw [HTX.out, HJ2.out, hf0.out, if_neg y1]; (try simp))
          clear y1
          go_wp2_with fail
          refine (digit_calls s.y _ ⟨by omega, by omega⟩).mono ?_
          rintro e w8 ⟨rfl, rfl⟩
          go_wp2_with fail
          refine (put_calls _ _ 1 [48 + s.y] _ (IS.lit (xs := [48 + s.y]) (arr := #[.int .u8 (48 + s.y)]) rfl rfl rfl (Nat.le_of_lt (show 1 < 1000000 by decide))) (by rw [bstr_size]; simp) (by simp)).mono ?_
          rintro e w9 ⟨rfl, rfl⟩
          rw [bstr_app]
          go_wp2
          go_ret
          exact ⟨ret_str (congrArg bstr hf.out.symm), X5.out.alloc _⟩
    · have k8' : (s.k == 8) = false := beq_eq_false_iff_ne.2 k8
      have K8 := Lib.hid k8
      clear k8 k3
      by_cases y1 : s.y = 1
      · have y1' : (s.y != 1) = false := by rw [bne, beq_iff_eq.2 y1]; rfl
        have hf := Lib.hid (show s.tx = [g] by rw [HTX.out, HJ2.out, if_neg K8.out, if_pos y1]; (try simp))
        clear y1
        go_wp2
        go_ret
        exact ⟨ret_str (congrArg bstr hf.out.symm), X3.out⟩
      · have y1' : (s.y != 1) = true := by rw [bne, beq_eq_false_iff_ne.2 y1]; rfl
        have hf := Lib.hid (show s.tx = [g] ++ [48 + s.y] by rw [HTX.out, HJ2.out, if_neg K8.out, if_neg y1]; (try simp))
        clear y1
        go_wp2_with fail
        refine (digit_calls s.y _ ⟨by omega, by omega⟩).mono ?_
        rintro e w8 ⟨rfl, rfl⟩
        go_wp2_with fail
        refine (put_calls _ _ 1 [48 + s.y] _ (IS.lit (xs := [48 + s.y]) (arr := #[.int .u8 (48 + s.y)]) rfl rfl rfl (Nat.le_of_lt (show 1 < 1000000 by decide))) (by rw [bstr_size]; simp) (by simp)).mono ?_
        rintro e w9 ⟨rfl, rfl⟩
        rw [bstr_app]
        go_wp2
        go_ret
        exact ⟨ret_str (congrArg bstr hf.out.symm), X3.out.alloc _⟩
  · have hr := Lib.hid (show s.tx = [] by unfold St.tx; rw [if_pos (by omega)])
    have hq : (s.chk != 0) = true := by rw [hc1]; rfl
    generalize s.chk = q at Hc hq
    clear hc1 hok
    unfold St.val at *
    go_enter Tryd.func51, Tryd.ntmps51
    go_wp2_with fail
    refine (Hc.out _).mono ?_
    rintro e w1 ⟨rfl, x1⟩
    have X1 := Lib.hid (((Ext.refl w).alloc _).trans x1)
    clear x1
    go_wp2
    go_ret
    exact ⟨ret_str (congrArg bstr hr.out.symm), X1.out⟩
end Go.Proofs.YtinijapkipeamaaDoor
/-
  DERIVED: THE SHELF's CONTRACTS AT THIS DUMP, IN PLAIN WORDS (tools/lay-plain.mjs out of 'TrydShelf.lean', which tools/lay-shelf.mjs wrote): THE SAME DECLARATIONS UNDER THE SAME NAMES: 'import', 'namespace', 'open', 'def', 'theorem' AND NOTHING ELSE: no command of the shelf's: FOR A HAND-IN. Each laying: the table of numbers ('.._ren') and one theorem, a field a fact of the dump's own or the kernel's comparison; each contract: ONE APPLICATION.
-/
namespace Go.Proofs
open Go.Shelf
def Tryd.lays169_ren : Go.Shelf.Ren := ⟨fun | 169 => 52 | n => n, fun | 70 => 79 | 9 => 9 | 0 => 0 | 72 => 81 | 37 => 42 | 127 => 102 | 3 => 3 | 5 => 5 | n => n, fun | n => n⟩
theorem Tryd.lays169 : Go.Proofs.Lays.n169 Tryd.prog Tryd.lays169_ren := {
  mixed := by kernel_rfl
  f169 := Tryd.func52.trans (congrArg some (by kernel_rfl))
  t0 := Tryd.underlying0
  a0 := Tryd.isAgg0
  z0 := Tryd.sizeOf0
  v0 := Tryd.zeroValue0
  t3 := Tryd.underlying3
  a3 := Tryd.isAgg3
  z3 := Tryd.sizeOf3
  v3 := Tryd.zeroValue3
  t9 := Tryd.underlying9
  a9 := Tryd.isAgg9
  z9 := Tryd.sizeOf9
  v9 := Tryd.zeroValue9
  t37 := Tryd.underlying42
  a37 := Tryd.isAgg42
  z37 := Tryd.sizeOf42
  v37 := Tryd.zeroValue42
  t70 := Tryd.underlying79
  a70 := Tryd.isAgg79
  z70 := Tryd.sizeOf79
  v70 := Tryd.zeroValue79
  t72 := Tryd.underlying81
  a72 := Tryd.isAgg81
  z72 := Tryd.sizeOf81
  v72 := Tryd.zeroValue81
  t127 := Tryd.underlying102
  a127 := Tryd.isAgg102
  z127 := Tryd.sizeOf102
  v127 := Tryd.zeroValue102 }
theorem Tryd.Builder_Extra_169 : Builder.Extra Tryd.prog Tryd.lays169_ren := {
  sizeBuilder := by kernel_rfl
  liesBuilder := by kernel_rfl
  t5 := Tryd.underlying5
  a5 := Tryd.isAgg5
  z5 := Tryd.sizeOf5
  v5 := Tryd.zeroValue5
  infoByte := by kernel_rfl
  cellsByte := by kernel_rfl
  sizeByte := by kernel_rfl
  neB5 := by decide }
open Go.RowKit in
/-- (*strings.Builder).String: "String returns the accumulated string.": OF A BUILDER THAT HOLDS AT LEAST ONE BYTE. ✋ THE MODEL FREEZES THOSE BYTES IN THE BUFFER (unsafe.String): a later write INTO them ends the model's run without an answer; a later append BEHIND them goes on. The statement's order of evaluation is drawn: one draw. (LAID: no walk: one application.) -/
theorem Tryd.Builder_String (B b : Nat) (l : List UInt8) (w : World) (h : Lib.IsBuilder 81 5 B b (Lib.byteCells l) w) (h0 : l ≠ []) :
    Calls Tryd.prog 52 #[.pointer (some ⟨b, 0, none⟩)] w fun e w' => e = .returned (.string ⟨l.toArray⟩) ∧ Below B w w' := Any.Builder_String Tryd.lays169 Tryd.Builder_Extra_169 B b l w h h0
open Go.RowKit in
/-- (*strings.Builder).String OF A BUILDER THAT HOLDS NO BYTE: the empty string. (Its buffer is nil, or a row of which it has taken nothing yet; where that row has NO capacity the model lays one new block for unsafe.SliceData's 'some address'.) One draw. (LAID: no walk: one application.) -/
theorem Tryd.Builder_String_empty (B b : Nat) (w : World) (h : Lib.IsBuilder 81 5 B b [] w) (hBw : B ≤ w.heap.size) :
    Calls Tryd.prog 52 #[.pointer (some ⟨b, 0, none⟩)] w fun e w' => e = .returned (.string ⟨#[]⟩) ∧ Below B w w' := Any.Builder_String_empty Tryd.lays169 Tryd.Builder_Extra_169 B b w h hBw
open Go.RowKit in
/-- (*strings.Builder).String: "String returns the accumulated string.": WHATEVER THE BUILDER HOLDS. (LAID: no walk: one application.) -/
theorem Tryd.Builder_String_any (B b : Nat) (l : List UInt8) (w : World) (h : Lib.IsBuilder 81 5 B b (Lib.byteCells l) w) (hBw : B ≤ w.heap.size) :
    Calls Tryd.prog 52 #[.pointer (some ⟨b, 0, none⟩)] w fun e w' => e = .returned (.string ⟨l.toArray⟩) ∧ Below B w w' := Any.Builder_String_any Tryd.lays169 Tryd.Builder_Extra_169 B b l w h hBw
open Go.RowKit in
/-- (*strings.Builder).String: "String returns the accumulated string.": OF A BUILDER THAT HOLDS AT LEAST ONE BYTE. ✋ THE MODEL FREEZES THOSE BYTES IN THE BUFFER (unsafe.String): a later write INTO them ends the model's run without an answer; a later append BEHIND them goes on. The statement's order of evaluation is drawn: one draw. THE FORM '_f': IT SAYS BESIDES THAT THE BUILDER IS A BUILDER STILL ('Lib.IsBuilderF', the same bytes): SO IT CAN BE WRITTEN ON: 'b.WriteString(b.String()[:k])'. (LAID: no walk: one application.) -/
theorem Tryd.Builder_String_f (B b : Nat) (l : List UInt8) (w : World) (h : Lib.IsBuilderF 81 5 B b (Lib.byteCells l) w) (h0 : l ≠ []) :
    Calls Tryd.prog 52 #[.pointer (some ⟨b, 0, none⟩)] w fun e w' => e = .returned (.string ⟨l.toArray⟩) ∧ (Lib.IsBuilderF 81 5 B b (Lib.byteCells l) w' ∧ Below B w w') := Any.Builder_String_f Tryd.lays169 Tryd.Builder_Extra_169 B b l w h h0
open Go.RowKit in
/-- (*strings.Builder).String OF A BUILDER THAT HOLDS NO BYTE: the empty string; THE FORM '_f': a builder still. (LAID: no walk: one application.) -/
theorem Tryd.Builder_String_empty_f (B b : Nat) (w : World) (h : Lib.IsBuilderF 81 5 B b [] w) (hBw : B ≤ w.heap.size) :
    Calls Tryd.prog 52 #[.pointer (some ⟨b, 0, none⟩)] w fun e w' => e = .returned (.string ⟨#[]⟩) ∧ (Lib.IsBuilderF 81 5 B b [] w' ∧ Below B w w') := Any.Builder_String_empty_f Tryd.lays169 Tryd.Builder_Extra_169 B b w h hBw
open Go.RowKit in
/-- (*strings.Builder).String: "String returns the accumulated string.": WHATEVER THE BUILDER HOLDS; THE FORM '_f': OF A BUILDER THAT MAY HAVE BEEN READ BEFORE; AND IT IS A BUILDER STILL, holding the same bytes: it can be written on. (LAID: no walk: one application.) -/
theorem Tryd.Builder_String_any_f (B b : Nat) (l : List UInt8) (w : World) (h : Lib.IsBuilderF 81 5 B b (Lib.byteCells l) w) (hBw : B ≤ w.heap.size) :
    Calls Tryd.prog 52 #[.pointer (some ⟨b, 0, none⟩)] w fun e w' => e = .returned (.string ⟨l.toArray⟩) ∧ (Lib.IsBuilderF 81 5 B b (Lib.byteCells l) w' ∧ Below B w w') := Any.Builder_String_any_f Tryd.lays169 Tryd.Builder_Extra_169 B b l w h hBw
open Go.RowKit in
/-- (*strings.Builder).String: "String returns the accumulated string.": OF A BUILDER THAT HOLDS AT LEAST ONE BYTE. ✋ THE MODEL FREEZES THOSE BYTES IN THE BUFFER (unsafe.String): a later write INTO them ends the model's run without an answer; a later append BEHIND them goes on. The statement's order of evaluation is drawn: one draw. THE FORM '_k': OVER 'Lib.IsBuilderF' (a builder that 'String()' may have read), AND WITH THE FRAME THAT REACHES ABOVE THE BUILDER: 'Lib.OthersKept': every block that is not b and is no row of uint8's stands as it stood: the iterator of a range among them. (LAID: no walk: one application.) -/
theorem Tryd.Builder_String_k (B b : Nat) (l : List UInt8) (w : World) (h : Lib.IsBuilderF 81 5 B b (Lib.byteCells l) w) (h0 : l ≠ []) :
    Calls Tryd.prog 52 #[.pointer (some ⟨b, 0, none⟩)] w fun e w' => e = .returned (.string ⟨l.toArray⟩) ∧ (Lib.IsBuilderF 81 5 B b (Lib.byteCells l) w' ∧ Below B w w' ∧ Lib.OthersKept 5 (some b) w w') := Any.Builder_String_k Tryd.lays169 Tryd.Builder_Extra_169 B b l w h h0
open Go.RowKit in
/-- (*strings.Builder).String OF A BUILDER THAT HOLDS NO BYTE: the empty string; THE FORM '_k': OVER 'Lib.IsBuilderF' (a builder that 'String()' may have read), AND WITH THE FRAME THAT REACHES ABOVE THE BUILDER: 'Lib.OthersKept': every block that is not b and is no row of uint8's stands as it stood: the iterator of a range among them. (LAID: no walk: one application.) -/
theorem Tryd.Builder_String_empty_k (B b : Nat) (w : World) (h : Lib.IsBuilderF 81 5 B b [] w) (hBw : B ≤ w.heap.size) :
    Calls Tryd.prog 52 #[.pointer (some ⟨b, 0, none⟩)] w fun e w' => e = .returned (.string ⟨#[]⟩) ∧ (Lib.IsBuilderF 81 5 B b [] w' ∧ Below B w w' ∧ Lib.OthersKept 5 (some b) w w') := Any.Builder_String_empty_k Tryd.lays169 Tryd.Builder_Extra_169 B b w h hBw
open Go.RowKit in
/-- (*strings.Builder).String: "String returns the accumulated string.": WHATEVER THE BUILDER HOLDS; THE FORM '_k': OVER 'Lib.IsBuilderF' (a builder that 'String()' may have read), AND WITH THE FRAME THAT REACHES ABOVE THE BUILDER: 'Lib.OthersKept': every block that is not b and is no row of uint8's stands as it stood: the iterator of a range among them. (LAID: no walk: one application.) -/
theorem Tryd.Builder_String_any_k (B b : Nat) (l : List UInt8) (w : World) (h : Lib.IsBuilderF 81 5 B b (Lib.byteCells l) w) (hBw : B ≤ w.heap.size) :
    Calls Tryd.prog 52 #[.pointer (some ⟨b, 0, none⟩)] w fun e w' => e = .returned (.string ⟨l.toArray⟩) ∧ (Lib.IsBuilderF 81 5 B b (Lib.byteCells l) w' ∧ Below B w w' ∧ Lib.OthersKept 5 (some b) w w') := Any.Builder_String_any_k Tryd.lays169 Tryd.Builder_Extra_169 B b l w h hBw
end Go.Proofs
/- Contracts of strings.Builder's copyCheck and WriteByte (the shelf's walks, turned to this dump, whose copyCheck ends otherwise at a copied builder). -/
namespace Go.Proofs.YtinijapkipeamaaDoor
set_option linter.unusedVariables false
set_option linter.unusedSimpArgs false
open Go Go.RowKit Go.Shelf

theorem bld_info : (Tryd.prog.info? 81).map (·.size) = some 2 := by kernel_rfl

set_option maxHeartbeats 1000000 in
set_option maxRecDepth 100000 in
theorem bld_check_used (b : Nat) (w : World) (h0 : w.cell? ⟨b, 0, none⟩ = some (.pointer (some ⟨b, 0, none⟩))) :
    Calls Tryd.prog 65 #[.pointer (some ⟨b, 0, none⟩)] w fun e w' => e = .returned (.tuple #[]) ∧ w' = w := by
  obtain ⟨j, hj, _⟩ := Option.map_eq_some_iff.1 bld_info
  go_enter Tryd.func65, Tryd.ntmps65
  go_wp2
  rw [Lib.run_neq_ptr_same w _ Tryd.underlying79 hj]
  go_wp2
  go_end0
  exact ⟨rfl, rfl⟩

set_option maxHeartbeats 1000000 in
set_option maxRecDepth 100000 in
theorem bld_check_fresh (b : Nat) (w : World) (h0 : w.cell? ⟨b, 0, none⟩ = some (.pointer none)) (hsh : w.shape? b = some (81, 2)) (hfz : w.frozen? ⟨b, 0, none⟩ = false) :
    Calls Tryd.prog 65 #[.pointer (some ⟨b, 0, none⟩)] w fun e w' => e = .returned (.tuple #[]) ∧ w' = w.setCell ⟨b, 0, none⟩ (.pointer (some ⟨b, 0, none⟩)) := by
  obtain ⟨j, hj, hjs⟩ := Option.map_eq_some_iff.1 bld_info
  go_enter Tryd.func65, Tryd.ntmps65
  go_wp2
  rw [Lib.run_to_unsafe w ⟨b, 0, none⟩ Tryd.underlying79 Tryd.underlying104 hj (by rw [hjs]; decide) hsh (Nat.zero_lt_succ 1)]
  simp only [Result.andThen]
  rw [Oper.upon_value]
  go_wp2
  rw [run_callFunc_extern Tryd.func69 (by kernel_rfl) (by kernel_rfl) (by kernel_rfl) (e := Extern.AbiNoEscape.same) (by kernel_rfl)]
  rw [Lib.run_noEscape]
  simp only [Result.andThen]
  rw [Oper.upon_value]
  go_wp2
  rw [Lib.run_from_unsafe w ⟨b, 0, none⟩ Tryd.underlying104 Tryd.underlying79 hj hsh (by kernel_rfl)]
  simp only [Result.andThen]
  rw [Oper.upon_value]
  go_wp2
  go_end0
  exact ⟨rfl, rfl⟩

theorem bld_check (B b : Nat) (bs : List Value) (w : World) (h : Lib.IsBuilder 81 5 B b bs w) :
    Calls Tryd.prog 65 #[.pointer (some ⟨b, 0, none⟩)] w fun e w' => e = .returned (.tuple #[]) ∧ (Lib.BuilderAt 81 5 B b (.pointer (some ⟨b, 0, none⟩)) bs w' ∧ Below B w w') := by
  rcases h with h | h
  · refine (bld_check_fresh b w h.cell0 h.shape h.frozen0).mono ?_
    rintro e w' ⟨rfl, rfl⟩
    exact ⟨rfl, h.used _, (Below.refl B w).setCell (p := ⟨b, 0, none⟩) h.1 _⟩
  · refine (bld_check_used b w h.cell0).mono ?_
    rintro e w' ⟨rfl, rfl⟩
    exact ⟨rfl, h, Below.refl B _⟩

set_option maxHeartbeats 2000000 in
set_option maxRecDepth 100000 in
theorem bld_byte (B b : Nat) (bs : List Value) (c : Int) (w : World) (h : Lib.IsBuilder 81 5 B b bs w) (hlen : bs.length + 1 ≤ 140737488355328) (hBw : B ≤ w.heap.size) :
    Calls Tryd.prog 49 #[.pointer (some ⟨b, 0, none⟩), .int .u8 c] w fun e w' => e = .returned .nilIface ∧ (Lib.IsBuilder 81 5 B b (bs ++ [.int .u8 c]) w' ∧ Below B w w') := by
  obtain ⟨i0, hi, hz0, hz1, hz2⟩ := info_parts (show (Tryd.prog.info? 5).map (fun i => (i.zero, i.size, i.bytes)) = some (some (.int .u8 0), 1, 1) by kernel_rfl)
  go_enter Tryd.func49, Tryd.ntmps49
  go_wp2_with (go_at_call 65; refine (bld_check B b bs _ h).mono ?_)
  rintro e w1 ⟨rfl, h1, hb1⟩
  obtain ⟨hB, v, hbk, hown, hne⟩ := h1
  have c0 : w1.cell? ⟨b, 0, none⟩ = some (.pointer (some ⟨b, 0, none⟩)) := by rw [Lib.cell_of_heap hbk]; rfl
  have c1 : w1.cell? ⟨b, 1, none⟩ = some v := by rw [Lib.cell_of_heap hbk]; rfl
  go_wp2_with (at_builtin; refine wpList_append_own _ rfl _ _ 42 rfl B 5 i0 (.int .u8 0) 1 1 Tryd.underlying42 hi hz0 hz1 hz2 rfl (by decide) _ _ _ rfl (hown.alloc _) ⟨w1.heap.size, 0, none⟩ 1 1 [.int .u8 c] rfl rfl ?c1 ?c2 ?c3 ?c4 ?c5 ?_)
  case c1 =>
    intro j u hj
    match j, hj with
    | 0, hj => simp at hj; subst hj; simp [Addr.add]
  case c2 => intro u hu; simp at hu; subst hu; rfl
  case c3 => unfold maxLen; omega
  case c4 => omega
  case c5 => have := hb1.size; simp; omega
  intro v' w2 hown' hgrow _
  have hlt : b < w1.heap.size := by
    rcases Nat.lt_or_ge b w1.heap.size with h' | h'
    · exact h'
    · simp [Array.getElem?_eq_none h'] at hbk
  have hb2 : w2.heap[b]? = some (.cells #[.pointer (some ⟨b, 0, none⟩), v] 81 (0, 0)) := by
    rw [hgrow.block b (by simp; omega) (fun e => hne e.symm), Lib.alloc_old w1 _ b hlt]
    exact hbk
  have d0 : w2.cell? ⟨b, 0, none⟩ = some (.pointer (some ⟨b, 0, none⟩)) := by rw [Lib.cell_of_heap hb2]; rfl
  have d1 : w2.cell? ⟨b, 1, none⟩ = some v := by rw [Lib.cell_of_heap hb2]; rfl
  have f1 : w2.frozen? ⟨b, 1, none⟩ = false := Lib.frozen_of_heap hb2 1
  obtain ⟨g, cap, rfl⟩ : ∃ g cap, v' = .slice (some ⟨g, 0, none⟩) (bs.length + 1) cap := by
    rcases hown'.2 with ⟨_, h0⟩ | ⟨g, cap, cur, hv, _⟩
    · omega
    · exact ⟨g, cap, hv⟩
  go_wp2
  go_ret
  refine ⟨rfl, .inr ?_, ?_⟩
  · exact Lib.BuilderAt.put (T := 81) (e := 5) hB hb2 (bs' := bs ++ [.int .u8 c]) (by simpa using hown') (by decide)
  · exact ((hb1.alloc (by have := hb1.size; omega) _).grown hgrow (by have := hb1.size; simp; omega) (fun k hk => (hown.lt k hk).1)).setCell (p := ⟨b, 1, none⟩) hB _

/-- What lies in other blocks, of another type than bytes, is kept. -/
def KeptBut (b : Nat) (w w' : World) : Prop := ∀ (g : Nat) (o : Array Value) (t : TypeId), w.heap[g]? = some (.cells o t (0, 0)) → g ≠ b → t ≠ 5 → w'.heap[g]? = some (.cells o t (0, 0))
theorem bld_check2 (B b : Nat) (bs : List Value) (w : World) (h : Lib.IsBuilder 81 5 B b bs w) :
    Calls Tryd.prog 65 #[.pointer (some ⟨b, 0, none⟩)] w fun e w' => e = .returned (.tuple #[]) ∧ (Lib.BuilderAt 81 5 B b (.pointer (some ⟨b, 0, none⟩)) bs w' ∧ Below B w w' ∧ KeptBut b w w') := by
  rcases h with h | h
  · refine (bld_check_fresh b w h.cell0 h.shape h.frozen0).mono ?_
    rintro e w' ⟨rfl, rfl⟩
    exact ⟨rfl, h.used _, (Below.refl B w).setCell (p := ⟨b, 0, none⟩) h.1 _, fun g o t hg hb _ => by rw [Deep.blk_setCell_other _ _ _ _ hb]; exact hg⟩
  · refine (bld_check_used b w h.cell0).mono ?_
    rintro e w' ⟨rfl, rfl⟩
    exact ⟨rfl, h, Below.refl B _, fun g o t hg _ _ => hg⟩

set_option maxHeartbeats 2000000 in
set_option maxRecDepth 100000 in
theorem bld_byte2 (B b : Nat) (bs : List Value) (c : Int) (w : World) (h : Lib.IsBuilder 81 5 B b bs w) (hlen : bs.length + 1 ≤ 140737488355328) (hBw : B ≤ w.heap.size) :
    Calls Tryd.prog 49 #[.pointer (some ⟨b, 0, none⟩), .int .u8 c] w fun e w' => e = .returned .nilIface ∧ (Lib.IsBuilder 81 5 B b (bs ++ [.int .u8 c]) w' ∧ Below B w w' ∧ KeptBut b w w') := by
  obtain ⟨i0, hi, hz0, hz1, hz2⟩ := info_parts (show (Tryd.prog.info? 5).map (fun i => (i.zero, i.size, i.bytes)) = some (some (.int .u8 0), 1, 1) by kernel_rfl)
  go_enter Tryd.func49, Tryd.ntmps49
  go_wp2_with (go_at_call 65; refine (bld_check2 B b bs _ h).mono ?_)
  rintro e w1 ⟨rfl, h1, hb1, hk1⟩
  obtain ⟨hB, v, hbk, hown, hne⟩ := h1
  have c0 : w1.cell? ⟨b, 0, none⟩ = some (.pointer (some ⟨b, 0, none⟩)) := by rw [Lib.cell_of_heap hbk]; rfl
  have c1 : w1.cell? ⟨b, 1, none⟩ = some v := by rw [Lib.cell_of_heap hbk]; rfl
  go_wp2_with (at_builtin; refine wpList_append_own _ rfl _ _ 42 rfl B 5 i0 (.int .u8 0) 1 1 Tryd.underlying42 hi hz0 hz1 hz2 rfl (by decide) _ _ _ rfl (hown.alloc _) ⟨w1.heap.size, 0, none⟩ 1 1 [.int .u8 c] rfl rfl ?c1 ?c2 ?c3 ?c4 ?c5 ?_)
  case c1 =>
    intro j u hj
    match j, hj with
    | 0, hj => simp at hj; subst hj; simp [Addr.add]
  case c2 => intro u hu; simp at hu; subst hu; rfl
  case c3 => unfold maxLen; omega
  case c4 => omega
  case c5 => have := hb1.size; simp; omega
  intro v' w2 hown' hgrow _
  have hlt : b < w1.heap.size := by
    rcases Nat.lt_or_ge b w1.heap.size with h' | h'
    · exact h'
    · simp [Array.getElem?_eq_none h'] at hbk
  have hb2 : w2.heap[b]? = some (.cells #[.pointer (some ⟨b, 0, none⟩), v] 81 (0, 0)) := by
    rw [hgrow.block b (by simp; omega) (fun e => hne e.symm), Lib.alloc_old w1 _ b hlt]
    exact hbk
  have d0 : w2.cell? ⟨b, 0, none⟩ = some (.pointer (some ⟨b, 0, none⟩)) := by rw [Lib.cell_of_heap hb2]; rfl
  have d1 : w2.cell? ⟨b, 1, none⟩ = some v := by rw [Lib.cell_of_heap hb2]; rfl
  have f1 : w2.frozen? ⟨b, 1, none⟩ = false := Lib.frozen_of_heap hb2 1
  obtain ⟨g, cap, rfl⟩ : ∃ g cap, v' = .slice (some ⟨g, 0, none⟩) (bs.length + 1) cap := by
    rcases hown'.2 with ⟨_, h0⟩ | ⟨g, cap, cur, hv, _⟩
    · omega
    · exact ⟨g, cap, hv⟩
  go_wp2
  go_ret
  refine ⟨rfl, .inr ?_, ?_, fun q o t hq hqb hqt => ?_⟩
  rotate_left 2
  · have h1 := hk1 q o t hq hqb hqt
    have hlt : q < w1.heap.size := by
      rcases Nat.lt_or_ge q w1.heap.size with h' | h'
      · exact h'
      · rw [Array.getElem?_eq_none h'] at h1; cases h1
    have hno : some q ≠ v.ownBlock := fun e => by
      obtain ⟨_, ho⟩ := hown
      rcases ho with ⟨hv, _⟩ | ⟨g', cap', cur', hv, _, hg', _⟩
      · rw [hv] at e; cases e
      · rw [hv] at e
        obtain rfl : q = g' := Option.some.inj e
        rw [h1] at hg'
        simp at hg'
        exact hqt hg'.2
    rw [Deep.blk_setCell_other _ _ _ _ hqb, hgrow.block q (by simp; omega) hno, Lib.alloc_old w1 _ q hlt]
    exact h1
  · exact Lib.BuilderAt.put (T := 81) (e := 5) hB hb2 (bs' := bs ++ [.int .u8 c]) (by simpa using hown') (by decide)
  · exact ((hb1.alloc (by have := hb1.size; omega) _).grown hgrow (by have := hb1.size; simp; omega) (fun k hk => (hown.lt k hk).1)).setCell (p := ⟨b, 1, none⟩) hB _

set_option maxHeartbeats 2000000 in
set_option maxRecDepth 100000 in
theorem bld_string (B b : Nat) (bs : List Value) (s : ByteArray) (w : World) (h : Lib.IsBuilder 81 5 B b bs w) (hlen : bs.length + s.size ≤ 140737488355328) (hBw : B ≤ w.heap.size) :
    Calls Tryd.prog 50 #[.pointer (some ⟨b, 0, none⟩), .string s] w fun e w' => e = .returned (.tuple #[.int .i64 s.size, .nilIface]) ∧ (Lib.IsBuilder 81 5 B b (bs ++ Lib.strCells s) w' ∧ Below B w w') := by
  obtain ⟨i0, hi, hz0, hz1, hz2⟩ := info_parts (show (Tryd.prog.info? 5).map (fun i => (i.zero, i.size, i.bytes)) = some (some (.int .u8 0), 1, 1) by kernel_rfl)
  go_enter Tryd.func50, Tryd.ntmps50
  go_wp2_with (go_at_call 65; refine (bld_check B b bs _ h).mono ?_)
  rintro e w1 ⟨rfl, h1, hb1⟩
  obtain ⟨hB, v, hbk, hown, hne⟩ := h1
  have c0 : w1.cell? ⟨b, 0, none⟩ = some (.pointer (some ⟨b, 0, none⟩)) := by rw [Lib.cell_of_heap hbk]; rfl
  have c1 : w1.cell? ⟨b, 1, none⟩ = some v := by rw [Lib.cell_of_heap hbk]; rfl
  go_wp2_with (at_builtin; refine Lib.wpList_append_own_string _ rfl _ _ 42 9 rfl B 5 i0 Tryd.underlying42 Tryd.underlying9 hi hz0 hz1 hz2 _ _ _ rfl hown s rfl ?c3 ?c4 ?c5 ?_)
  case c3 => unfold maxLen; omega
  case c4 => omega
  case c5 => have := hb1.size; omega
  intro v' w2 hown' hgrow _
  have hlt : b < w1.heap.size := by
    rcases Nat.lt_or_ge b w1.heap.size with h' | h'
    · exact h'
    · simp [Array.getElem?_eq_none h'] at hbk
  have hb2 : w2.heap[b]? = some (.cells #[.pointer (some ⟨b, 0, none⟩), v] 81 (0, 0)) := by
    rw [hgrow.block b hlt (fun e => hne e.symm)]
    exact hbk
  have d0 : w2.cell? ⟨b, 0, none⟩ = some (.pointer (some ⟨b, 0, none⟩)) := by rw [Lib.cell_of_heap hb2]; rfl
  have d1 : w2.cell? ⟨b, 1, none⟩ = some v := by rw [Lib.cell_of_heap hb2]; rfl
  have f1 : w2.frozen? ⟨b, 1, none⟩ = false := Lib.frozen_of_heap hb2 1
  obtain ⟨ao, n', cap, rfl⟩ : ∃ ao n' cap, v' = .slice ao n' cap := by
    rcases hown'.2 with ⟨hv, _⟩ | ⟨g, cap, cur, hv, _⟩
    · exact ⟨_, _, _, hv⟩
    · exact ⟨_, _, _, hv⟩
  go_wp2
  go_ret2
  refine ⟨rfl, .inr ?_, ?_⟩
  · exact Lib.BuilderAt.put (T := 81) (e := 5) hB hb2 (bs' := bs ++ Lib.strCells s) (by simpa [Lib.strCells_length] using hown') (by decide)
  · exact (hb1.grown hgrow (by have := hb1.size; omega) (fun k hk => (hown.lt k hk).1)).setCell (p := ⟨b, 1, none⟩) hB _
theorem bld_lt {B b : Nat} {bs : List Value} {w : World} (h : Lib.IsBuilder 81 5 B b bs w) : b < w.heap.size := by
  rcases h with h | h <;> exact h.lt
end Go.Proofs.YtinijapkipeamaaDoor
