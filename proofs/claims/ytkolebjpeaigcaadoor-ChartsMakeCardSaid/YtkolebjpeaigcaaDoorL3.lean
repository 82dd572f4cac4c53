/- Texts of this claim in one file: libraries and walks. -/
import Derived.Deep.RegionHeld3
import Derived.Outline
import Derived.Test.YtkolebjpeaigcaaDoorL0
/- Contracts of stitches.digit, put, Text. -/
namespace Go.Proofs.YtkolebjpeaigcaaDoor
set_option linter.unusedVariables false
set_option linter.unusedSimpArgs false
set_option maxRecDepth 8000
open Go Go.RowKit

theorem ret_str {a b : ByteArray} (h : a = b) : Ending.returned (.string a) = Ending.returned (.string b) := by rw [h]
theorem bytes_eq {a b : ByteArray} (h : a.data.toList = b.data.toList) : a = b := ByteArray.ext (Array.toList_inj.1 h)
theorem bstr_push (xs : List Int) : ∀ r : ByteArray, (xs.foldl (fun r n => r.push (UInt8.ofNat n.toNat)) r).data.toList = r.data.toList ++ xs.map (fun n => UInt8.ofNat n.toNat) := by
  induction xs with
  | nil => intro r; simp
  | cons x xs ih => intro r; rw [List.foldl_cons, ih]; simp [ByteArray.push]
theorem bstr_data (xs : List Int) : (bstr xs).data.toList = xs.map (fun n => UInt8.ofNat n.toNat) := by unfold bstr; rw [bstr_push]; rfl
theorem bstr_app (xs ys : List Int) : bstr xs ++ bstr ys = bstr (xs ++ ys) := by
  apply bytes_eq
  rw [ByteArray.data_append, Array.toList_append, bstr_data, bstr_data, bstr_data, List.map_append]
theorem bstr_size (xs : List Int) : (bstr xs).size = xs.length := by
  have : (bstr xs).size = (bstr xs).data.toList.length := by rw [Array.length_toList]; rfl
  rw [this, bstr_data, List.length_map]
theorem bstr_nil : bstr [] = ⟨#[]⟩ := rfl

/-- The symbol of a kind. -/
def symT : List Int := [107, 112, 111, 47, 118, 116, 115, 99]
/-- The table of the symbols lies where the program looks for it. -/
def Sy (w : World) : Prop := ∀ i, i < 8 → w.cell? ⟨0, i, none⟩ = some (.int .u8 (gi symT i))
theorem Sy.ext {w w' : World} (h : Sy w) (x : Ext w w') : Sy w' := fun i hi => x.cell (h i hi)
/-- The bytes of a stitch's text. -/
def St.tx (s : St) : List Int :=
  if s.chk ≠ 0 then [] else [gi symT (s.k - 1).toNat] ++ (if s.k = 8 then [48 + s.a, 48 + s.b, if s.f then 70 else 66] else []) ++ (if s.y = 1 then [] else [48 + s.y])
theorem tx_len (s : St) : s.tx.length ≤ 5 := by
  unfold St.tx
  split
  · simp
  · simp only [List.length_append]
    (repeat' split) <;> simp

theorem digit_calls (n : Int) (w : World) (h : 0 ≤ n ∧ n ≤ 9) : Calls Tryd.prog 61 #[.int .i64 n] w fun e w' => e = .returned (.int .u8 (48 + n)) ∧ w = w' := by
  obtain ⟨h1, h2⟩ := h
  go_enter Tryd.func61, Tryd.ntmps61
  go_wp2
  go_ret
  exact ⟨rfl, rfl⟩
theorem put_calls (t : ByteArray) (v : Value) (c : Nat) (xs : List Int) (w : World) (h : IS .u8 w v c xs) (ht : t.size ≤ 1000) (hx : xs.length ≤ 1000) : Calls Tryd.prog 60 #[.string t, v] w fun e w' => e = .returned (.string (t ++ bstr xs)) ∧ w = w' := by
  have hc : (convert 59 9 v).run Tryd.prog w = .ok (.string (bstr xs)) w := run_bstr h Tryd.underlying59 Tryd.underlying5 Tryd.underlying9
  obtain ⟨a, n, c', rfl, hn, rfl, h1⟩ := h.out
  have hs : (bstr xs).size ≤ 1000 := by rw [bstr_size]; exact hx
  generalize bstr xs = u at hc hs
  clear h hn h1 hx
  go_enter Tryd.func60, Tryd.ntmps60
  go_wp2
  go_ret
  exact ⟨rfl, rfl⟩

set_option maxHeartbeats 4000000 in
theorem SText_calls (s : St) (w : World) (hy : Sy w) : Calls Tryd.prog 39 #[s.val] w fun e w' => e = .returned (.string (bstr s.tx)) ∧ Ext w w' := by
  have hc := SCheck_calls s
  have hcc := St.chk_cases s
  have hok := St.chk_ok (s := s)
  have hB := fun (_ : Nat) => B5.new w s 33
  have Hc := Lib.hid hc; have HB := Lib.hid hB; have HY := Lib.hid hy
  clear hc hB hy
  rcases hcc with hc0 | hc1
  · obtain ⟨k1, k2, k3⟩ := hok hc0
    have htx : s.tx = [gi symT (s.k - 1).toNat] ++ (if s.k = 8 then [48 + s.a, 48 + s.b, if s.f then 70 else 66] else []) ++ (if s.y = 1 then [] else [48 + s.y]) := by unfold St.tx; rw [if_neg (by omega)]
    have HTX := Lib.hid htx
    replace Hc := Lib.hid (show ∀ w, Calls Tryd.prog 47 #[s.val] w fun e w' => e = .returned (.int .i64 0) ∧ Ext w w' from fun w => by have := Hc.out w; rw [hc0] at this; exact this)
    clear hc0 hok htx
    obtain ⟨j, hj⟩ : ∃ j : Nat, s.k - 1 = j := ⟨(s.k - 1).toNat, by omega⟩
    have hj8 : j < 8 := by omega
    have hj1 : (s.k - 1).toNat = j := by omega
    have HJ := Lib.hid hj1
    clear hj1
    unfold St.val at *
    go_enter Tryd.func39, Tryd.ntmps39
    go_wp2_with fail
    refine (Hc.out _).mono ?_
    rintro e w1 ⟨rfl, x1⟩
    have X1 := Lib.hid (((Ext.refl w).alloc _).trans x1)
    obtain ⟨c0, c1, c2, c3, c4⟩ := ((HB.out 0).ext x1).at
    simp only [Nat.zero_add] at c1 c2 c3 c4
    have hsy := (HY.out.ext X1.out) j hj8
    clear x1 Hc
    go_wp2_with fail
    refine (put_calls _ _ 1 [gi symT j] _ (IS.lit (xs := [gi symT j]) (arr := #[.int .u8 (gi symT j)]) rfl rfl rfl (Nat.le_of_lt (show 1 < 1000000 by decide))) (by decide) (by simp)).mono ?_
    rintro e w2 ⟨rfl, rfl⟩
    have he0 : ({ data := #[] } : ByteArray) ++ bstr [gi symT j] = bstr [gi symT j] := bstr_app [] _
    rw [he0]
    clear he0
    obtain ⟨w3, hw3⟩ : ∃ w3, w3 = w1.alloc (.cells #[.int .u8 (gi symT j)] 5) := ⟨_, rfl⟩
    have x3 : Ext w1 w3 := by rw [hw3]; exact (Ext.refl _).alloc _
    rw [← hw3]
    have X3 := Lib.hid (X1.out.trans x3)
    have d0 := x3.cell c0; have d1 := x3.cell c1; have d2 := x3.cell c2; have d3 := x3.cell c3; have d4 := x3.cell c4
    clear hw3 c0 c1 c2 c3 c4 hsy x3
    have HJ2 := Lib.hid (show gi symT (s.k - 1).toNat = gi symT j by rw [HJ.out])
    generalize gi symT j = g at *
    by_cases k8 : s.k = 8
    · have k8' : (s.k == 8) = true := beq_iff_eq.2 k8
      have kb : 1 ≤ s.a ∧ s.a ≤ 3 ∧ 1 ≤ s.b ∧ s.b ≤ 3 := by omega
      obtain ⟨kb1, kb2, kb3, kb4⟩ := kb
      have K8 := Lib.hid k8
      clear k8 k3
      cases hsf : s.f
      all_goals rw [hsf] at d4
      · have hf0 := Lib.hid (show (if s.k = 8 then [48 + s.a, 48 + s.b, if s.f then 70 else 66] else []) = [48 + s.a, 48 + s.b, 66] by rw [if_pos K8.out, hsf]; rfl)
        clear hsf
        go_wp2
        go_region_held3 (fun w' => w'.cell? ⟨w.heap.size, 2, none⟩ = some (.int .i64 s.a) ∧ w'.cell? ⟨w.heap.size, 3, none⟩ = some (.int .i64 s.b)) (first | exact ⟨d2, d3⟩ | go_keep) (first
          | (go_at_call_of 61 s.a; refine (digit_calls s.a _ ⟨by omega, by omega⟩).mono ?_; rintro e w6 ⟨rfl, rfl⟩)
          | (go_at_call_of 61 s.b; refine (digit_calls s.b _ ⟨by omega, by omega⟩).mono ?_; rintro e w7 ⟨rfl, rfl⟩)
          | (go_at_call 60; refine (put_calls _ _ 3 [48 + s.a, 48 + s.b, 66] _ ((IS.lit (e := 5) (xs := [48 + s.a, 48 + s.b, 66]) (arr := #[.int .u8 (48 + s.a), .int .u8 (48 + s.b), .int .u8 66]) rfl rfl rfl (Nat.le_of_lt (show 3 < 1000000 by decide))).ext ((Ext.refl _).drew)) (by rw [bstr_size]; simp) (by simp)).mono ?_; rintro e w8 ⟨rfl, rfl⟩)
          | fail)
        rw [bstr_app]
        obtain ⟨w5, hw5⟩ : ∃ w5, w5 = (w3.alloc (.cells #[.int .u8 (48 + s.a), .int .u8 (48 + s.b), .int .u8 66] 5)).drew := ⟨_, rfl⟩
        have x5 : Ext w3 w5 := by rw [hw5]; exact ((Ext.refl _).alloc _).drew
        rw [← hw5]
        have X5 := Lib.hid (X3.out.trans x5)
        replace d1 := x5.cell d1
        clear hw5 x5 d0 d2 d3 d4
        by_cases y1 : s.y = 1
        · have y1' : (s.y != 1) = false := by rw [bne, beq_iff_eq.2 y1]; rfl
          have hf := Lib.hid (show s.tx = ([g] ++ [48 + s.a, 48 + s.b, 66]) by rw [HTX.out, HJ2.out, hf0.out, if_pos y1]; (try simp))
          clear y1
          go_wp2
          go_ret
          exact ⟨ret_str (congrArg bstr hf.out.symm), X5.out⟩
        · have y1' : (s.y != 1) = true := by rw [bne, beq_eq_false_iff_ne.2 y1]; rfl
          have hf := Lib.hid (show s.tx = ([g] ++ [48 + s.a, 48 + s.b, 66]) ++ [48 + s.y] by rw [HTX.out, HJ2.out, hf0.out, if_neg y1]; (try simp))
          clear y1
          go_wp2_with fail
          refine (digit_calls s.y _ ⟨by omega, by omega⟩).mono ?_
          rintro e w8 ⟨rfl, rfl⟩
          go_wp2_with fail
          refine (put_calls _ _ 1 [48 + s.y] _ (IS.lit (xs := [48 + s.y]) (arr := #[.int .u8 (48 + s.y)]) rfl rfl rfl (Nat.le_of_lt (show 1 < 1000000 by decide))) (by rw [bstr_size]; simp) (by simp)).mono ?_
          rintro e w9 ⟨rfl, rfl⟩
          rw [bstr_app]
          go_wp2
          go_ret
          exact ⟨ret_str (congrArg bstr hf.out.symm), X5.out.alloc _⟩
      · have hf0 := Lib.hid (show (if s.k = 8 then [48 + s.a, 48 + s.b, if s.f then 70 else 66] else []) = [48 + s.a, 48 + s.b, 70] by rw [if_pos K8.out, hsf]; rfl)
        clear hsf
        go_wp2
        go_region_held3 (fun w' => w'.cell? ⟨w.heap.size, 2, none⟩ = some (.int .i64 s.a) ∧ w'.cell? ⟨w.heap.size, 3, none⟩ = some (.int .i64 s.b)) (first | exact ⟨d2, d3⟩ | go_keep) (first
          | (go_at_call_of 61 s.a; refine (digit_calls s.a _ ⟨by omega, by omega⟩).mono ?_; rintro e w6 ⟨rfl, rfl⟩)
          | (go_at_call_of 61 s.b; refine (digit_calls s.b _ ⟨by omega, by omega⟩).mono ?_; rintro e w7 ⟨rfl, rfl⟩)
          | (go_at_call 60; refine (put_calls _ _ 3 [48 + s.a, 48 + s.b, 70] _ ((IS.lit (e := 5) (xs := [48 + s.a, 48 + s.b, 70]) (arr := #[.int .u8 (48 + s.a), .int .u8 (48 + s.b), .int .u8 70]) rfl rfl rfl (Nat.le_of_lt (show 3 < 1000000 by decide))).ext ((Ext.refl _).drew)) (by rw [bstr_size]; simp) (by simp)).mono ?_; rintro e w8 ⟨rfl, rfl⟩)
          | fail)
        rw [bstr_app]
        obtain ⟨w5, hw5⟩ : ∃ w5, w5 = (w3.alloc (.cells #[.int .u8 (48 + s.a), .int .u8 (48 + s.b), .int .u8 70] 5)).drew := ⟨_, rfl⟩
        have x5 : Ext w3 w5 := by rw [hw5]; exact ((Ext.refl _).alloc _).drew
        rw [← hw5]
        have X5 := Lib.hid (X3.out.trans x5)
        replace d1 := x5.cell d1
        clear hw5 x5 d0 d2 d3 d4
        by_cases y1 : s.y = 1
        · have y1' : (s.y != 1) = false := by rw [bne, beq_iff_eq.2 y1]; rfl
          have hf := Lib.hid (show s.tx = ([g] ++ [48 + s.a, 48 + s.b, 70]) by rw [HTX.out, HJ2.out, hf0.out, if_pos y1]; (try simp))
          clear y1
          go_wp2
          go_ret
          exact ⟨ret_str (congrArg bstr hf.out.symm), X5.out⟩
        · have y1' : (s.y != 1) = true := by rw [bne, beq_eq_false_iff_ne.2 y1]; rfl
          have hf := Lib.hid (show s.tx = ([g] ++ [48 + s.a, 48 + s.b, 70]) ++ [48 + s.y] by rw [HTX.out, HJ2.out, hf0.out, if_neg y1]; (try simp))
          clear y1
          go_wp2_with fail
          refine (digit_calls s.y _ ⟨by omega, by omega⟩).mono ?_
          rintro e w8 ⟨rfl, rfl⟩
          go_wp2_with fail
          refine (put_calls _ _ 1 [48 + s.y] _ (IS.lit (xs := [48 + s.y]) (arr := #[.int .u8 (48 + s.y)]) rfl rfl rfl (Nat.le_of_lt (show 1 < 1000000 by decide))) (by rw [bstr_size]; simp) (by simp)).mono ?_
          rintro e w9 ⟨rfl, rfl⟩
          rw [bstr_app]
          go_wp2
          go_ret
          exact ⟨ret_str (congrArg bstr hf.out.symm), X5.out.alloc _⟩
    · have k8' : (s.k == 8) = false := beq_eq_false_iff_ne.2 k8
      have K8 := Lib.hid k8
      clear k8 k3
      by_cases y1 : s.y = 1
      · have y1' : (s.y != 1) = false := by rw [bne, beq_iff_eq.2 y1]; rfl
        have hf := Lib.hid (show s.tx = [g] by rw [HTX.out, HJ2.out, if_neg K8.out, if_pos y1]; (try simp))
        clear y1
        go_wp2
        go_ret
        exact ⟨ret_str (congrArg bstr hf.out.symm), X3.out⟩
      · have y1' : (s.y != 1) = true := by rw [bne, beq_eq_false_iff_ne.2 y1]; rfl
        have hf := Lib.hid (show s.tx = [g] ++ [48 + s.y] by rw [HTX.out, HJ2.out, if_neg K8.out, if_neg y1]; (try simp))
        clear y1
        go_wp2_with fail
        refine (digit_calls s.y _ ⟨by omega, by omega⟩).mono ?_
        rintro e w8 ⟨rfl, rfl⟩
        go_wp2_with fail
        refine (put_calls _ _ 1 [48 + s.y] _ (IS.lit (xs := [48 + s.y]) (arr := #[.int .u8 (48 + s.y)]) rfl rfl rfl (Nat.le_of_lt (show 1 < 1000000 by decide))) (by rw [bstr_size]; simp) (by simp)).mono ?_
        rintro e w9 ⟨rfl, rfl⟩
        rw [bstr_app]
        go_wp2
        go_ret
        exact ⟨ret_str (congrArg bstr hf.out.symm), X3.out.alloc _⟩
  · have hr := Lib.hid (show s.tx = [] by unfold St.tx; rw [if_pos (by omega)])
    have hq : (s.chk != 0) = true := by rw [hc1]; rfl
    generalize s.chk = q at Hc hq
    clear hc1 hok
    unfold St.val at *
    go_enter Tryd.func39, Tryd.ntmps39
    go_wp2_with fail
    refine (Hc.out _).mono ?_
    rintro e w1 ⟨rfl, x1⟩
    have X1 := Lib.hid (((Ext.refl w).alloc _).trans x1)
    clear x1
    go_wp2
    go_ret
    exact ⟨ret_str (congrArg bstr hr.out.symm), X1.out⟩
end Go.Proofs.YtkolebjpeaigcaaDoor
