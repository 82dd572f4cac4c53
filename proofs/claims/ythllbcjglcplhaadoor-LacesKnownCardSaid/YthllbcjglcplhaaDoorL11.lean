/- Texts of this claim in one file: libraries and walks. -/
import Derived.Deep.RegionHeld3
import Derived.Outline
import Derived.Lib.ConvBytes
import Derived.Lib.SmallJoins
import Derived.Test.YthllbcjglcplhaaDoorL0
import Derived.Test.YthllbcjglcplhaaDoorL2
import Derived.Test.YthllbcjglcplhaaDoorL4
import Derived.Test.YthllbcjglcplhaaDoorL8
import Derived.Test.YthllbcjglcplhaaDoorL9
import Derived.Test.YthllbcjglcplhaaDoorL10
/- Contract of charts.Check. -/
namespace Go.Proofs.YthllbcjglcplhaaDoor
set_option linter.unusedVariables false
set_option linter.unusedSimpArgs false
set_option maxRecDepth 8000
open Go Go.RowKit

theorem CCheck_calls (v : Value) (c : Nat) (rows : List (List St)) (w : World) (h : RR w v c rows) :
    Calls Tryd.prog 23 #[.agg #[v]] w fun e w' => e = .returned (.int .i64 (cloads rows).1) ∧ Ext w w' := by
  have hL := fun w' (x : Ext w w') => CLoads_calls v c rows w' (h.ext x)
  have HL := Lib.hid hL
  obtain ⟨ao, n, rfl, h0⟩ := h.open
  clear hL h h0
  go_enter Tryd.func23, Tryd.ntmps23
  go_wp2_with fail
  refine (HL.out _ ((Ext.refl w).alloc _)).mono ?_
  rintro e w1 ⟨v1, rfl, h1, x1⟩
  have X1 := Lib.hid (((Ext.refl w).alloc _).trans x1)
  clear h1 x1
  go_wp2
  go_ret
  exact ⟨rfl, X1.out⟩
end Go.Proofs.YthllbcjglcplhaaDoor
/- Contracts of stitches.digit, put, Text. -/
namespace Go.Proofs.YthllbcjglcplhaaDoor
set_option linter.unusedVariables false
set_option linter.unusedSimpArgs false
set_option maxRecDepth 8000
open Go Go.RowKit

theorem ret_str {a b : ByteArray} (h : a = b) : Ending.returned (.string a) = Ending.returned (.string b) := by rw [h]
theorem bytes_eq {a b : ByteArray} (h : a.data.toList = b.data.toList) : a = b := ByteArray.ext (Array.toList_inj.1 h)
theorem bstr_push (xs : List Int) : ∀ r : ByteArray, (xs.foldl (fun r n => r.push (UInt8.ofNat n.toNat)) r).data.toList = r.data.toList ++ xs.map (fun n => UInt8.ofNat n.toNat) := by
  induction xs with
  | nil => intro r; simp
  | cons x xs ih => intro r; rw [List.foldl_cons, ih]; simp [ByteArray.push]
theorem bstr_data (xs : List Int) : (bstr xs).data.toList = xs.map (fun n => UInt8.ofNat n.toNat) := by unfold bstr; rw [bstr_push]; rfl
theorem bstr_app (xs ys : List Int) : bstr xs ++ bstr ys = bstr (xs ++ ys) := by
  apply bytes_eq
  rw [ByteArray.data_append, Array.toList_append, bstr_data, bstr_data, bstr_data, List.map_append]
theorem bstr_size (xs : List Int) : (bstr xs).size = xs.length := by
  have : (bstr xs).size = (bstr xs).data.toList.length := by rw [Array.length_toList]; rfl
  rw [this, bstr_data, List.length_map]
theorem bstr_nil : bstr [] = ⟨#[]⟩ := rfl

/-- The symbol of a kind. -/
def symT : List Int := [107, 112, 111, 47, 118, 116, 115, 99]
/-- The table of the symbols lies where the program looks for it. -/
def Sy (w : World) : Prop := ∀ i, i < 8 → w.cell? ⟨0, i, none⟩ = some (.int .u8 (gi symT i))
theorem Sy.ext {w w' : World} (h : Sy w) (x : Ext w w') : Sy w' := fun i hi => x.cell (h i hi)
/-- The bytes of a stitch's text. -/
def St.tx (s : St) : List Int :=
  if s.chk ≠ 0 then [] else [gi symT (s.k - 1).toNat] ++ (if s.k = 8 then [48 + s.a, 48 + s.b, if s.f then 70 else 66] else []) ++ (if s.y = 1 then [] else [48 + s.y])
theorem tx_len (s : St) : s.tx.length ≤ 5 := by
  unfold St.tx
  split
  · simp
  · simp only [List.length_append]
    (repeat' split) <;> simp

theorem digit_calls (n : Int) (w : World) (h : 0 ≤ n ∧ n ≤ 9) : Calls Tryd.prog 82 #[.int .i64 n] w fun e w' => e = .returned (.int .u8 (48 + n)) ∧ w = w' := by
  obtain ⟨h1, h2⟩ := h
  go_enter Tryd.func82, Tryd.ntmps82
  go_wp2
  go_ret
  exact ⟨rfl, rfl⟩
theorem put_calls (t : ByteArray) (v : Value) (c : Nat) (xs : List Int) (w : World) (h : IS .u8 w v c xs) (ht : t.size ≤ 1000) (hx : xs.length ≤ 1000) : Calls Tryd.prog 81 #[.string t, v] w fun e w' => e = .returned (.string (t ++ bstr xs)) ∧ w = w' := by
  have hc : (convert 76 9 v).run Tryd.prog w = .ok (.string (bstr xs)) w := run_bstr h Tryd.underlying76 Tryd.underlying5 Tryd.underlying9
  obtain ⟨a, n, c', rfl, hn, rfl, h1⟩ := h.out
  have hs : (bstr xs).size ≤ 1000 := by rw [bstr_size]; exact hx
  generalize bstr xs = u at hc hs
  clear h hn h1 hx
  go_enter Tryd.func81, Tryd.ntmps81
  go_wp2
  go_ret
  exact ⟨rfl, rfl⟩

set_option maxHeartbeats 4000000 in
theorem SText_calls (s : St) (w : World) (hy : Sy w) : Calls Tryd.prog 61 #[s.val] w fun e w' => e = .returned (.string (bstr s.tx)) ∧ Ext w w' := by
  have hc := SCheck_calls s
  have hcc := St.chk_cases s
  have hok := St.chk_ok (s := s)
  have hB := fun (_ : Nat) => B5.new w s 49
  have Hc := Lib.hid hc; have HB := Lib.hid hB; have HY := Lib.hid hy
  clear hc hB hy
  rcases hcc with hc0 | hc1
  · obtain ⟨k1, k2, k3⟩ := hok hc0
    have htx : s.tx = [gi symT (s.k - 1).toNat] ++ (if s.k = 8 then [48 + s.a, 48 + s.b, if s.f then 70 else 66] else []) ++ (if s.y = 1 then [] else [48 + s.y]) := by unfold St.tx; rw [if_neg (by omega)]
    have HTX := Lib.hid htx
    replace Hc := Lib.hid (show ∀ w, Calls Tryd.prog 80 #[s.val] w fun e w' => e = .returned (.int .i64 0) ∧ Ext w w' from fun w => by have := Hc.out w; rw [hc0] at this; exact this)
    clear hc0 hok htx
    obtain ⟨j, hj⟩ : ∃ j : Nat, s.k - 1 = j := ⟨(s.k - 1).toNat, by omega⟩
    have hj8 : j < 8 := by omega
    have hj1 : (s.k - 1).toNat = j := by omega
    have HJ := Lib.hid hj1
    clear hj1
    unfold St.val at *
    go_enter Tryd.func61, Tryd.ntmps61
    go_wp2_with fail
    refine (Hc.out _).mono ?_
    rintro e w1 ⟨rfl, x1⟩
    have X1 := Lib.hid (((Ext.refl w).alloc _).trans x1)
    obtain ⟨c0, c1, c2, c3, c4⟩ := ((HB.out 0).ext x1).at
    simp only [Nat.zero_add] at c1 c2 c3 c4
    have hsy := (HY.out.ext X1.out) j hj8
    clear x1 Hc
    go_wp2_with fail
    refine (put_calls _ _ 1 [gi symT j] _ (IS.lit (xs := [gi symT j]) (arr := #[.int .u8 (gi symT j)]) rfl rfl rfl (Nat.le_of_lt (show 1 < 1000000 by decide))) (by decide) (by simp)).mono ?_
    rintro e w2 ⟨rfl, rfl⟩
    have he0 : ({ data := #[] } : ByteArray) ++ bstr [gi symT j] = bstr [gi symT j] := bstr_app [] _
    rw [he0]
    clear he0
    obtain ⟨w3, hw3⟩ : ∃ w3, w3 = w1.alloc (.cells #[.int .u8 (gi symT j)] 5) := ⟨_, rfl⟩
    have x3 : Ext w1 w3 := by rw [hw3]; exact (Ext.refl _).alloc _
    rw [← hw3]
    have X3 := Lib.hid (X1.out.trans x3)
    have d0 := x3.cell c0; have d1 := x3.cell c1; have d2 := x3.cell c2; have d3 := x3.cell c3; have d4 := x3.cell c4
    clear hw3 c0 c1 c2 c3 c4 hsy x3
    have HJ2 := Lib.hid (show gi symT (s.k - 1).toNat = gi symT j by rw [HJ.out])
    generalize gi symT j = g at *
    by_cases k8 : s.k = 8
    · have k8' : (s.k == 8) = true := beq_iff_eq.2 k8
      have kb : 1 ≤ s.a ∧ s.a ≤ 3 ∧ 1 ≤ s.b ∧ s.b ≤ 3 := by omega
      obtain ⟨kb1, kb2, kb3, kb4⟩ := kb
      have K8 := Lib.hid k8
      clear k8 k3
      cases hsf : s.f
      all_goals rw [hsf] at d4
      · have hf0 := Lib.hid (show (if s.k = 8 then [48 + s.a, 48 + s.b, if s.f then 70 else 66] else []) = [48 + s.a, 48 + s.b, 66] by rw [if_pos K8.out, hsf]; rfl)
        clear hsf
        go_wp2
        go_region_held3 (fun w' => w'.cell? ⟨w.heap.size, 2, none⟩ = some (.int .i64 s.a) ∧ w'.cell? ⟨w.heap.size, 3, none⟩ = some (.int .i64 s.b)) (first | exact ⟨d2, d3⟩ | go_keep) (first
          | (go_at_call_of 82 s.a; refine (digit_calls s.a _ ⟨by omega, by omega⟩).mono ?_; rintro e w6 ⟨rfl, rfl⟩)
          | (go_at_call_of 82 s.b; refine (digit_calls s.b _ ⟨by omega, by omega⟩).mono ?_; rintro e w7 ⟨rfl, rfl⟩)
          | (go_at_call 81; refine (put_calls _ _ 3 [48 + s.a, 48 + s.b, 66] _ ((IS.lit (e := 5) (xs := [48 + s.a, 48 + s.b, 66]) (arr := #[.int .u8 (48 + s.a), .int .u8 (48 + s.b), .int .u8 66]) rfl rfl rfl (Nat.le_of_lt (show 3 < 1000000 by decide))).ext ((Ext.refl _).drew)) (by rw [bstr_size]; simp) (by simp)).mono ?_; rintro e w8 ⟨rfl, rfl⟩)
          | fail)
        rw [bstr_app]
        obtain ⟨w5, hw5⟩ : ∃ w5, w5 = (w3.alloc (.cells #[.int .u8 (48 + s.a), .int .u8 (48 + s.b), .int .u8 66] 5)).drew := ⟨_, rfl⟩
        have x5 : Ext w3 w5 := by rw [hw5]; exact ((Ext.refl _).alloc _).drew
        rw [← hw5]
        have X5 := Lib.hid (X3.out.trans x5)
        replace d1 := x5.cell d1
        clear hw5 x5 d0 d2 d3 d4
        by_cases y1 : s.y = 1
        · have y1' : (s.y != 1) = false := by rw [bne, beq_iff_eq.2 y1]; rfl
          have hf := Lib.hid (show s.tx = ([g] ++ [48 + s.a, 48 + s.b, 66]) by rw [HTX.out, HJ2.out, hf0.out, if_pos y1]; (try simp))
          clear y1
          go_wp2
          go_ret
          exact ⟨ret_str (congrArg bstr hf.out.symm), X5.out⟩
        · have y1' : (s.y != 1) = true := by rw [bne, beq_eq_false_iff_ne.2 y1]; rfl
          have hf := Lib.hid (show s.tx = ([g] ++ [48 + s.a, 48 + s.b, 66]) ++ [48 + s.y] by rw [HTX.out, HJ2.out, hf0.out, if_neg y1]; (try simp))
          clear y1
          go_wp2_with fail
          refine (digit_calls s.y _ ⟨by omega, by omega⟩).mono ?_
          rintro e w8 ⟨rfl, rfl⟩
          go_wp2_with fail
          refine (put_calls _ _ 1 [48 + s.y] _ (IS.lit (xs := [48 + s.y]) (arr := #[.int .u8 (48 + s.y)]) rfl rfl rfl (Nat.le_of_lt (show 1 < 1000000 by decide))) (by rw [bstr_size]; simp) (by simp)).mono ?_
          rintro e w9 ⟨rfl, rfl⟩
          rw [bstr_app]
          go_wp2
          go_ret
          exact ⟨ret_str (congrArg bstr hf.out.symm), X5.out.alloc _⟩
      · have hf0 := Lib.hid (show (if s.k = 8 then [48 + s.a, 48 + s.b, if s.f then 70 else 66] else []) = [48 + s.a, 48 + s.b, 70] by rw [if_pos K8.out, hsf]; rfl)
        clear hsf
        go_wp2
        go_region_held3 (fun w' => w'.cell? ⟨w.heap.size, 2, none⟩ = some (.int .i64 s.a) ∧ w'.cell? ⟨w.heap.size, 3, none⟩ = some (.int .i64 s.b)) (first | exact ⟨d2, d3⟩ | go_keep) (first
          | (go_at_call_of 82 s.a; refine (digit_calls s.a _ ⟨by omega, by omega⟩).mono ?_; rintro e w6 ⟨rfl, rfl⟩)
          | (go_at_call_of 82 s.b; refine (digit_calls s.b _ ⟨by omega, by omega⟩).mono ?_; rintro e w7 ⟨rfl, rfl⟩)
          | (go_at_call 81; refine (put_calls _ _ 3 [48 + s.a, 48 + s.b, 70] _ ((IS.lit (e := 5) (xs := [48 + s.a, 48 + s.b, 70]) (arr := #[.int .u8 (48 + s.a), .int .u8 (48 + s.b), .int .u8 70]) rfl rfl rfl (Nat.le_of_lt (show 3 < 1000000 by decide))).ext ((Ext.refl _).drew)) (by rw [bstr_size]; simp) (by simp)).mono ?_; rintro e w8 ⟨rfl, rfl⟩)
          | fail)
        rw [bstr_app]
        obtain ⟨w5, hw5⟩ : ∃ w5, w5 = (w3.alloc (.cells #[.int .u8 (48 + s.a), .int .u8 (48 + s.b), .int .u8 70] 5)).drew := ⟨_, rfl⟩
        have x5 : Ext w3 w5 := by rw [hw5]; exact ((Ext.refl _).alloc _).drew
        rw [← hw5]
        have X5 := Lib.hid (X3.out.trans x5)
        replace d1 := x5.cell d1
        clear hw5 x5 d0 d2 d3 d4
        by_cases y1 : s.y = 1
        · have y1' : (s.y != 1) = false := by rw [bne, beq_iff_eq.2 y1]; rfl
          have hf := Lib.hid (show s.tx = ([g] ++ [48 + s.a, 48 + s.b, 70]) by rw [HTX.out, HJ2.out, hf0.out, if_pos y1]; (try simp))
          clear y1
          go_wp2
          go_ret
          exact ⟨ret_str (congrArg bstr hf.out.symm), X5.out⟩
        · have y1' : (s.y != 1) = true := by rw [bne, beq_eq_false_iff_ne.2 y1]; rfl
          have hf := Lib.hid (show s.tx = ([g] ++ [48 + s.a, 48 + s.b, 70]) ++ [48 + s.y] by rw [HTX.out, HJ2.out, hf0.out, if_neg y1]; (try simp))
          clear y1
          go_wp2_with fail
          refine (digit_calls s.y _ ⟨by omega, by omega⟩).mono ?_
          rintro e w8 ⟨rfl, rfl⟩
          go_wp2_with fail
          refine (put_calls _ _ 1 [48 + s.y] _ (IS.lit (xs := [48 + s.y]) (arr := #[.int .u8 (48 + s.y)]) rfl rfl rfl (Nat.le_of_lt (show 1 < 1000000 by decide))) (by rw [bstr_size]; simp) (by simp)).mono ?_
          rintro e w9 ⟨rfl, rfl⟩
          rw [bstr_app]
          go_wp2
          go_ret
          exact ⟨ret_str (congrArg bstr hf.out.symm), X5.out.alloc _⟩
    · have k8' : (s.k == 8) = false := beq_eq_false_iff_ne.2 k8
      have K8 := Lib.hid k8
      clear k8 k3
      by_cases y1 : s.y = 1
      · have y1' : (s.y != 1) = false := by rw [bne, beq_iff_eq.2 y1]; rfl
        have hf := Lib.hid (show s.tx = [g] by rw [HTX.out, HJ2.out, if_neg K8.out, if_pos y1]; (try simp))
        clear y1
        go_wp2
        go_ret
        exact ⟨ret_str (congrArg bstr hf.out.symm), X3.out⟩
      · have y1' : (s.y != 1) = true := by rw [bne, beq_eq_false_iff_ne.2 y1]; rfl
        have hf := Lib.hid (show s.tx = [g] ++ [48 + s.y] by rw [HTX.out, HJ2.out, if_neg K8.out, if_neg y1]; (try simp))
        clear y1
        go_wp2_with fail
        refine (digit_calls s.y _ ⟨by omega, by omega⟩).mono ?_
        rintro e w8 ⟨rfl, rfl⟩
        go_wp2_with fail
        refine (put_calls _ _ 1 [48 + s.y] _ (IS.lit (xs := [48 + s.y]) (arr := #[.int .u8 (48 + s.y)]) rfl rfl rfl (Nat.le_of_lt (show 1 < 1000000 by decide))) (by rw [bstr_size]; simp) (by simp)).mono ?_
        rintro e w9 ⟨rfl, rfl⟩
        rw [bstr_app]
        go_wp2
        go_ret
        exact ⟨ret_str (congrArg bstr hf.out.symm), X3.out.alloc _⟩
  · have hr := Lib.hid (show s.tx = [] by unfold St.tx; rw [if_pos (by omega)])
    have hq : (s.chk != 0) = true := by rw [hc1]; rfl
    generalize s.chk = q at Hc hq
    clear hc1 hok
    unfold St.val at *
    go_enter Tryd.func61, Tryd.ntmps61
    go_wp2_with fail
    refine (Hc.out _).mono ?_
    rintro e w1 ⟨rfl, x1⟩
    have X1 := Lib.hid (((Ext.refl w).alloc _).trans x1)
    clear x1
    go_wp2
    go_ret
    exact ⟨ret_str (congrArg bstr hr.out.symm), X1.out⟩
end Go.Proofs.YthllbcjglcplhaaDoor
/- Contract of charts.Text. -/
namespace Go.Proofs.YthllbcjglcplhaaDoor
set_option linter.unusedVariables false
set_option linter.unusedSimpArgs false
set_option maxRecDepth 8000
open Go Go.RowKit

/-- The bytes of the first k stitches of a row. -/
def rowT (r : List St) : Nat → List Int
  | 0 => []
  | k + 1 => rowT r k ++ (if k = 0 then [] else [32]) ++ (si r k).tx
/-- The bytes of the last k rows, the last one first. -/
def chT (rows : List (List St)) : Nat → List Int
  | 0 => []
  | k + 1 => chT rows k ++ rowT (sw rows (rows.length - 1 - k)) (sw rows (rows.length - 1 - k)).length ++ [10]
/-- The bytes of a chart's text. -/
def ctx (rows : List (List St)) : List Int := if (cloads rows).1 ≠ 0 then [] else chT rows rows.length

def Byt (xs : List Int) : Prop := ∀ x ∈ xs, 0 ≤ x ∧ x ≤ 255
theorem Byt.app {xs ys : List Int} (h : Byt xs) (k : Byt ys) : Byt (xs ++ ys) := fun x hx => by
  rcases List.mem_append.1 hx with hx | hx
  · exact h x hx
  · exact k x hx
theorem byt_one {x : Int} (h : 0 ≤ x ∧ x ≤ 255) : Byt [x] := fun y hy => by rw [List.mem_singleton.1 hy]; exact h
theorem byt_nil : Byt [] := fun x hx => by cases hx
theorem byt_tx (s : St) : Byt s.tx := by
  unfold St.tx
  split
  · exact byt_nil
  · rename_i h
    obtain ⟨k1, k2, k3⟩ := St.chk_ok (s := s) (by simpa using h)
    refine Byt.app (Byt.app (byt_one ?_) ?_) ?_
    · obtain ⟨j, hj⟩ : ∃ j : Nat, (s.k - 1).toNat = j := ⟨_, rfl⟩
      have hj8 : j < 8 := by omega
      rw [hj]
      have : ∀ j, j < 8 → 0 ≤ gi symT j ∧ gi symT j ≤ 255 := by decide
      exact this j hj8
    · split
      · intro x hx
        simp only [List.mem_cons, List.not_mem_nil, or_false] at hx
        rcases hx with rfl | rfl | rfl
        · omega
        · omega
        · split <;> omega
      · exact byt_nil
    · split
      · exact byt_nil
      · exact byt_one (by omega)
theorem byt_row (r : List St) : ∀ k, Byt (rowT r k)
  | 0 => byt_nil
  | k + 1 => by
    unfold rowT
    refine ((byt_row r k).app ?_).app (byt_tx _)
    split
    · exact byt_nil
    · exact byt_one (by omega)
theorem byt_ch (rows : List (List St)) : ∀ k, Byt (chT rows k)
  | 0 => byt_nil
  | k + 1 => ((byt_ch rows k).app (byt_row _ _)).app (byt_one (by omega))
theorem rowT_len (r : List St) : ∀ k, (rowT r k).length ≤ 6 * k
  | 0 => by simp [rowT]
  | k + 1 => by
    have h1 := rowT_len r k
    have h2 := tx_len (si r k)
    unfold rowT
    simp only [List.length_append]
    split <;> simp <;> omega
theorem chT_len {rows : List (List St)} (h : ∀ i, i < rows.length → (sw rows i).length ≤ 16) : ∀ k, k ≤ rows.length → (chT rows k).length ≤ 97 * k
  | 0, _ => by simp [chT]
  | k + 1, hk => by
    have h1 := chT_len h k (by omega)
    have h2 := h (rows.length - 1 - k) (by omega)
    have h3 := rowT_len (sw rows (rows.length - 1 - k)) (sw rows (rows.length - 1 - k)).length
    unfold chT
    simp only [List.length_append, List.length_singleton]
    omega
theorem strCells_bstr {xs : List Int} (h : Byt xs) : Lib.strCells (bstr xs) = xs.map (Value.int .u8) := by
  rw [Lib.strCells_eq, bstr_data]
  unfold Lib.byteCells
  rw [List.map_map]
  refine List.map_congr_left fun x hx => ?_
  have := h x hx
  show Value.int .u8 ((UInt8.ofNat x.toNat).toNat : Int) = _
  rw [UInt8.toNat_ofNat']
  congr 1
  omega
theorem bld_ext {T e : TypeId} {B b : Nat} {bs : List Value} {w w' : World} (h : Lib.IsBuilder T e B b bs w) (x : Ext w w') : Lib.IsBuilder T e B b bs w' := by
  rcases h with ⟨hB, v, hb, hown, hne⟩ | ⟨hB, v, hb, hown, hne⟩
  · exact .inl ⟨hB, v, x.block hb, own_ext hown x, hne⟩
  · exact .inr ⟨hB, v, x.block hb, own_ext hown x, hne⟩
theorem bstr_back (xs : List Int) : (⟨(bstr xs).data.toList.toArray⟩ : ByteArray) = bstr xs := by apply bytes_eq; simp

set_option maxHeartbeats 4000000 in
theorem CText_calls (v : Value) (c : Nat) (rows : List (List St)) (w : World) (h : RR w v c rows) (hy : Sy w) :
    Calls Tryd.prog 40 #[.agg #[v]] w fun e w' => e = .returned (.string (bstr (ctx rows))) ∧ Ext w w' := by
  obtain ⟨ao, n, rfl, hn, hnc, hcm, hat⟩ := h.open
  unfold maxLen at hcm
  have hck := fun w' (x : Ext w w') => CCheck_calls _ c rows w' (h.ext x)
  have HCk := Lib.hid hck; have HA := Lib.hid hat; have HY := Lib.hid hy
  clear hck hat h hy
  have hbox := fun (w' : World) (x : Ext (w.alloc (.cells #[.slice ao n c] 28)) w') => x.cell (show (w.alloc (.cells #[.slice ao n c] 28)).cell? ⟨w.heap.size, 0, none⟩ = some (.slice ao n c) by rw [World.cell?_alloc_at (hn := rfl)]; rfl)
  have HBx := Lib.hid hbox
  clear hbox
  by_cases he : (cloads rows).1 = 0
  · have hce : cerr rows = 0 := by
      by_cases e : cerr rows = 0
      · exact e
      · unfold cloads at he; rw [if_pos e] at he; exact absurd he e
    obtain ⟨r1, r2, r3, _⟩ := cerr_zero hce
    have hlen16 : ∀ i, i < rows.length → (sw rows i).length ≤ 16 := fun i hi => (rchk_zero (r3 i hi)).1
    have hcl := chT_len hlen16
    have hres : ctx rows = chT rows n := by unfold ctx; rw [if_neg (by omega), hn]
    rw [← hn] at r1 r2 hcl hlen16
    have hstep : ∀ k, k < n → chT rows (k + 1) = chT rows k ++ rowT (sw rows (n - 1 - k)) (sw rows (n - 1 - k)).length ++ [10] := fun k hk => by rw [hn]; rfl
    replace HCk := Lib.hid (show ∀ w', Ext w w' → Calls Tryd.prog 23 #[.agg #[.slice ao n c]] w' fun e w'' => e = .returned (.int .i64 0) ∧ Ext w' w'' from fun w' x => by have := HCk.out w' x; rw [he] at this; exact this)
    have HCl := Lib.hid hcl; have HRes := Lib.hid hres; have HSt := Lib.hid hstep; have H16 := Lib.hid hlen16
    clear hcl hres hstep hlen16 he hce r3 hn
    go_enter Tryd.func40, Tryd.ntmps40
    go_wp2_with fail
    refine (HCk.out _ ((Ext.refl w).alloc _)).mono ?_
    rintro e w1 ⟨rfl, x1⟩
    have X1 := Lib.hid x1
    have b0 := HBx.out _ x1
    have hsz : w.heap.size < w1.heap.size := by have := x1.size; simp at this; omega
    clear x1 HCk
    go_wp2
    obtain ⟨BX, hBX⟩ : ∃ BX, BX = w1.heap.size := ⟨_, rfl⟩
    go_loopw [4, 5, 6, 13] (fun _ _ _ i wr => ∃ k : Nat, k ≤ n ∧ i = .int .i64 k ∧ Hid (Lib.IsBuilder 81 5 w1.heap.size w1.heap.size ((chT rows k).map (Value.int .u8)) wr) ∧ Hid (Ext w1 wr)) (fun _ _ _ i _ => n - (intOf i).toNat)
    case atStart => exact ⟨0, Nat.zero_le _, rfl, Lib.hid (Lib.fresh_isBuilder _ _ _), Lib.hid ((Ext.refl w1).alloc _)⟩
    case round =>
      obtain ⟨k, hk, rfl, HBd, HX⟩ := hrel
      clear hBX
      by_cases hlt : k < n
      · obtain ⟨b, o, a, m, d, rfl, hcl, hrs⟩ := HA.out (n - 1 - k) (by omega)
        have XO := Lib.hid (((Ext.refl w).alloc (.cells #[.slice (some ⟨b, o, Option.none⟩) n c] 28)).trans (X1.out.trans HX.out))
        replace hcl := XO.out.cell hcl
        have b1 := HBx.out _ (X1.out.trans HX.out)
        obtain ⟨ao', m', hv, hm, hmc, hmm, hst⟩ := hrs.open
        simp only [Value.slice.injEq] at hv
        obtain ⟨rfl, rfl, _⟩ := hv
        have hm16 : m ≤ 16 := by rw [hm]; exact H16.out _ (by omega)
        have hstp := HSt.out k hlt
        have hcln := HCl.out k hk
        obtain ⟨r, hr⟩ : ∃ r, r = sw rows (n - 1 - k) := ⟨_, rfl⟩
        rw [← hr] at hst hstp hm
        obtain ⟨T, hT⟩ : ∃ T, T = chT rows k := ⟨_, rfl⟩
        rw [← hT] at HBd hcln hstp
        rw [← hm] at hstp
        have hBT : Byt T := by rw [hT]; exact byt_ch _ _
        obtain ⟨ix, hix⟩ : ∃ ix : Nat, ix = n - 1 - k := ⟨_, rfl⟩
        rw [← hix] at hcl
        have HSt' := Lib.hid hst; have HStp := Lib.hid hstp; have Hm := Lib.hid hm; have HBT := Lib.hid hBT
        have t1 : (n : Int) - 1 - (k : Int) = (ix : Int) := by omega
        have t2 : ix < n := by omega
        have t3 : (ix : Int) < n := by omega
        clear hst hstp hm hBT hr hT hix hmm hmc hrs
        obtain ⟨wo, rfl⟩ : ∃ wo : World, wo = wr := ⟨_, rfl⟩
        have Xw := HX
        go_wp2
        clear t1 hcl b1
        go_loopw [5, 6, 27] (fun _ _ i wr => ∃ j : Nat, j ≤ m ∧ i = .int .i64 j ∧ Hid (Lib.IsBuilder 81 5 w1.heap.size w1.heap.size ((T ++ rowT r j).map (Value.int .u8)) wr) ∧ Hid (Ext w1 wr)) (fun _ _ i _ => m - (intOf i).toNat)
        case atStart => exact ⟨0, Nat.zero_le _, rfl, by rw [show T ++ rowT r 0 = T by simp [rowT]]; exact HBd, HX⟩
        case round =>
          obtain ⟨j, hj, rfl, HB2, HX2⟩ := hrel
          have hrl := rowT_len r j
          have hrl1 := rowT_len r (j + 1)
          by_cases hjm : j < m
          · obtain ⟨b2, o2, rfl, h5⟩ := HSt'.out j hjm
            have XX := Lib.hid (((Ext.refl w).alloc (.cells #[.slice (some ⟨b, o, Option.none⟩) n c] 28)).trans (X1.out.trans HX2.out))
            obtain ⟨c0, c1, c2, c3, c4⟩ := h5.ext XX.out
            have hrow : rowT r (j + 1) = rowT r j ++ (if j = 0 then [] else [32]) ++ (si r j).tx := rfl
            have htl := tx_len (si r j)
            have hbt := byt_tx (si r j)
            have hcall := fun w' (x : Ext wr w') => SText_calls (si r j) w' (HY.out.ext (XX.out.trans x))
            obtain ⟨s, hs⟩ : ∃ s, s = si r j := ⟨_, rfl⟩
            rw [← hs] at c0 c1 c2 c3 c4 hrow htl hbt hcall
            have HRow := Lib.hid hrow; have HBt := Lib.hid hbt; have HCa := Lib.hid hcall
            have hb5 := B5.new wr s 49
            have HB5 := Lib.hid hb5
            clear hrow hbt hcall hs h5 hb5
            unfold St.val at HCa
            have HB3 := Lib.hid (bld_ext HB2.out ((Ext.refl wr).alloc (.cells #[.int .u8 s.k, .int .u8 s.y, .int .i64 s.a, .int .i64 s.b, .bool s.f] 49)))
            have hsz : w1.heap.size < wr.heap.size := bld_lt HB2.out
            by_cases j0 : j = 0
            · subst j0
              simp only [Nat.zero_mul, Nat.add_zero] at c0 c1 c2 c3 c4
              have HRow0 := Lib.hid (show T ++ rowT r 1 = T ++ rowT r 0 ++ s.tx by rw [HRow.out, if_pos rfl]; simp)
              go_wp2_with fail
              refine (HCa.out _ ((Ext.refl _).alloc _)).mono ?_
              rintro e w4 ⟨rfl, x4⟩
              have HB4 := Lib.hid (bld_ext HB3.out x4)
              have X4 := Lib.hid (HX2.out.trans (((Ext.refl _).alloc _).trans x4))
              clear x4 c0 c1 c2 c3 c4 HB3 HB5
              go_wp2_with fail
              refine (bld_string w1.heap.size w1.heap.size _ (bstr s.tx) _ HB4.out (by rw [bstr_size, List.length_map, List.length_append]; omega) X4.out.size).mono ?_
              rintro e w5 ⟨rfl, hb, hx⟩
              rw [strCells_bstr HBt.out, ← List.map_append, ← HRow0.out] at hb
              have HBn := Lib.hid hb; have HXn := Lib.hid (show Ext w1 w5 from Below.trans X4.out hx)
              clear hb hx
              go_wp2
              go_roundw
              case rel => exact ⟨1, by omega, by go_num, HBn, HXn⟩
              case measure => simp [intOf]; omega
            · have j0' : (0 : Int) < (j : Int) := by omega
              have HRow0 := Lib.hid (show T ++ rowT r (j + 1) = T ++ rowT r j ++ [32] ++ s.tx by rw [HRow.out, if_neg j0]; simp)
              clear j0
              go_wp2_with fail
              refine (bld_byte2 w1.heap.size w1.heap.size _ 32 _ HB3.out (by rw [List.length_map, List.length_append]; omega) (by simp; omega)).mono ?_
              rintro e w3 ⟨rfl, hb, hx, hkb⟩
              have hbs := hkb _ _ _ HB5.out (by omega) (by decide)
              obtain ⟨q0, q1, q2, q3, q4⟩ := B5.at (s := s) hbs
              simp only [Nat.zero_add] at q1 q2 q3 q4
              have X3' := Lib.hid (show Ext w1 w3 from Below.trans (HX2.out.alloc _) hx)
              have HB6 := Lib.hid hb
              have hsy := HY.out.ext (((Ext.refl w).alloc (.cells #[.slice (some ⟨b, o, Option.none⟩) n c] 28)).trans (X1.out.trans X3'.out))
              have hst := SText_calls s w3 hsy
              unfold St.val at hst
              have HST := Lib.hid hst
              clear hb hx hkb hbs hsy hst c0 c1 c2 c3 c4 HB3 HB5 HCa
              go_wp2_with fail
              refine HST.out.mono ?_
              rintro e w4 ⟨rfl, x4⟩
              have HB4 := Lib.hid (bld_ext HB6.out x4)
              have X4 := Lib.hid (X3'.out.trans x4)
              clear x4 HB6 q0 q1 q2 q3 q4
              go_wp2_with fail
              refine (bld_string w1.heap.size w1.heap.size _ (bstr s.tx) _ HB4.out (by rw [bstr_size]; simp; omega) X4.out.size).mono ?_
              rintro e w5 ⟨rfl, hb, hx⟩
              have hb2 : Lib.IsBuilder 81 5 w1.heap.size w1.heap.size ((T ++ rowT r (j + 1)).map (Value.int .u8)) w5 := by
                rw [HRow0.out, List.map_append, ← strCells_bstr HBt.out, List.map_append]
                exact hb
              have HBn := Lib.hid hb2; have HXn := Lib.hid (show Ext w1 w5 from Below.trans X4.out hx)
              clear hb hb2 hx
              go_wp2
              go_roundw
              case rel => exact ⟨j + 1, by omega, by go_num, HBn, HXn⟩
              case measure => simp [intOf]; omega
          · obtain rfl : m = j := by omega
            clear hjm hj
            go_wp2_with fail
            refine (bld_byte w1.heap.size w1.heap.size _ 10 _ HB2.out (by rw [List.length_map, List.length_append]; omega) HX2.out.size).mono ?_
            rintro e w3 ⟨rfl, hb, hx⟩
            have hb2 : Lib.IsBuilder 81 5 w1.heap.size w1.heap.size ((chT rows (k + 1)).map (Value.int .u8)) w3 := by
              rw [HStp.out, List.map_append]; exact hb
            have HBn := Lib.hid hb2; have HXn := Lib.hid (show Ext w1 w3 from Below.trans HX2.out hx)
            clear hb hb2 hx
            go_wp2
            go_roundw
            case rel => exact ⟨k + 1, by omega, by go_num, HBn, HXn⟩
            case measure => simp [intOf]; omega
      · obtain rfl : n = k := by omega
        have hby : Lib.byteCells (bstr (chT rows n)).data.toList = (chT rows n).map (Value.int .u8) := by rw [← strCells_bstr (byt_ch rows n)]; rfl
        have hS := Tryd.Builder_String_any w1.heap.size w1.heap.size (bstr (chT rows n)).data.toList wr (by rw [hby]; exact HBd.out) HX.out.size
        rw [bstr_back] at hS
        have HS := Lib.hid hS
        clear hS hby hlt hk
        go_wp2_with fail
        refine HS.out.mono ?_
        rintro e w3 ⟨rfl, hx⟩
        have XF := Lib.hid (((Ext.refl w).alloc (.cells #[.slice ao n c] 28)).trans (X1.out.trans (show Ext w1 w3 from Below.trans HX.out hx)))
        clear hx
        go_wp2
        go_ret
        exact ⟨ret_str (congrArg bstr HRes.out.symm), XF.out⟩
  · have hr := Lib.hid (show ctx rows = [] by unfold ctx; rw [if_pos he])
    have hq : ((cloads rows).1 != 0) = true := by rw [bne, beq_eq_false_iff_ne.2 he]; rfl
    generalize (cloads rows).1 = q at HCk hq
    clear he hn HA HBx
    go_enter Tryd.func40, Tryd.ntmps40
    go_wp2_with fail
    refine (HCk.out _ ((Ext.refl w).alloc _)).mono ?_
    rintro e w1 ⟨rfl, x1⟩
    have X1 := Lib.hid (((Ext.refl w).alloc _).trans x1)
    clear x1
    go_wp2
    go_ret
    exact ⟨ret_str (congrArg bstr hr.out.symm), X1.out⟩
end Go.Proofs.YthllbcjglcplhaaDoor
/- Bytes of a string in memory; (*strings.Builder).Write; the texts of laces in plain Lean. -/
namespace Go.Proofs.YthllbcjglcplhaaDoor
set_option linter.unusedVariables false
set_option linter.unusedSimpArgs false
set_option maxRecDepth 8000
open Go Go.RowKit

/-- A block that '[]byte(s)' has made. -/
def BZ (w : World) (g : Nat) (xs : List Int) : Prop := ∃ cs z, w.heap[g]? = some (.cells cs 5 (z, z + 1)) ∧ cs.size = z ∧ xs.length ≤ z ∧ ∀ i, i < xs.length → cs[i]? = some (.int .u8 (gi xs i))
theorem BZ.ext {w w' : World} {g : Nat} {xs : List Int} (h : BZ w g xs) (x : Ext w w') : BZ w' g xs := by
  obtain ⟨cs, z, h1, h2⟩ := h
  exact ⟨cs, z, x.block h1, h2⟩
theorem BZ.lt {w : World} {g : Nat} {xs : List Int} (h : BZ w g xs) : g < w.heap.size := by
  obtain ⟨cs, z, h1, h2⟩ := h
  exact (Array.getElem?_eq_some_iff.1 h1).1
theorem BZ.cell {w : World} {g i : Nat} {xs : List Int} (h : BZ w g xs) (hi : i < xs.length) : w.cell? ⟨g, i, none⟩ = some (.int .u8 (gi xs i)) := by
  obtain ⟨cs, z, h1, h2, h3, h4⟩ := h
  simp [World.cell?, h1, h4 i hi]
theorem BZ.frozen {w : World} {g i : Nat} {xs : List Int} (h : BZ w g xs) (hi : i < xs.length) : w.frozen? ⟨g, i, none⟩ = false := by
  obtain ⟨cs, z, h1, h2, h3, h4⟩ := h
  simp [World.frozen?, h1]; omega
theorem BZ.set {w : World} {g i : Nat} {xs : List Int} (h : BZ w g xs) (hi : i < xs.length) (x : Int) : BZ (w.setCell ⟨g, i, none⟩ (.int .u8 x)) g (xs.set i x) := by
  obtain ⟨cs, z, h1, h2, h3, h4⟩ := h
  refine ⟨cs.setIfInBounds i (.int .u8 x), z, ?_, by simpa using h2, by simpa using h3, fun j hj => ?_⟩
  · have hlt := lt_of_block h1
    have h' : w.heap[g] = .cells cs 5 (z, z + 1) := by simpa [Array.getElem?_eq_getElem hlt] using h1
    show (w.heap.modify g _)[g]? = _
    rw [Array.getElem?_eq_getElem (by simpa using hlt), Array.getElem_modify_self, h']
    rfl
  · rw [List.length_set] at hj
    rw [gi_set hi, Array.getElem?_setIfInBounds]
    by_cases e : j = i
    · subst e; simp; omega
    · rw [if_neg (fun h => e h.symm), if_neg e]; exact h4 j hj
theorem BZ.vs {w : World} {g c : Nat} {xs : List Int} (h : BZ w g xs) (hc : xs.length ≤ c) (hm : c ≤ maxLen) : VS w (.slice (some ⟨g, 0, none⟩) xs.length c) c (xs.map (Value.int .u8)) := by
  refine ⟨_, by rw [List.length_map], by simpa using hc, hm, fun h => (by cases h), fun a ha => ?_⟩
  obtain rfl := Option.some.inj ha
  refine ⟨fun _ => rfl, fun j u hj => ?_⟩
  rw [List.getElem?_map] at hj
  have hl : j < xs.length := by
    rcases Nat.lt_or_ge j xs.length with h' | h'
    · exact h'
    · rw [List.getElem?_eq_none h'] at hj; cases hj
  rw [gi_some hl] at hj
  simp only [Option.map_some, Option.some.injEq] at hj
  rw [← hj, Nat.zero_add]; exact h.cell hl
theorem BZ.made (w : World) (s : ByteArray) : BZ (Lib.bytesWorld w 5 s) w.heap.size (bts s) := by
  refine ⟨_, _, Lib.bytesWorld_at_new w 5 s, rfl, ?_, fun i hi => ?_⟩
  · rw [bts_len]; simp [Lib.bytesCells]
  · rw [bts_len] at hi
    rw [bts_at hi]
    unfold Lib.bytesCells
    rw [Array.getElem?_append, if_pos (by simpa using hi)]
    simp [hi]
    rfl
theorem bw_ext (w : World) (e : TypeId) (s : ByteArray) : Ext w (Lib.bytesWorld w e s) := Joins.below_bytesWorld _ w _ _ (Nat.le_refl _)
theorem bw_cell {w : World} {a : Addr} {v : Value} (h : w.cell? a = some v) (e : TypeId) (s : ByteArray) : (Lib.bytesWorld w e s).cell? a = some v := (bw_ext w e s).cell h
theorem cell_o1' {w : World} {b o : Nat} {a : Addr} {v : Value} (h : w.cell? a = some v) (hb : a.block ≠ b) (u : Value) : (w.setCell ⟨b, o, none⟩ u).cell? a = some v := by
  have hx : (w.setCell ⟨b, o, none⟩ u).cell? a = w.cell? a := World.cell?_of_block (Deep.blk_setCell_other _ _ _ _ hb)
  rw [hx]; exact h
/-! ### strings.Builder -/
theorem bld_check3 (B b : Nat) (bs : List Value) (w : World) (h : Lib.IsBuilder 81 5 B b bs w) :
    Calls Tryd.prog 60 #[.pointer (some ⟨b, 0, none⟩)] w fun e w' => e = .returned (.tuple #[]) ∧ (Lib.BuilderAt 81 5 B b (.pointer (some ⟨b, 0, none⟩)) bs w' ∧ Below B w w' ∧ ∀ a v, a.block ≠ b → w.cell? a = some v → w'.cell? a = some v) := by
  rcases h with h | h
  · refine (bld_check_fresh b w h.cell0 h.shape h.frozen0).mono ?_
    rintro e w' ⟨rfl, rfl⟩
    exact ⟨rfl, h.used _, (Below.refl B w).setCell (p := ⟨b, 0, none⟩) h.1 _, fun a v hb hc => cell_o1' hc hb _⟩
  · refine (bld_check_used b w h.cell0).mono ?_
    rintro e w' ⟨rfl, rfl⟩
    exact ⟨rfl, h, Below.refl B _, fun a v _ hc => hc⟩
set_option maxHeartbeats 2000000 in
set_option maxRecDepth 100000 in
theorem bld_write (B b g c : Nat) (bs : List Value) (xs : List Int) (w : World) (h : Lib.IsBuilder 81 5 B b bs w) (hv : VS w (.slice (some ⟨g, 0, none⟩) xs.length c) c (xs.map (Value.int .u8))) (hg : g ≠ b) (hlen : bs.length + xs.length ≤ 1000000) (hBw : B ≤ w.heap.size) :
    Calls Tryd.prog 37 #[.pointer (some ⟨b, 0, none⟩), .slice (some ⟨g, 0, none⟩) xs.length c] w fun e w' => (∃ v, e = .returned v) ∧ (Lib.IsBuilder 81 5 B b (bs ++ xs.map (Value.int .u8)) w' ∧ Below B w w') := by
  obtain ⟨n, hn⟩ : ∃ n, n = xs.length := ⟨_, rfl⟩
  rw [← hn] at hv ⊢
  have Hn := Lib.hid hn
  clear hn
  go_enter Tryd.func37, Tryd.ntmps37
  go_wp2_with (go_at_call 60; refine (bld_check3 B b bs _ h).mono ?_)
  rintro e w1 ⟨rfl, h1, hb1, hk1⟩
  obtain ⟨hB, v, hbk, hown, hne⟩ := h1
  have c0 : w1.cell? ⟨b, 0, none⟩ = some (.pointer (some ⟨b, 0, none⟩)) := by rw [Lib.cell_of_heap hbk]; rfl
  have c1 : w1.cell? ⟨b, 1, none⟩ = some v := by rw [Lib.cell_of_heap hbk]; rfl
  have hv1 : VS w1 (.slice (some ⟨g, 0, none⟩) n c) c (xs.map (Value.int .u8)) := by
    obtain ⟨ao, e1, e2, e3, e4, e5⟩ := hv
    refine ⟨ao, e1, e2, e3, e4, fun a ha => ⟨(e5 a ha).1, fun j u hj => hk1 _ _ ?_ ((e5 a ha).2 j u hj)⟩⟩
    simp only [Value.slice.injEq] at e1
    rw [← e1.1] at ha
    obtain rfl := Option.some.inj ha
    exact hg
  have h8 : ∀ u ∈ xs.map (Value.int .u8), u.oneCell' = true := fun u hu => by
    obtain ⟨x, _, rfl⟩ := List.mem_map.1 hu
    rfl
  have Hhk := Lib.hid hk1
  clear hv hk1
  go_wp2_with (at_builtin; refine app_own_g eiU8 rfl _ _ rfl B _ _ _ rfl hown _ _ _ rfl hv1 h8 ?c3 ?c4 ?c5 ?_)
  case c3 => rw [List.length_map]; have := hown.1; omega
  case c4 => rw [List.length_map]; have := hown.1; omega
  case c5 => have := hb1.size; omega
  intro v' w2 hown' hgrow
  have hlt : b < w1.heap.size := by
    rcases Nat.lt_or_ge b w1.heap.size with h' | h'
    · exact h'
    · simp [Array.getElem?_eq_none h'] at hbk
  have hb2 : w2.heap[b]? = some (.cells #[.pointer (some ⟨b, 0, none⟩), v] 81 (0, 0)) := by
    rw [hgrow.block b hlt (fun e => hne e.symm)]
    exact hbk
  have d0 : w2.cell? ⟨b, 0, none⟩ = some (.pointer (some ⟨b, 0, none⟩)) := by rw [Lib.cell_of_heap hb2]; rfl
  have d1 : w2.cell? ⟨b, 1, none⟩ = some v := by rw [Lib.cell_of_heap hb2]; rfl
  have f1 : w2.frozen? ⟨b, 1, none⟩ = false := Lib.frozen_of_heap hb2 1
  obtain ⟨ao, n', cap, rfl⟩ : ∃ ao n' cap, v' = .slice ao n' cap := by
    rcases hown'.2 with ⟨hv, _⟩ | ⟨g, cap, cur, hv, _⟩
    · exact ⟨_, _, _, hv⟩
    · exact ⟨_, _, _, hv⟩
  go_wp2
  go_ret2
  refine ⟨⟨_, rfl⟩, .inr ?_, ?_⟩
  · exact Lib.BuilderAt.put (T := 81) (e := 5) hB hb2 (bs' := bs ++ xs.map (Value.int .u8)) (by simpa using hown') (by decide)
  · exact (hb1.grown hgrow (by have := hb1.size; omega) (fun k hk => (hown.lt k hk).1)).setCell (p := ⟨b, 1, none⟩) hB _
/-! ### Texts -/
/-- The lines of the first k rows, the last one first. -/
def rT (W : Nat) (rows : List (List Ho)) : Nat → List Int
  | 0 => []
  | k + 1 => sgn W (ow rows k) ++ [10] ++ rT W rows k
theorem rT_len (W : Nat) (rows : List (List Ho)) : ∀ k, (rT W rows k).length = (W + 1) * k
  | 0 => rfl
  | k + 1 => by
    rw [rT, List.length_append, List.length_append, sgn_len, rT_len W rows k, Nat.mul_succ]; simp; omega
theorem byt_sgn (W : Nat) (r : List Ho) : Byt (sgn W r) := fun x hx => by
  rcases sg_sgn_mem x hx with rfl | rfl | rfl <;> omega
theorem byt_rT (W : Nat) (rows : List (List Ho)) : ∀ k, Byt (rT W rows k)
  | 0 => byt_nil
  | k + 1 => ((byt_sgn W _).app (byt_one (by omega))).app (byt_rT W rows k)
theorem bts_bstr {xs : List Int} (h : Byt xs) : bts (bstr xs) = xs := by
  unfold bts
  rw [bstr_data, List.map_map]
  conv => rhs; rw [← List.map_id xs]
  refine List.map_congr_left fun x hx => ?_
  have := h x hx
  simp only [Function.comp_apply, id]
  rw [UInt8.toNat_ofNat_of_lt' (by show x.toNat < 256; omega)]
  omega
theorem bstr_bts (s : ByteArray) : bstr (bts s) = s := by
  apply bytes_eq
  rw [bstr_data]
  unfold bts
  rw [List.map_map]
  conv => rhs; rw [← List.map_id s.data.toList]
  refine List.map_congr_left fun x hx => ?_
  simp
/-- The dots of a row. -/
def dotS (W : Nat) : ByteArray := ⟨(Lib.repeatL (Utf8.encode 46).data.toList W).toArray⟩
theorem repL_one (b : UInt8) : ∀ n, Lib.repeatL [b] n = List.replicate n b
  | 0 => rfl
  | n + 1 => by rw [Lib.repeatL, repL_one b n]; rfl
theorem dot_bts (W : Nat) : bts (dotS W) = List.replicate W 46 := by
  unfold bts dotS
  rw [show (Utf8.encode 46).data.toList = [46] from by decide, repL_one]
  simp
theorem dot_size (W : Nat) : (dotS W).size = W := by rw [← bts_len, dot_bts]; simp
theorem Repeat_calls (W : Nat) (w : World) (hW : W ≤ 1000) : Calls Tryd.prog 35 #[.string (Utf8.encode 46), .int .i64 (W : Int)] w fun e w' => e = .returned (.string (dotS W)) ∧ Ext w w' :=
  Tryd.strings_Repeat (Utf8.encode 46) W w (by omega) (by rw [show (Utf8.encode 46).size = 1 from by decide]; omega)
theorem signX_calls (k : Int) (w : World) : Calls Tryd.prog 36 #[.int .u8 k] w fun e w' => e = .returned (.int .u8 (kSg k)) ∧ Ext w w' := (sign_calls k w).mono fun e w' h => ⟨h.1, by rw [← h.2]; exact Ext.refl w⟩
def ltx (W : Int) (rows : List (List Ho)) : List Int := if lchk W rows = 0 then rT W.toNat rows rows.length else []
end Go.Proofs.YthllbcjglcplhaaDoor
/- laces.Text. -/
namespace Go.Proofs.YthllbcjglcplhaaDoor
set_option linter.unusedVariables false
set_option linter.unusedSimpArgs false
set_option maxRecDepth 8000
open Go Go.RowKit

set_option maxHeartbeats 8000000 in
theorem LText_calls (W : Int) (v : Value) (c : Nat) (rows : List (List Ho)) (w : World) (h : HR w v c rows) : Calls Tryd.prog 16 #[.agg #[.int .i64 W, v]] w fun e w' => e = .returned (.string (bstr (ltx W rows))) ∧ Ext w w' := by
  have hck := fun w' (x : Ext w w') => LCheck_calls W v c rows w' (h.ext x)
  obtain ⟨ao, N, rfl, hn, hc, hcm, hat⟩ := h.open
  unfold maxLen at hcm
  obtain ⟨B, hB⟩ : ∃ B, B = w.alloc (.cells #[.int .i64 W, .slice ao N c] 24) := ⟨_, rfl⟩
  have xB : Ext w B := by rw [hB]; exact (Ext.refl w).alloc _
  have hB1 := B2.new w (.int .i64 W) (.slice ao N c) 24
  rw [← hB] at hB1
  have e0 := hB1.c0; have e1 := hB1.c1
  have HCk := Lib.hid (hck B xB); have XB := Lib.hid xB; have HB2 := Lib.hid (fun w' (x : Ext B w') => hB1.ext x); have HA := Lib.hid hat; have Hn := Lib.hid hn; have HBe := Lib.hid hB
  rw [hB] at e0 e1
  clear hat h hn xB hB1 hB hck
  go_enter Tryd.func16, Tryd.ntmps16
  go_wp2_with fail
  rw [← HBe.out]
  refine HCk.out.mono ?_
  rintro e w1 ⟨rfl, x1⟩
  have X1 := Lib.hid x1
  clear x1 HCk e0 e1
  by_cases hE : lchk W rows = 0
  case neg =>
    have hne : (lchk W rows != 0) = true := by rw [bne, beq_eq_false_iff_ne.2 hE]; rfl
    have HT := Lib.hid (show ltx W rows = [] from if_neg hE)
    obtain ⟨E, hEE⟩ : ∃ E, E = lchk W rows := ⟨_, rfl⟩
    rw [← hEE] at hne ⊢
    clear hE hEE
    go_wp2
    go_ret
    exact ⟨by rw [HT.out]; rfl, XB.out.trans X1.out⟩
  rw [hE]
  obtain ⟨z1, z2, z3, z4, z5'⟩ := lchk_zero hE
  obtain ⟨V, rfl⟩ : ∃ V : Nat, W = V := ⟨W.toNat, by omega⟩
  have hlt : ltx V rows = rT V rows N := by unfold ltx; rw [if_pos hE, Int.toNat_natCast, Hn.out]
  have hN : N ≤ 31 := by rw [Hn.out]; exact z1
  have hV : V ≤ 16 := by omega
  have HTx := Lib.hid hlt; have HRow := Lib.hid z5'
  have q0 := (HB2.out w1 X1.out).c0; have q1 := (HB2.out w1 X1.out).c1
  have q1a := cell_alloc q1 (.cells #[.pointer none, .slice none 0 0] 81)
  clear hE hlt z1 z2 z3 z4 z5'
  go_wp2
  clear q0 q1 q1a
  go_loopw [4, 5, 7, 14, 34] (fun _ _ _ i _ wr => ∃ (k : Nat) (acc : List Int), k ≤ N ∧ i = .int .i64 k ∧ acc.length ≤ 17 * k ∧ Hid (acc ++ rT V rows (N - k) = rT V rows N) ∧ Hid (Lib.IsBuilder 81 5 w1.heap.size w1.heap.size (acc.map (Value.int .u8)) wr) ∧ Hid (Ext w1 wr)) (fun _ _ _ i _ _ => N - (intOf i).toNat)
  case atStart => exact ⟨0, [], Nat.zero_le _, rfl, Nat.zero_le _, Lib.hid (by simp), Lib.hid (Lib.fresh_isBuilder _ _ _), Lib.hid ((Ext.refl w1).alloc _)⟩
  case round =>
    obtain ⟨k, acc, hk, rfl, hac, HAc, HBd, HX⟩ := hrel
    by_cases hlt : k < N
    · have hlt' : (k : Int) < (N : Int) := by omega
      obtain ⟨ix, hix⟩ : ∃ ix : Nat, ix = N - 1 - k := ⟨_, rfl⟩
      have hixN : ix < N := by omega
      obtain ⟨b, o, a, m, d, rfl, hc0, hr0⟩ := HA.out ix hixN
      have hrB := hr0.ext XB.out
      have XQ := Lib.hid (fun w' (x : Ext w1 w') => (XB.out.trans (X1.out.trans x)).cell hc0)
      obtain ⟨_, _, e1, e2, e3, e4, e5⟩ := hrB.open
      simp only [Value.slice.injEq] at e1
      obtain ⟨rfl, rfl, _⟩ := e1
      unfold maxLen at e4
      have HE5 := Lib.hid e5; have He2 := Lib.hid e2
      have hvl := HRow.out ix (by rw [← Hn.out]; exact hixN)
      have HVl := Lib.hid hvl
      have hst : rT V rows (N - k) = sgn V (ow rows ix) ++ [10] ++ rT V rows (N - (k + 1)) := by
        rw [show N - k = ix + 1 by omega, show N - (k + 1) = ix by omega]; rfl
      have HSt := Lib.hid hst
      have t1 : (N : Int) - 1 - (k : Int) = (ix : Int) := by omega
      have t3 : (ix : Int) < N := by omega
      have hconv := fun w' => Lib.run_convert_string_bytes (P := Tryd.prog) w' 9 76 5 (dotS V) Tryd.underlying9 Tryd.underlying76 Tryd.underlying5
      rw [dot_size] at hconv
      have hsg := fun w' => signX_calls 1 w'
      have hrp := fun w' => Repeat_calls V w' (by omega)
      have HSg := Lib.hid hsg; have HRp := Lib.hid hrp
      have q0_1 := (HB2.out wr (X1.out.trans HX.out)).c0
      have q0_2 := (HB2.out wr (X1.out.trans HX.out)).c1
      clear hr0 hrB e2 e5 hvl hst hix hsg hrp hc0
      go_wp2
      refine wp_region_held_drew (S := fun w' => w'.cell? ⟨w.heap.size, 0, Option.none⟩ = some (.int .i64 (V : Int))) (by kernel_rfl) ?_ (fun hHeld => ?_)
      · exact q0_1
      refine wpAnyH_take (i := 2) (v := ?va86_2) rfl (by kernel_rfl) (by kernel_rfl) (by kernel_rfl) (fun _ _ _ h => h) (Or.inl ⟨by rfl, fun w hSw => ?ti86_2⟩) (by assumption) ?rest86_2
      case ti86_2 => ((try dsimp only at hSw); go_simp; (first | done | with_reducible rfl))
      try simp only [Act.put, List.getElem_toArray, List.getElem_cons_zero, List.getElem_cons_succ, List.setIfInBounds_toArray, List.set_cons_zero, List.set_cons_succ]
      refine wpAnyH_take (i := 3) (v := ?va89_3) rfl (by kernel_rfl) (by kernel_rfl) (by kernel_rfl) (fun _ _ _ h => h) (Or.inl ⟨by rfl, fun w hSw => ?ti89_3⟩) (by assumption) ?rest89_3
      case ti89_3 => ((try dsimp only at hSw); go_simp; (first | done | with_reducible rfl))
      try simp only [Act.put, List.getElem_toArray, List.getElem_cons_zero, List.getElem_cons_succ, List.setIfInBounds_toArray, List.set_cons_zero, List.set_cons_succ]
      refine wpAnyH_ready (rs := [0]) (by kernel_rfl) (by simp) ?_
      refine AllReadyH.cons rfl (fun K hK => ?_) AllReadyH.nil
      go_simp
      refine (HSg.out _).mono ?_
      intro e wa hh
      obtain ⟨rfl, x⟩ := hh
      have Xa : Hid (Ext wr wa) := Lib.hid (Ext.trans (by ((repeat (first | (with_reducible exact Ext.refl _) | (with_reducible apply Ext.drew) | (with_reducible apply Ext.drewN) | (with_reducible apply Ext.alloc))); done)) x)
      have q1_1 := Xa.out.cell q0_1
      go_simp
      refine hK.out _ _ ?_ (fun hHeld => ?_)
      · exact q1_1
      clear hK K x
      try simp only [Act.put, List.getElem_toArray, List.getElem_cons_zero, List.getElem_cons_succ, List.setIfInBounds_toArray, List.set_cons_zero, List.set_cons_succ]
      refine wpAnyH_take (i := 1) (v := ?va105_1) rfl (by kernel_rfl) (by kernel_rfl) (by kernel_rfl) (fun _ _ _ h => h) (Or.inl ⟨by rfl, fun w hSw => ?ti105_1⟩) (by assumption) ?rest105_1
      case ti105_1 => ((try dsimp only at hSw); go_simp; (first | done | with_reducible rfl))
      try simp only [Act.put, List.getElem_toArray, List.getElem_cons_zero, List.getElem_cons_succ, List.setIfInBounds_toArray, List.set_cons_zero, List.set_cons_succ]
      refine wpAnyH_ready (rs := [4]) (by kernel_rfl) (by simp) ?_
      refine AllReadyH.cons rfl (fun K hK => ?_) AllReadyH.nil
      go_simp
      refine (HRp.out _).mono ?_
      intro e wb hh
      obtain ⟨rfl, x⟩ := hh
      have Xb : Hid (Ext wr wb) := Lib.hid (Ext.trans Xa.out (Ext.trans (by ((repeat (first | (with_reducible exact Ext.refl _) | (with_reducible apply Ext.drew) | (with_reducible apply Ext.drewN) | (with_reducible apply Ext.alloc))); done)) x))
      have q2_1 := Xb.out.cell q0_1
      go_simp
      refine hK.out _ _ ?_ (fun hHeld => ?_)
      · exact q2_1
      clear hK K x
      try simp only [Act.put, List.getElem_toArray, List.getElem_cons_zero, List.getElem_cons_succ, List.setIfInBounds_toArray, List.set_cons_zero, List.set_cons_succ]
      refine wpAnyH_ready (rs := [5]) (by kernel_rfl) (by simp) ?_
      refine AllReadyH.cons rfl (fun K hK => ?_) AllReadyH.nil
      go_simp
      refine hK.out _ _ ?_ (fun hHeld => ?_)
      · exact bw_cell q2_1 _ _
      clear hK K
      try simp only [Act.put, List.getElem_toArray, List.getElem_cons_zero, List.getElem_cons_succ, List.setIfInBounds_toArray, List.set_cons_zero, List.set_cons_succ]
      refine wpAnyH_take (i := 6) (v := ?va128_6) rfl (by kernel_rfl) (by kernel_rfl) (by kernel_rfl) (fun _ _ _ h => h) (Or.inl ⟨by rfl, fun w hSw => ?ti128_6⟩) (by assumption) ?rest128_6
      case ti128_6 => ((try dsimp only at hSw); go_simp; (first | done | with_reducible rfl))
      try simp only [Act.put, List.getElem_toArray, List.getElem_cons_zero, List.getElem_cons_succ, List.setIfInBounds_toArray, List.set_cons_zero, List.set_cons_succ]
      refine wpAnyH_done (by kernel_rfl) ?_ _
      have q3 := (HB2.out (Lib.bytesWorld wb 5 (dotS V)) (X1.out.trans (HX.out.trans (Xb.out.trans (bw_ext _ _ _))))).c0
      have q4 := (HB2.out (Lib.bytesWorld wb 5 (dotS V)) (X1.out.trans (HX.out.trans (Xb.out.trans (bw_ext _ _ _))))).c1
      have q5 := XQ.out (Lib.bytesWorld wb 5 (dotS V)) (HX.out.trans (Xb.out.trans (bw_ext _ _ _)))
      obtain ⟨C, hC⟩ : ∃ C, C = grownCap wb V 0 5 := ⟨_, rfl⟩
      have hC1 : V ≤ C := by rw [hC]; exact grownCap_ge _ _ _ _
      have hC2 : C ≤ maxLen := by rw [hC]; exact grownCap_le_maxLen _ _ _ _ (by unfold maxLen; omega)
      unfold maxLen at hC2
      obtain ⟨g, hg⟩ : ∃ g, g = wb.heap.size := ⟨_, rfl⟩
      have hbz : BZ (Lib.bytesWorld wb 5 (dotS V)) g (sgn V ((ow rows ix).take 0)) := by
        have := BZ.made wb (dotS V)
        rw [dot_bts] at this
        rw [hg, List.take_zero]; exact this
      obtain ⟨wl, hwl⟩ : ∃ wl, wl = Lib.bytesWorld wb 5 (dotS V) := ⟨_, rfl⟩
      rw [← hwl] at hbz q3 q4 q5 ⊢
      rw [← hC, ← hg]
      have Xl := Lib.hid (show Ext wb wl from by rw [hwl]; exact bw_ext _ _ _)
      have HBz := Lib.hid hbz; have Hg := Lib.hid hg
      have XX := Lib.hid (HX.out.trans Xb.out)
      clear hwl hC hbz hg hconv q0_1 q0_2 q1_1 q2_1
      go_wp2
      clear q3 q4 q5
      go_loopw [7, 34] (fun _ i ws => ∃ j : Nat, j ≤ m ∧ i = .int .i64 j ∧ Hid (Ext wb ws ∧ BZ ws g (sgn V ((ow rows ix).take j)))) (fun _ i _ => m - (intOf i).toNat)
      case atStart => exact ⟨0, Nat.zero_le _, rfl, Lib.hid ⟨Xl.out, HBz.out⟩⟩
      case round =>
        obtain ⟨j, hj, rfl, HJ⟩ := hrel
        obtain ⟨wt, hwt⟩ : ∃ wt : World, wt = wr := ⟨_, rfl⟩
        rw [← hwt] at HJ ⊢
        clear hwt HBz
        by_cases hjl : j < m
        · have hjl' : (j : Int) < (m : Int) := by omega
          obtain ⟨b2, o2, rfl, e8⟩ := HE5.out j hjl
          obtain ⟨s0, s1⟩ := e8.ext (X1.out.trans (XX.out.trans HJ.out.1))
          have hjr : j < (ow rows ix).length := by rw [← He2.out]; exact hjl
          obtain ⟨i1, i2, i3, i4⟩ := rowE_all HVl.out _ (oi_mem hjr)
          have htw := (oi (ow rows ix) j).two_lst
          have hTC := fun w' => two_calls (oi (ow rows ix) j) w' ⟨i1, by omega⟩
          have hsn := sgn_snoc V ((ow rows ix).take j) (oi (ow rows ix) j)
          rw [← take_succ_oi hjr] at hsn
          unfold put1 at hsn
          obtain ⟨L, hL⟩ : ∃ L, L = sgn V ((ow rows ix).take j) := ⟨_, rfl⟩
          have hLl : L.length = V := by rw [hL, sgn_len]
          rw [← hL] at hsn HJ
          rcases hh : oi (ow rows ix) j with ⟨p, r⟩
          rw [hh] at s0 s1 i1 i2 i3 i4 htw hTC hsn
          simp only at s0 s1 i1 i2
          obtain ⟨T, hT⟩ : ∃ T, T = (⟨p, r⟩ : Ho).two := ⟨_, rfl⟩
          rw [← hT] at htw hTC hsn
          unfold Ho.lst at i4
          have hTb : (0 ≤ T ∧ T < V) ∧ p ≠ T := by
            rcases Bool.eq_false_or_eq_true r with e | e
            · have := htw.1 e; simp only at this; omega
            · have := htw.2 e; simp only at this; omega
          obtain ⟨P, rfl⟩ : ∃ P : Nat, p = P := ⟨p.toNat, by omega⟩
          obtain ⟨Q, rfl⟩ : ∃ Q : Nat, T = Q := ⟨T.toNat, by omega⟩
          have hPV : P < V := by omega
          have hQV : Q < V := by omega
          have hPV' : (P : Int) < (V : Int) := by omega
          have hQV' : (Q : Int) < (V : Int) := by omega
          simp only [Int.toNat_natCast] at hsn
          unfold Ho.val at hTC
          simp only at hTC
          have HTC := Lib.hid hTC; have HSn := Lib.hid hsn; have HLl := Lib.hid hLl
          have HS3 := Lib.hid (fun w' => signX_calls 3 w'); have HS4 := Lib.hid (fun w' => signX_calls 4 w')
          clear hTC hsn hLl hL hT hTb htw i1 i2 i3 i4 e8 hh hjr
          obtain ⟨w6, hw6⟩ : ∃ w6, w6 = wt.alloc (.cells #[.int .i64 (P : Int), .bool r] 39) := ⟨_, rfl⟩
          have x6 : Ext wt w6 := by rw [hw6]; exact (Ext.refl wt).alloc _
          have hB6 : B2 w6 wt.heap.size (.int .i64 (P : Int)) (.bool r) 39 := by rw [hw6]; exact B2.new wt _ _ _
          have q0_1 := hB6.c0; have q0_2 := hB6.c1
          have htg : wt.heap.size ≠ g := by have := HJ.out.2.lt; omega
          have X6 := Lib.hid x6; have HW6 := Lib.hid hw6
          have hPm : P < L.length := by rw [HLl.out]; exact hPV
          have hQm : Q < (L.set P 79).length := by rw [List.length_set, HLl.out]; exact hQV
          rw [hw6] at q0_1 q0_2
          clear x6 hw6 hB6
          go_wp2
          rw [← HW6.out]
          rw [← HW6.out] at q0_1 q0_2
          go_region_held3 (fun w' => w'.cell? ⟨wt.heap.size, 0, Option.none⟩ = some (.int .i64 (P : Int)) ∧ w'.cell? ⟨wt.heap.size, 1, Option.none⟩ = some (.bool r)) (first | (with_reducible exact ⟨q0_1, q0_2⟩) | (with_reducible exact ⟨q1_1, q1_2⟩) | with_reducible exact ⟨cell_o1' q1_1 htg _, cell_o1' q1_2 htg _⟩ | go_keep) (first
            | (go_at_call 36; (refine (HS3.out _).mono ?_); intro e wc hh; obtain ⟨rfl, x⟩ := hh; have Xc : Hid (Ext w6 wc) := Lib.hid (Ext.trans (by ((repeat (first | (with_reducible exact Ext.refl _) | (with_reducible apply Ext.drew) | (with_reducible apply Ext.drewN) | (with_reducible apply Ext.alloc))); done)) x); have q1_1 := Xc.out.cell q0_1; have q1_2 := Xc.out.cell q0_2; have hz := (HJ.out.2.ext (X6.out.trans Xc.out)).cell hPm; have fz := (HJ.out.2.ext (X6.out.trans Xc.out)).frozen hPm; clear x))
          obtain ⟨w7, hw7⟩ : ∃ w7, w7 = wc.setCell ⟨g, P, none⟩ (.int .u8 (kSg 3)) := ⟨_, rfl⟩
          rw [← hw7]
          have hgw : wb.heap.size ≤ g := by rw [Hg.out]; exact Nat.le_refl _
          have k0 : w7.cell? ⟨wt.heap.size, 0, none⟩ = some (.int .i64 (P : Int)) := by rw [hw7]; exact cell_o1' q1_1 htg _
          have k1 : w7.cell? ⟨wt.heap.size, 1, none⟩ = some (.bool r) := by rw [hw7]; exact cell_o1' q1_2 htg _
          have hb7 : BZ w7 g (L.set P 79) := by rw [hw7]; exact (HJ.out.2.ext (X6.out.trans Xc.out)).set hPm 79
          have hx7 : Ext wb w7 := by rw [hw7]; exact (HJ.out.1.trans (X6.out.trans Xc.out)).setCell hgw _
          have HB7 := Lib.hid hb7; have HX7 := Lib.hid hx7
          clear hw7 hb7 hx7 q0_1 q0_2 q1_1 q1_2 hz fz s0 s1
          go_wp2_with fail
          refine (HTC.out _).mono ?_
          rintro e w8 ⟨rfl, x8⟩
          have X8 := Lib.hid x8
          clear x8 k0 k1
          go_wp2_with fail
          refine (HS4.out _).mono ?_
          rintro e w9 ⟨rfl, x9⟩
          have X9 := Lib.hid (X8.out.trans x9)
          have hz := (HB7.out.ext X9.out).cell hQm; have fz := (HB7.out.ext X9.out).frozen hQm
          have HN := Lib.hid (show Ext wb (w9.setCell ⟨g, Q, none⟩ (.int .u8 (kSg 4))) ∧ BZ (w9.setCell ⟨g, Q, none⟩ (.int .u8 (kSg 4))) g (sgn V ((ow rows ix).take (j + 1))) from
            ⟨(HX7.out.trans X9.out).setCell hgw _, by rw [HSn.out]; exact (HB7.out.ext X9.out).set hQm 47⟩)
          clear x9
          go_wp2
          go_roundw
          case rel => exact ⟨j + 1, by omega, by go_num, HN⟩
          case measure => simp [intOf]; omega
        · obtain rfl : m = j := by omega
          have hjl' : ¬ (m : Int) < (m : Int) := by omega
          have hbz := HJ.out.2
          rw [List.take_of_length_le (by rw [← He2.out]; exact Nat.le_refl _)] at hbz
          have hbw := bld_ext HBd.out (Xb.out.trans HJ.out.1)
          have hlt0 : w1.heap.size < wt.heap.size := bld_lt hbw
          have hne : g ≠ w1.heap.size := by
            have h1 := bld_lt HBd.out
            have h2 := Xb.out.size
            have h3 := Hg.out
            omega
          have hvs := hbz.vs (c := C) (by rw [sgn_len]; exact hC1) (by unfold maxLen; omega)
          have hwr := bld_write w1.heap.size w1.heap.size g C _ (sgn V (ow rows ix)) wt hbw hvs hne (by rw [List.length_map, sgn_len]; omega) (XX.out.trans HJ.out.1).size
          rw [sgn_len] at hwr
          have HWr := Lib.hid hwr
          have XT := Lib.hid (XX.out.trans HJ.out.1)
          have hac2 : (acc ++ sgn V (ow rows ix) ++ [10]).length ≤ 17 * (k + 1) := by rw [List.length_append, List.length_append, sgn_len]; simp; omega
          have HAc2 := Lib.hid (show (acc ++ sgn V (ow rows ix) ++ [10]) ++ rT V rows (N - (k + 1)) = rT V rows N by rw [← HAc.out, HSt.out]; simp)
          clear hbz hbw hlt0 hne hvs hwr HJ
          go_wp2_with fail
          refine HWr.out.mono ?_
          rintro e w5 ⟨⟨v, rfl⟩, hb5, hx5⟩
          have HB5 := Lib.hid hb5; have X5 := Lib.hid (show Ext w1 w5 from Below.trans XT.out hx5)
          clear hb5 hx5 HWr
          go_wp2_with fail
          refine (bld_byte w1.heap.size w1.heap.size _ 10 _ HB5.out (by rw [List.length_append, List.length_map, List.length_map, sgn_len]; omega) X5.out.size).mono ?_
          rintro e w6 ⟨rfl, hb6, hx6⟩
          have HB6 := Lib.hid (show Lib.IsBuilder 81 5 w1.heap.size w1.heap.size ((acc ++ sgn V (ow rows ix) ++ [10]).map (Value.int .u8)) w6 from by
            rw [List.map_append, List.map_append]; exact hb6)
          have X6 := Lib.hid (show Ext w1 w6 from Below.trans X5.out hx6)
          clear hb6 hx6 HB5
          go_wp2
          go_roundw
          case rel => exact ⟨k + 1, _, by omega, by go_num, hac2, HAc2, HB6, X6⟩
          case measure => simp [intOf]; omega
    · obtain rfl : N = k := by omega
      have hlt' : ¬ (N : Int) < (N : Int) := by omega
      have hacc : acc = rT V rows N := by have := HAc.out; rw [Nat.sub_self] at this; simpa [rT] using this
      have hby : Lib.byteCells (bstr (rT V rows N)).data.toList = (rT V rows N).map (Value.int .u8) := by rw [← strCells_bstr (byt_rT V rows N)]; rfl
      have hS := Tryd.Builder_String_any w1.heap.size w1.heap.size (bstr (rT V rows N)).data.toList wr (by rw [hby, ← hacc]; exact HBd.out) HX.out.size
      rw [bstr_back] at hS
      have HS := Lib.hid hS
      have XZ := Lib.hid (XB.out.trans (X1.out.trans HX.out))
      clear hS hby hlt hk hacc
      go_wp2_with fail
      refine HS.out.mono ?_
      rintro e w2 ⟨rfl, hs2⟩
      have XF := Lib.hid (XB.out.trans (X1.out.trans (show Ext w1 w2 from Below.trans HX.out hs2)))
      clear hs2
      go_wp2
      go_ret
      exact ⟨ret_str (congrArg bstr HTx.out.symm), XF.out⟩
end Go.Proofs.YthllbcjglcplhaaDoor
