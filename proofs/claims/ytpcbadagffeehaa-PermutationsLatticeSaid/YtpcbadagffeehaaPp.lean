/- Contracts of permutations: Text and Parse. -/
import Derived.Test.YtpcbadagffeehaaPl
import Derived.Test.YtpcbadagffeehaaBld
namespace Go.Proofs.Ytpcbadagffeehaa
set_option linter.unusedVariables false
set_option linter.unusedSimpArgs false
open Go Go.RowKit Go.Shelf

/-- The text of the numbers ahead of k. -/
def textTo (xs : List Int) : Nat → List UInt8
  | 0 => []
  | k + 1 => textTo xs k ++ (if k = 0 then [] else [32]) ++ [UInt8.ofNat (48 + (gi xs k).toNat)]
def textOf (xs : List Int) : List UInt8 := if pcheck xs = 0 then textTo xs xs.length else []
theorem textTo_len (xs : List Int) : ∀ k, (textTo xs k).length = 2 * k - 1
  | 0 => rfl
  | k + 1 => by
    rw [textTo, List.length_append, List.length_append, textTo_len xs k]
    by_cases h : k = 0
    · subst h; rfl
    · rw [if_neg h]; simp; omega
theorem byteCells_append (l k : List UInt8) : Lib.byteCells (l ++ k) = Lib.byteCells l ++ Lib.byteCells k := by simp [Lib.byteCells]
theorem byteCells_len (l : List UInt8) : (Lib.byteCells l).length = l.length := by simp [Lib.byteCells]
theorem byteCells_dig {x : Int} (h0 : 0 ≤ x) (h1 : x ≤ 9) : Lib.byteCells [UInt8.ofNat (48 + x.toNat)] = [.int .u8 (48 + x)] := by
  have : ((UInt8.ofNat (48 + x.toNat)).toNat : Int) = 48 + x := by
    rw [UInt8.toNat_ofNat']; omega
  simp [Lib.byteCells]; omega
theorem textTo_next (xs : List Int) {k : Nat} (h : k ≠ 0) : textTo xs (k + 1) = (textTo xs k ++ [32]) ++ [UInt8.ofNat (48 + (gi xs k).toNat)] := by
  rw [textTo, if_neg h]
theorem textTo_first (xs : List Int) : textTo xs (0 + 1) = textTo xs 0 ++ [UInt8.ofNat (48 + (gi xs 0).toNat)] := by
  show textTo xs 0 ++ (if 0 = 0 then [] else [32]) ++ _ = _
  simp

set_option maxHeartbeats 1000000 in
theorem PText_bad (v : Value) (c : Nat) (xs : List Int) (w : World) (h : IS .u8 w v c xs) (hb : U8L xs) (h0 : pcheck xs ≠ 0) :
    Calls Try.prog 32 #[v] w fun e w' => e = .returned (.string ⟨#[]⟩) ∧ Ext w w' := by
  have hP := Pcheck_calls _ _ _ _ h hb
  obtain ⟨_, _, ao, rfl, _⟩ := h.open
  obtain ⟨e1, he1⟩ : ∃ e, e = pcheck xs := ⟨_, rfl⟩
  rw [← he1] at hP h0
  have HP := Lib.hid hP
  have hne : (e1 != 0) = true := by simpa using h0
  clear hP he1 h0 h hb
  go_enter Try.func32, Try.ntmps32
  go_wp2_with fail
  refine HP.out.mono ?_
  rintro e w1 ⟨rfl, hx⟩
  go_wp2
  go_ret
  exact ⟨rfl, hx⟩

set_option maxHeartbeats 2000000 in
theorem PText_ok (v : Value) (c : Nat) (xs : List Int) (w : World) (h : IS .u8 w v c xs) (hb : U8L xs) (h0 : pcheck xs = 0) :
    Calls Try.prog 32 #[v] w fun e w' => e = .returned (.string ⟨(textTo xs xs.length).toArray⟩) ∧ Ext w w' := by
  have hP := Pcheck_calls _ _ _ _ h hb
  rw [h0] at hP
  obtain ⟨h1, h2, ao, rfl, hao⟩ := h.open
  obtain ⟨hl1, hl, hok⟩ := pcheck_zero h0
  have hb' : ∀ i, i < xs.length → 1 ≤ gi xs i ∧ gi xs i ≤ 8 := fun i hi => by have := pok_inR hok i hi; omega
  obtain ⟨b, o, rfl, hc⟩ : ∃ b o, ao = some ⟨b, o, none⟩ ∧ ∀ i, i < xs.length → w.cell? ⟨b, o + i, none⟩ = some (.int .u8 (gi xs i)) := by
    rcases hao with ⟨_, h0, _⟩ | h
    · omega
    · exact h
  have hlen := textTo_len xs
  have hn := fun k (hk : k ≠ 0) => textTo_next xs (k := k) hk
  have hf := textTo_first xs
  obtain ⟨T, hT⟩ : ∃ T, T = textTo xs := ⟨_, rfl⟩
  have hT0 : T 0 = [] := by rw [hT]; rfl
  rw [← hT] at hlen hn hf ⊢
  obtain ⟨N, hN⟩ : ∃ N, N = xs.length := ⟨_, rfl⟩
  rw [← hN] at hP h1 hl hl1 hb' hc ⊢
  have Hb := Lib.hid hb'; have HC := Lib.hid hc; have HP := Lib.hid hP; have HL := Lib.hid hlen; have HN := Lib.hid hn; have HF := Lib.hid hf; have HT0 := Lib.hid hT0
  clear hN hb hb' hc h hP h0 hok hao hlen hn hf hT hT0
  go_enter Try.func32, Try.ntmps32
  go_wp2_with fail
  refine HP.out.mono ?_
  rintro e w1 ⟨rfl, hx⟩
  have HX := Lib.hid hx
  clear hx
  go_wp2
  go_loopw [11] (fun i wr => ∃ k : Nat, k ≤ N ∧ i = .int .i64 k ∧ Hid (Lib.IsBuilder 69 5 w1.heap.size w1.heap.size (Lib.byteCells (T k)) wr ∧ Ext w1 wr)) (fun i _ => N - (intOf i).toNat)
  case atStart => exact ⟨0, Nat.zero_le _, rfl, Lib.hid ⟨by rw [HT0.out]; exact Lib.fresh_isBuilder _ _ _, (Ext.refl w1).alloc _⟩⟩
  case round =>
    obtain ⟨k, hk, rfl, H⟩ := hrel
    by_cases hlt : k < N
    · have hck := H.out.2.cell (HX.out.cell (HC.out k hlt))
      obtain ⟨b1, b2⟩ := Hb.out k hlt
      have hbd := byteCells_dig (x := gi xs k) (by omega) (by omega)
      by_cases hk0 : k = 0
      · have hf : T (k + 1) = T k ++ [UInt8.ofNat (48 + (gi xs k).toNat)] := by rw [hk0]; exact HF.out
        have hk1 : ¬ (0 : Int) < (k : Int) := by omega
        obtain ⟨x, hx⟩ : ∃ x, x = gi xs k := ⟨_, rfl⟩
        rw [← hx] at hck b1 b2 hbd hf
        have HBD := Lib.hid (And.intro hbd hf)
        have hcall := bld_byte w1.heap.size w1.heap.size (Lib.byteCells (T k)) (48 + x) wr H.out.1 (by rw [byteCells_len, HL.out]; omega) H.out.2.size
        have HCL := Lib.hid hcall
        clear hx hbd hf hcall hk0
        go_wp2_with fail
        refine HCL.out.mono ?_
        rintro e w2 ⟨rfl, r1, r2⟩
        have HR := Lib.hid (And.intro r1 r2)
        clear r1 r2
        go_wp2
        go_roundw
        case rel =>
          refine ⟨k + 1, by omega, by go_num, Lib.hid ⟨?_, Below.trans H.out.2 HR.out.2⟩⟩
          rw [HBD.out.2, byteCells_append, HBD.out.1]
          exact HR.out.1
        case measure => simp [intOf]; omega
      · have hf := HN.out k hk0
        obtain ⟨x, hx⟩ : ∃ x, x = gi xs k := ⟨_, rfl⟩
        rw [← hx] at hck b1 b2 hbd hf
        have HBD := Lib.hid (And.intro hbd hf)
        have hcall := bld_byte w1.heap.size w1.heap.size (Lib.byteCells (T k)) 32 wr H.out.1 (by rw [byteCells_len, HL.out]; omega) H.out.2.size
        have HCL := Lib.hid hcall
        have hk1 : (0 : Int) < (k : Int) := by omega
        clear hx hbd hf hcall hk0
        go_wp2_with fail
        refine HCL.out.mono ?_
        rintro e w2 ⟨rfl, r1, r2⟩
        have hcall := bld_byte w1.heap.size w1.heap.size (Lib.byteCells (T k) ++ [.int .u8 32]) (48 + x) w2 r1 (by rw [List.length_append, byteCells_len, HL.out]; simp; omega) (Nat.le_trans H.out.2.size r2.size)
        have HCL2 := Lib.hid hcall
        have HR := Lib.hid (And.intro r1 r2)
        clear r1 r2 hcall
        go_wp2_with fail
        refine HCL2.out.mono ?_
        rintro e w3 ⟨rfl, r1, r2⟩
        have HR2 := Lib.hid (And.intro r1 r2)
        clear r1 r2
        go_wp2
        go_roundw
        case rel =>
          refine ⟨k + 1, by omega, by go_num, Lib.hid ⟨?_, Below.trans (Below.trans H.out.2 HR.out.2) HR2.out.2⟩⟩
          rw [HBD.out.2, byteCells_append, byteCells_append, HBD.out.1]
          exact HR2.out.1
        case measure => simp [intOf]; omega
    · obtain rfl : k = N := by omega
      have HCL := Lib.hid (Try.Builder_String_any w1.heap.size w1.heap.size (T k) wr H.out.1 H.out.2.size)
      go_wp2_with fail
      refine HCL.out.mono ?_
      rintro e w2 ⟨rfl, r2⟩
      have HR := Lib.hid r2
      clear r2
      go_wp2
      go_ret
      exact ⟨rfl, HX.out.trans (Below.trans H.out.2 HR.out)⟩

theorem PText_calls (v : Value) (c : Nat) (xs : List Int) (w : World) (h : IS .u8 w v c xs) (hb : U8L xs) :
    Calls Try.prog 32 #[v] w fun e w' => e = .returned (.string ⟨(textOf xs).toArray⟩) ∧ Ext w w' := by
  unfold textOf
  by_cases h0 : pcheck xs = 0
  · rw [if_pos h0]; exact PText_ok v c xs w h hb h0
  · rw [if_neg h0]; exact PText_bad v c xs w h hb h0

/-! ### Parse -/
/-- Byte i of a string. -/
def sb (s : ByteArray) (i : Nat) : Int := (s.data.toList.getD i 0).toNat
def digL (s : ByteArray) : List Int := (List.range ((s.size + 1) / 2)).map fun i => IntKind.u8.wrap (sb s (2 * i) - 48)
def parseE (s : ByteArray) : Int := if s.size % 2 = 0 ∨ 16 < s.size then 4 else if textOf (digL s) = s.data.toList then 0 else 4
theorem digL_len (s : ByteArray) : (digL s).length = (s.size + 1) / 2 := by simp [digL]
theorem digL_gi (s : ByteArray) {i : Nat} (h : i < (s.size + 1) / 2) : gi (digL s) i = IntKind.u8.wrap (sb s (2 * i) - 48) := by unfold digL; rw [gi_range_map _ h]
theorem digL_u8 (s : ByteArray) : U8L (digL s) := fun i hi => by
  rw [digL_len] at hi
  rw [digL_gi s hi]
  have : ∀ z : Int, 0 ≤ IntKind.u8.wrap z ∧ IntKind.u8.wrap z ≤ 255 := fun z => by simp [IntKind.wrap, IntKind.bits, IntKind.signed]; omega
  exact this _
theorem sb_get (s : ByteArray) (i : Nat) (h : i < s.size) : sb s i = (s[i].toNat : Int) := by
  have h' : i < s.data.toList.length := by rw [Array.length_toList]; exact h
  unfold sb; rw [List.getD_eq_getElem?_getD, List.getElem?_eq_getElem h', Option.getD_some]; rfl

set_option maxHeartbeats 1000000 in
theorem PParse_form (s : ByteArray) (w : World) (hs : s.size ≤ 9223372036854775807) (h : s.size % 2 = 0 ∨ 16 < s.size) :
    Calls Try.prog 33 #[.string s] w (RetIE .u8 w 0 [] 4) := by
  by_cases h2 : s.size % 2 = 0
  · have h2' : ((s.size : Int) % 2 == 0) = true := by simp; omega
    go_enter Try.func33, Try.ntmps33
    go_wp2
    all_goals (go_ret2; exact ⟨_, rfl, IS.nil _ _, Ext.refl _⟩)
  · have h2' : ((s.size : Int) % 2 == 0) = false := by simp; omega
    have h16 : (16 : Int) < (s.size : Int) := by omega
    go_enter Try.func33, Try.ntmps33
    go_wp2
    all_goals (go_ret2; exact ⟨_, rfl, IS.nil _ _, Ext.refl _⟩)

set_option maxHeartbeats 2000000 in
theorem PParse_text_ok (s : ByteArray) (w : World) (h : ¬ (s.size % 2 = 0 ∨ 16 < s.size)) (hq : textOf (digL s) = s.data.toList) :
    Calls Try.prog 33 #[.string s] w (RetIE .u8 w (digL s).length (digL s) 0) := by
  have h2' : ((s.size : Int) % 2 == 0) = false := by simp; omega
  have h16 : ¬ (16 : Int) < (s.size : Int) := by omega
  have hL : ((s.size : Int) + 1) / 2 = (((s.size + 1) / 2 : Nat) : Int) := by omega
  obtain ⟨N, hN⟩ : ∃ N, N = (s.size + 1) / 2 := ⟨_, rfl⟩
  have hsz : s.size = 2 * N - 1 := by omega
  have hN1 : 1 ≤ N := by omega
  have hN8 : N ≤ 8 := by omega
  rw [← hN] at hL
  have hfin : ∀ w1 wr, URow w1 wr N (fun k => k) (fun k => IntKind.u8.wrap (sb s (2 * k) - 48)) N → IS .u8 wr (.slice (some ⟨w1.heap.size, 0, none⟩) N N) N (digL s) := fun w1 wr hu => by
    have := hu.ret (by omega)
    have e : updL (fun k => k) (fun k => IntKind.u8.wrap (sb s (2 * k) - 48)) N = digL s := gi_ext (by rw [updL_len, digL_len, hN]) fun i hi => by
      rw [updL_len] at hi
      rw [updL_gi hi, upd_id _ _ _ hi, digL_gi s (by omega)]
    rw [e] at this; exact this
  have hT := fun v c w1 hh => PText_calls v c (digL s) w1 hh (digL_u8 s)
  have hdl : (digL s).length = N := by rw [digL_len, hN]
  rw [hdl]
  have hsb := sb_get s
  obtain ⟨D, hD⟩ : ∃ D, D = digL s := ⟨_, rfl⟩
  rw [← hD] at hfin hT hq ⊢
  have HF := Lib.hid hfin; have HT := Lib.hid hT; have HSB := Lib.hid hsb; have HD := Lib.hid hD
  have HZ := Lib.hid hsz; have HQ := Lib.hid hq
  have hz1 : (s.size : Int) = 2 * (N : Int) - 1 := by omega
  clear hfin hT hsb hD hsz hN hdl h hq
  have hmk := run_make_row' (P := Try.prog) 22 5 (.int .u8 0) 1 Try.underlying22 (by kernel_rfl) rfl .i64 .i64 N (by omega) (by omega)
  have HZ1 := Lib.hid hz1
  clear hz1
  go_enter Try.func33, Try.ntmps33
  go_wp2
  go_loopw [22] (fun i wr => ∃ k : Nat, k ≤ N ∧ i = .int .i64 k ∧ Hid (URow w wr N (fun k => k) (fun k => IntKind.u8.wrap (sb s (2 * k) - 48)) k)) (fun i _ => N - (intOf i).toNat)
  case atStart => exact ⟨0, Nat.zero_le _, rfl, Lib.hid (URow.start w N _ _)⟩
  case round =>
    obtain ⟨k, hk, rfl, H⟩ := hrel
    by_cases hlt : k < N
    · have hnx := H.out.next
      obtain ⟨_, f, hrow, hf⟩ := H.out
      have hst := hrow.cell (i := k) (by omega)
      have hfz := hrow.frozen k
      rw [hf k] at hst
      have HNX := Lib.hid hnx
      have hlt2 : 2 * k < s.size := by have := HZ.out; omega
      clear hnx hrow hf
      go_wp2
      go_roundw
      case rel => exact ⟨k + 1, by omega, by go_num, by have := HNX.out; rw [HSB.out _ hlt2] at this; exact Lib.hid this⟩
      case measure => simp [intOf]; omega
    · obtain rfl : k = N := by omega
      have HCL := Lib.hid (HT.out _ _ _ (HF.out _ _ H.out))
      go_wp2_with fail
      refine HCL.out.mono ?_
      rintro e w2 ⟨rfl, hx⟩
      have HX := Lib.hid hx
      clear hx
      have hcmp : (textOf D == s.toList) = true := by rw [ByteArray.toList_eq, HQ.out]; simp
      go_wp2
      go_ret2
      exact ⟨_, rfl, (HF.out _ _ H.out).ext HX.out, H.out.1.trans HX.out⟩
set_option maxHeartbeats 2000000 in
theorem PParse_text_bad (s : ByteArray) (w : World) (h : ¬ (s.size % 2 = 0 ∨ 16 < s.size)) (hq : textOf (digL s) ≠ s.data.toList) :
    Calls Try.prog 33 #[.string s] w (RetIE .u8 w 0 [] 4) := by
  have h2' : ((s.size : Int) % 2 == 0) = false := by simp; omega
  have h16 : ¬ (16 : Int) < (s.size : Int) := by omega
  have hL : ((s.size : Int) + 1) / 2 = (((s.size + 1) / 2 : Nat) : Int) := by omega
  obtain ⟨N, hN⟩ : ∃ N, N = (s.size + 1) / 2 := ⟨_, rfl⟩
  have hsz : s.size = 2 * N - 1 := by omega
  have hN1 : 1 ≤ N := by omega
  have hN8 : N ≤ 8 := by omega
  rw [← hN] at hL
  have hfin : ∀ w1 wr, URow w1 wr N (fun k => k) (fun k => IntKind.u8.wrap (sb s (2 * k) - 48)) N → IS .u8 wr (.slice (some ⟨w1.heap.size, 0, none⟩) N N) N (digL s) := fun w1 wr hu => by
    have := hu.ret (by omega)
    have e : updL (fun k => k) (fun k => IntKind.u8.wrap (sb s (2 * k) - 48)) N = digL s := gi_ext (by rw [updL_len, digL_len, hN]) fun i hi => by
      rw [updL_len] at hi
      rw [updL_gi hi, upd_id _ _ _ hi, digL_gi s (by omega)]
    rw [e] at this; exact this
  have hT := fun v c w1 hh => PText_calls v c (digL s) w1 hh (digL_u8 s)
  have hdl : (digL s).length = N := by rw [digL_len, hN]
  have hsb := sb_get s
  obtain ⟨D, hD⟩ : ∃ D, D = digL s := ⟨_, rfl⟩
  rw [← hD] at hfin hT hq 
  have HF := Lib.hid hfin; have HT := Lib.hid hT; have HSB := Lib.hid hsb; have HD := Lib.hid hD
  have HZ := Lib.hid hsz; have HQ := Lib.hid hq
  have hz1 : (s.size : Int) = 2 * (N : Int) - 1 := by omega
  clear hfin hT hsb hD hsz hN hdl h hq
  have hmk := run_make_row' (P := Try.prog) 22 5 (.int .u8 0) 1 Try.underlying22 (by kernel_rfl) rfl .i64 .i64 N (by omega) (by omega)
  have HZ1 := Lib.hid hz1
  clear hz1
  go_enter Try.func33, Try.ntmps33
  go_wp2
  go_loopw [22] (fun i wr => ∃ k : Nat, k ≤ N ∧ i = .int .i64 k ∧ Hid (URow w wr N (fun k => k) (fun k => IntKind.u8.wrap (sb s (2 * k) - 48)) k)) (fun i _ => N - (intOf i).toNat)
  case atStart => exact ⟨0, Nat.zero_le _, rfl, Lib.hid (URow.start w N _ _)⟩
  case round =>
    obtain ⟨k, hk, rfl, H⟩ := hrel
    by_cases hlt : k < N
    · have hnx := H.out.next
      obtain ⟨_, f, hrow, hf⟩ := H.out
      have hst := hrow.cell (i := k) (by omega)
      have hfz := hrow.frozen k
      rw [hf k] at hst
      have HNX := Lib.hid hnx
      have hlt2 : 2 * k < s.size := by have := HZ.out; omega
      clear hnx hrow hf
      go_wp2
      go_roundw
      case rel => exact ⟨k + 1, by omega, by go_num, by have := HNX.out; rw [HSB.out _ hlt2] at this; exact Lib.hid this⟩
      case measure => simp [intOf]; omega
    · obtain rfl : k = N := by omega
      have HCL := Lib.hid (HT.out _ _ _ (HF.out _ _ H.out))
      go_wp2_with fail
      refine HCL.out.mono ?_
      rintro e w2 ⟨rfl, hx⟩
      have HX := Lib.hid hx
      clear hx
      have hcmp : (textOf D == s.toList) = false := by rw [ByteArray.toList_eq]; simpa using HQ.out
      go_wp2
      go_ret2
      exact ⟨_, rfl, IS.nil _ _, H.out.1.trans HX.out⟩

theorem PParse_calls (s : ByteArray) (w : World) (hs : s.size ≤ 9223372036854775807) :
    Calls Try.prog 33 #[.string s] w (RetIE .u8 w (if parseE s = 0 then (digL s).length else 0) (if parseE s = 0 then digL s else []) (parseE s)) := by
  unfold parseE
  by_cases h : s.size % 2 = 0 ∨ 16 < s.size
  · rw [if_pos h]; exact PParse_form s w hs h
  · rw [if_neg h]
    by_cases hq : textOf (digL s) = s.data.toList
    · rw [if_pos hq]; exact PParse_text_ok s w h hq
    · rw [if_neg hq]; exact PParse_text_bad s w h hq
end Go.Proofs.Ytpcbadagffeehaa
