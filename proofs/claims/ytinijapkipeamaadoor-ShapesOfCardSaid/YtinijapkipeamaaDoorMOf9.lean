/- Texts of this claim in one file: libraries and walks. -/
import Derived.BigQuiet
import Derived.Test.YtinijapkipeamaaDoorMOf7
import Derived.Test.YtinijapkipeamaaDoorMOf8
/- Contract of charts.Text. -/
namespace Go.Proofs.YtinijapkipeamaaDoor
set_option linter.unusedVariables false
set_option linter.unusedSimpArgs false
set_option maxRecDepth 8000
open Go Go.RowKit

/-- The bytes of the first k stitches of a row. -/
def rowT (r : List St) : Nat → List Int
  | 0 => []
  | k + 1 => rowT r k ++ (if k = 0 then [] else [32]) ++ (si r k).tx
/-- The bytes of the last k rows, the last one first. -/
def chT (rows : List (List St)) : Nat → List Int
  | 0 => []
  | k + 1 => chT rows k ++ rowT (sw rows (rows.length - 1 - k)) (sw rows (rows.length - 1 - k)).length ++ [10]
/-- The bytes of a chart's text. -/
def ctx (rows : List (List St)) : List Int := if (cloads rows).1 ≠ 0 then [] else chT rows rows.length

def Byt (xs : List Int) : Prop := ∀ x ∈ xs, 0 ≤ x ∧ x ≤ 255
theorem Byt.app {xs ys : List Int} (h : Byt xs) (k : Byt ys) : Byt (xs ++ ys) := fun x hx => by
  rcases List.mem_append.1 hx with hx | hx
  · exact h x hx
  · exact k x hx
theorem byt_one {x : Int} (h : 0 ≤ x ∧ x ≤ 255) : Byt [x] := fun y hy => by rw [List.mem_singleton.1 hy]; exact h
theorem byt_nil : Byt [] := fun x hx => by cases hx
theorem byt_tx (s : St) : Byt s.tx := by
  unfold St.tx
  split
  · exact byt_nil
  · rename_i h
    obtain ⟨k1, k2, k3⟩ := St.chk_ok (s := s) (by simpa using h)
    refine Byt.app (Byt.app (byt_one ?_) ?_) ?_
    · obtain ⟨j, hj⟩ : ∃ j : Nat, (s.k - 1).toNat = j := ⟨_, rfl⟩
      have hj8 : j < 8 := by omega
      rw [hj]
      have : ∀ j, j < 8 → 0 ≤ gi symT j ∧ gi symT j ≤ 255 := by decide
      exact this j hj8
    · split
      · intro x hx
        simp only [List.mem_cons, List.not_mem_nil, or_false] at hx
        rcases hx with rfl | rfl | rfl
        · omega
        · omega
        · split <;> omega
      · exact byt_nil
    · split
      · exact byt_nil
      · exact byt_one (by omega)
theorem byt_row (r : List St) : ∀ k, Byt (rowT r k)
  | 0 => byt_nil
  | k + 1 => by
    unfold rowT
    refine ((byt_row r k).app ?_).app (byt_tx _)
    split
    · exact byt_nil
    · exact byt_one (by omega)
theorem byt_ch (rows : List (List St)) : ∀ k, Byt (chT rows k)
  | 0 => byt_nil
  | k + 1 => ((byt_ch rows k).app (byt_row _ _)).app (byt_one (by omega))
theorem rowT_len (r : List St) : ∀ k, (rowT r k).length ≤ 6 * k
  | 0 => by simp [rowT]
  | k + 1 => by
    have h1 := rowT_len r k
    have h2 := tx_len (si r k)
    unfold rowT
    simp only [List.length_append]
    split <;> simp <;> omega
theorem chT_len {rows : List (List St)} (h : ∀ i, i < rows.length → (sw rows i).length ≤ 16) : ∀ k, k ≤ rows.length → (chT rows k).length ≤ 97 * k
  | 0, _ => by simp [chT]
  | k + 1, hk => by
    have h1 := chT_len h k (by omega)
    have h2 := h (rows.length - 1 - k) (by omega)
    have h3 := rowT_len (sw rows (rows.length - 1 - k)) (sw rows (rows.length - 1 - k)).length
    unfold chT
    simp only [List.length_append, List.length_singleton]
    omega
theorem strCells_bstr {xs : List Int} (h : Byt xs) : Lib.strCells (bstr xs) = xs.map (Value.int .u8) := by
  rw [Lib.strCells_eq, bstr_data]
  unfold Lib.byteCells
  rw [List.map_map]
  refine List.map_congr_left fun x hx => ?_
  have := h x hx
  show Value.int .u8 ((UInt8.ofNat x.toNat).toNat : Int) = _
  rw [UInt8.toNat_ofNat']
  congr 1
  omega
theorem bld_ext {T e : TypeId} {B b : Nat} {bs : List Value} {w w' : World} (h : Lib.IsBuilder T e B b bs w) (x : Ext w w') : Lib.IsBuilder T e B b bs w' := by
  rcases h with ⟨hB, v, hb, hown, hne⟩ | ⟨hB, v, hb, hown, hne⟩
  · exact .inl ⟨hB, v, x.block hb, own_ext hown x, hne⟩
  · exact .inr ⟨hB, v, x.block hb, own_ext hown x, hne⟩
theorem bstr_back (xs : List Int) : (⟨(bstr xs).data.toList.toArray⟩ : ByteArray) = bstr xs := by apply bytes_eq; simp

set_option maxHeartbeats 4000000 in
theorem CText_calls (v : Value) (c : Nat) (rows : List (List St)) (w : World) (h : RR w v c rows) (hy : Sy w) :
    Calls Tryd.prog 35 #[.agg #[v]] w fun e w' => e = .returned (.string (bstr (ctx rows))) ∧ Ext w w' := by
  obtain ⟨ao, n, rfl, hn, hnc, hcm, hat⟩ := h.open
  unfold maxLen at hcm
  have hck := fun w' (x : Ext w w') => CCheck_calls _ c rows w' (h.ext x)
  have HCk := Lib.hid hck; have HA := Lib.hid hat; have HY := Lib.hid hy
  clear hck hat h hy
  have hbox := fun (w' : World) (x : Ext (w.alloc (.cells #[.slice ao n c] 26)) w') => x.cell (show (w.alloc (.cells #[.slice ao n c] 26)).cell? ⟨w.heap.size, 0, none⟩ = some (.slice ao n c) by rw [World.cell?_alloc_at (hn := rfl)]; rfl)
  have HBx := Lib.hid hbox
  clear hbox
  by_cases he : (cloads rows).1 = 0
  · have hce : cerr rows = 0 := by
      by_cases e : cerr rows = 0
      · exact e
      · unfold cloads at he; rw [if_pos e] at he; exact absurd he e
    obtain ⟨r1, r2, r3, _⟩ := cerr_zero hce
    have hlen16 : ∀ i, i < rows.length → (sw rows i).length ≤ 16 := fun i hi => (rchk_zero (r3 i hi)).1
    have hcl := chT_len hlen16
    have hres : ctx rows = chT rows n := by unfold ctx; rw [if_neg (by omega), hn]
    rw [← hn] at r1 r2 hcl hlen16
    have hstep : ∀ k, k < n → chT rows (k + 1) = chT rows k ++ rowT (sw rows (n - 1 - k)) (sw rows (n - 1 - k)).length ++ [10] := fun k hk => by rw [hn]; rfl
    replace HCk := Lib.hid (show ∀ w', Ext w w' → Calls Tryd.prog 26 #[.agg #[.slice ao n c]] w' fun e w'' => e = .returned (.int .i64 0) ∧ Ext w' w'' from fun w' x => by have := HCk.out w' x; rw [he] at this; exact this)
    have HCl := Lib.hid hcl; have HRes := Lib.hid hres; have HSt := Lib.hid hstep; have H16 := Lib.hid hlen16
    clear hcl hres hstep hlen16 he hce r3 hn
    go_enter Tryd.func35, Tryd.ntmps35
    go_wp2_with fail
    refine (HCk.out _ ((Ext.refl w).alloc _)).mono ?_
    rintro e w1 ⟨rfl, x1⟩
    have X1 := Lib.hid x1
    have b0 := HBx.out _ x1
    have hsz : w.heap.size < w1.heap.size := by have := x1.size; simp at this; omega
    clear x1 HCk
    go_wp2
    obtain ⟨BX, hBX⟩ : ∃ BX, BX = w1.heap.size := ⟨_, rfl⟩
    go_loopw [4, 5, 6, 13] (fun _ _ _ i wr => ∃ k : Nat, k ≤ n ∧ i = .int .i64 k ∧ Hid (Lib.IsBuilder 81 5 w1.heap.size w1.heap.size ((chT rows k).map (Value.int .u8)) wr) ∧ Hid (Ext w1 wr)) (fun _ _ _ i _ => n - (intOf i).toNat)
    case atStart => exact ⟨0, Nat.zero_le _, rfl, Lib.hid (Lib.fresh_isBuilder _ _ _), Lib.hid ((Ext.refl w1).alloc _)⟩
    case round =>
      obtain ⟨k, hk, rfl, HBd, HX⟩ := hrel
      clear hBX
      by_cases hlt : k < n
      · obtain ⟨b, o, a, m, d, rfl, hcl, hrs⟩ := HA.out (n - 1 - k) (by omega)
        have XO := Lib.hid (((Ext.refl w).alloc (.cells #[.slice (some ⟨b, o, Option.none⟩) n c] 26)).trans (X1.out.trans HX.out))
        replace hcl := XO.out.cell hcl
        have b1 := HBx.out _ (X1.out.trans HX.out)
        obtain ⟨ao', m', hv, hm, hmc, hmm, hst⟩ := hrs.open
        simp only [Value.slice.injEq] at hv
        obtain ⟨rfl, rfl, _⟩ := hv
        have hm16 : m ≤ 16 := by rw [hm]; exact H16.out _ (by omega)
        have hstp := HSt.out k hlt
        have hcln := HCl.out k hk
        obtain ⟨r, hr⟩ : ∃ r, r = sw rows (n - 1 - k) := ⟨_, rfl⟩
        rw [← hr] at hst hstp hm
        obtain ⟨T, hT⟩ : ∃ T, T = chT rows k := ⟨_, rfl⟩
        rw [← hT] at HBd hcln hstp
        rw [← hm] at hstp
        have hBT : Byt T := by rw [hT]; exact byt_ch _ _
        obtain ⟨ix, hix⟩ : ∃ ix : Nat, ix = n - 1 - k := ⟨_, rfl⟩
        rw [← hix] at hcl
        have HSt' := Lib.hid hst; have HStp := Lib.hid hstp; have Hm := Lib.hid hm; have HBT := Lib.hid hBT
        have t1 : (n : Int) - 1 - (k : Int) = (ix : Int) := by omega
        have t2 : ix < n := by omega
        have t3 : (ix : Int) < n := by omega
        clear hst hstp hm hBT hr hT hix hmm hmc hrs
        obtain ⟨wo, rfl⟩ : ∃ wo : World, wo = wr := ⟨_, rfl⟩
        have Xw := HX
        go_wp2
        clear t1 hcl b1
        go_loopw [5, 6, 27] (fun _ _ i wr => ∃ j : Nat, j ≤ m ∧ i = .int .i64 j ∧ Hid (Lib.IsBuilder 81 5 w1.heap.size w1.heap.size ((T ++ rowT r j).map (Value.int .u8)) wr) ∧ Hid (Ext w1 wr)) (fun _ _ i _ => m - (intOf i).toNat)
        case atStart => exact ⟨0, Nat.zero_le _, rfl, by rw [show T ++ rowT r 0 = T by simp [rowT]]; exact HBd, HX⟩
        case round =>
          obtain ⟨j, hj, rfl, HB2, HX2⟩ := hrel
          have hrl := rowT_len r j
          have hrl1 := rowT_len r (j + 1)
          by_cases hjm : j < m
          · obtain ⟨b2, o2, rfl, h5⟩ := HSt'.out j hjm
            have XX := Lib.hid (((Ext.refl w).alloc (.cells #[.slice (some ⟨b, o, Option.none⟩) n c] 26)).trans (X1.out.trans HX2.out))
            obtain ⟨c0, c1, c2, c3, c4⟩ := h5.ext XX.out
            have hrow : rowT r (j + 1) = rowT r j ++ (if j = 0 then [] else [32]) ++ (si r j).tx := rfl
            have htl := tx_len (si r j)
            have hbt := byt_tx (si r j)
            have hcall := fun w' (x : Ext wr w') => SText_calls (si r j) w' (HY.out.ext (XX.out.trans x))
            obtain ⟨s, hs⟩ : ∃ s, s = si r j := ⟨_, rfl⟩
            rw [← hs] at c0 c1 c2 c3 c4 hrow htl hbt hcall
            have HRow := Lib.hid hrow; have HBt := Lib.hid hbt; have HCa := Lib.hid hcall
            have hb5 := B5.new wr s 52
            have HB5 := Lib.hid hb5
            clear hrow hbt hcall hs h5 hb5
            unfold St.val at HCa
            have HB3 := Lib.hid (bld_ext HB2.out ((Ext.refl wr).alloc (.cells #[.int .u8 s.k, .int .u8 s.y, .int .i64 s.a, .int .i64 s.b, .bool s.f] 52)))
            have hsz : w1.heap.size < wr.heap.size := bld_lt HB2.out
            by_cases j0 : j = 0
            · subst j0
              simp only [Nat.zero_mul, Nat.add_zero] at c0 c1 c2 c3 c4
              have HRow0 := Lib.hid (show T ++ rowT r 1 = T ++ rowT r 0 ++ s.tx by rw [HRow.out, if_pos rfl]; simp)
              go_wp2_with fail
              refine (HCa.out _ ((Ext.refl _).alloc _)).mono ?_
              rintro e w4 ⟨rfl, x4⟩
              have HB4 := Lib.hid (bld_ext HB3.out x4)
              have X4 := Lib.hid (HX2.out.trans (((Ext.refl _).alloc _).trans x4))
              clear x4 c0 c1 c2 c3 c4 HB3 HB5
              go_wp2_with fail
              refine (bld_string w1.heap.size w1.heap.size _ (bstr s.tx) _ HB4.out (by rw [bstr_size, List.length_map, List.length_append]; omega) X4.out.size).mono ?_
              rintro e w5 ⟨rfl, hb, hx⟩
              rw [strCells_bstr HBt.out, ← List.map_append, ← HRow0.out] at hb
              have HBn := Lib.hid hb; have HXn := Lib.hid (show Ext w1 w5 from Below.trans X4.out hx)
              clear hb hx
              go_wp2
              go_roundw
              case rel => exact ⟨1, by omega, by go_num, HBn, HXn⟩
              case measure => simp [intOf]; omega
            · have j0' : (0 : Int) < (j : Int) := by omega
              have HRow0 := Lib.hid (show T ++ rowT r (j + 1) = T ++ rowT r j ++ [32] ++ s.tx by rw [HRow.out, if_neg j0]; simp)
              clear j0
              go_wp2_with fail
              refine (bld_byte2 w1.heap.size w1.heap.size _ 32 _ HB3.out (by rw [List.length_map, List.length_append]; omega) (by simp; omega)).mono ?_
              rintro e w3 ⟨rfl, hb, hx, hkb⟩
              have hbs := hkb _ _ _ HB5.out (by omega) (by decide)
              obtain ⟨q0, q1, q2, q3, q4⟩ := B5.at (s := s) hbs
              simp only [Nat.zero_add] at q1 q2 q3 q4
              have X3' := Lib.hid (show Ext w1 w3 from Below.trans (HX2.out.alloc _) hx)
              have HB6 := Lib.hid hb
              have hsy := HY.out.ext (((Ext.refl w).alloc (.cells #[.slice (some ⟨b, o, Option.none⟩) n c] 26)).trans (X1.out.trans X3'.out))
              have hst := SText_calls s w3 hsy
              unfold St.val at hst
              have HST := Lib.hid hst
              clear hb hx hkb hbs hsy hst c0 c1 c2 c3 c4 HB3 HB5 HCa
              go_wp2_with fail
              refine HST.out.mono ?_
              rintro e w4 ⟨rfl, x4⟩
              have HB4 := Lib.hid (bld_ext HB6.out x4)
              have X4 := Lib.hid (X3'.out.trans x4)
              clear x4 HB6 q0 q1 q2 q3 q4
              go_wp2_with fail
              refine (bld_string w1.heap.size w1.heap.size _ (bstr s.tx) _ HB4.out (by rw [bstr_size]; simp; omega) X4.out.size).mono ?_
              rintro e w5 ⟨rfl, hb, hx⟩
              have hb2 : Lib.IsBuilder 81 5 w1.heap.size w1.heap.size ((T ++ rowT r (j + 1)).map (Value.int .u8)) w5 := by
                rw [HRow0.out, List.map_append, ← strCells_bstr HBt.out, List.map_append]
                exact hb
              have HBn := Lib.hid hb2; have HXn := Lib.hid (show Ext w1 w5 from Below.trans X4.out hx)
              clear hb hb2 hx
              go_wp2
              go_roundw
              case rel => exact ⟨j + 1, by omega, by go_num, HBn, HXn⟩
              case measure => simp [intOf]; omega
          · obtain rfl : m = j := by omega
            clear hjm hj
            go_wp2_with fail
            refine (bld_byte w1.heap.size w1.heap.size _ 10 _ HB2.out (by rw [List.length_map, List.length_append]; omega) HX2.out.size).mono ?_
            rintro e w3 ⟨rfl, hb, hx⟩
            have hb2 : Lib.IsBuilder 81 5 w1.heap.size w1.heap.size ((chT rows (k + 1)).map (Value.int .u8)) w3 := by
              rw [HStp.out, List.map_append]; exact hb
            have HBn := Lib.hid hb2; have HXn := Lib.hid (show Ext w1 w3 from Below.trans HX2.out hx)
            clear hb hb2 hx
            go_wp2
            go_roundw
            case rel => exact ⟨k + 1, by omega, by go_num, HBn, HXn⟩
            case measure => simp [intOf]; omega
      · obtain rfl : n = k := by omega
        have hby : Lib.byteCells (bstr (chT rows n)).data.toList = (chT rows n).map (Value.int .u8) := by rw [← strCells_bstr (byt_ch rows n)]; rfl
        have hS := Tryd.Builder_String_any w1.heap.size w1.heap.size (bstr (chT rows n)).data.toList wr (by rw [hby]; exact HBd.out) HX.out.size
        rw [bstr_back] at hS
        have HS := Lib.hid hS
        clear hS hby hlt hk
        go_wp2_with fail
        refine HS.out.mono ?_
        rintro e w3 ⟨rfl, hx⟩
        have XF := Lib.hid (((Ext.refl w).alloc (.cells #[.slice ao n c] 26)).trans (X1.out.trans (show Ext w1 w3 from Below.trans HX.out hx)))
        clear hx
        go_wp2
        go_ret
        exact ⟨ret_str (congrArg bstr HRes.out.symm), XF.out⟩
  · have hr := Lib.hid (show ctx rows = [] by unfold ctx; rw [if_pos he])
    have hq : ((cloads rows).1 != 0) = true := by rw [bne, beq_eq_false_iff_ne.2 he]; rfl
    generalize (cloads rows).1 = q at HCk hq
    clear he hn HA HBx
    go_enter Tryd.func35, Tryd.ntmps35
    go_wp2_with fail
    refine (HCk.out _ ((Ext.refl w).alloc _)).mono ?_
    rintro e w1 ⟨rfl, x1⟩
    have X1 := Lib.hid (((Ext.refl w).alloc _).trans x1)
    clear x1
    go_wp2
    go_ret
    exact ⟨ret_str (congrArg bstr hr.out.symm), X1.out⟩
end Go.Proofs.YtinijapkipeamaaDoor
/- Outlines in plain Lean; apart, shapes.Check, ganseyref19.Check. -/
namespace Go.Proofs.YtinijapkipeamaaDoor
set_option linter.unusedVariables false
set_option linter.unusedSimpArgs false
set_option maxRecDepth 8000
open Go Go.RowKit

def far (a b : Int) : Bool := decide (2 < a - b ∨ 2 < b - a)
/-- 14 if two successive widths differ by more than 2. -/
def jmp (l : List Int) : Int := if (List.range (l.length - 1)).any (fun i => far (gi l i) (gi l (i + 1))) then 14 else 0
/-- The error of an outline. -/
def oerr (l : List Int) : Int :=
  if 32 < l.length then 3 else if l.length % 2 ≠ 0 ∨ l.length < 2 then 1
  else if l.any (fun x => decide (x < 2 ∨ 16 < x)) then 1 else jmp l
theorem jmp_bad {l : List Int} {i : Nat} (hi : i + 1 < l.length) (h : far (gi l i) (gi l (i + 1)) = true) : jmp l = 14 := by
  unfold jmp
  rw [if_pos]
  rw [List.any_eq_true]
  exact ⟨i, List.mem_range.2 (by omega), h⟩
theorem jmp_ok {l : List Int} (h : ∀ i, i + 1 < l.length → far (gi l i) (gi l (i + 1)) = false) : jmp l = 0 := by
  unfold jmp
  rw [if_neg]
  rw [List.any_eq_true]
  rintro ⟨i, hi, hb⟩
  have := List.mem_range.1 hi
  rw [h i (by omega)] at hb
  cases hb
theorem oerr_long {l : List Int} (h : 32 < l.length) : oerr l = 3 := by unfold oerr; rw [if_pos h]
theorem oerr_odd {l : List Int} (h : l.length ≤ 32) (h2 : l.length % 2 ≠ 0 ∨ l.length < 2) : oerr l = 1 := by unfold oerr; rw [if_neg (by omega), if_pos h2]
theorem oerr_out {l : List Int} (h : l.length ≤ 32) (h2 : ¬ (l.length % 2 ≠ 0 ∨ l.length < 2)) {i : Nat} (hi : i < l.length) (hb : gi l i < 2 ∨ 16 < gi l i) : oerr l = 1 := by
  unfold oerr
  rw [if_neg (by omega), if_neg h2, if_pos]
  rw [List.any_eq_true]
  exact ⟨_, gi_mem hi, by simpa using hb⟩
theorem oerr_in {l : List Int} (h : l.length ≤ 32) (h2 : ¬ (l.length % 2 ≠ 0 ∨ l.length < 2)) (hg : ∀ i, i < l.length → 2 ≤ gi l i ∧ gi l i ≤ 16) : oerr l = jmp l := by
  unfold oerr
  rw [if_neg (by omega), if_neg h2, if_neg]
  rw [List.any_eq_true]
  rintro ⟨x, hx, hb⟩
  obtain ⟨i, hi, rfl⟩ := List.mem_iff_getElem.1 hx
  have := hg i hi
  rw [gi_of_lt hi] at this
  simp at hb
  omega

theorem apart_calls (a b : Int) (w : World) (ha : -1000 ≤ a ∧ a ≤ 1000) (hb : -1000 ≤ b ∧ b ≤ 1000) : Calls Tryd.prog 34 #[.int .i64 a, .int .i64 b] w fun e w' => e = .returned (.bool (far a b)) ∧ w = w' := by
  have t1 : IntKind.i64.wrap (a - b) = a - b := IntWalk.i64_in _ ⟨by omega, by omega⟩
  have t2 : IntKind.i64.wrap (b - a) = b - a := IntWalk.i64_in _ ⟨by omega, by omega⟩
  by_cases h1 : 2 < a - b
  · have hr := Lib.hid (show far a b = true by simp [far]; omega)
    go_enter Tryd.func34, Tryd.ntmps34
    go_wp2
    all_goals (go_ret; exact ⟨ret_bool hr.out.symm, rfl⟩)
  · by_cases h2 : 2 < b - a
    · have hr := Lib.hid (show far a b = true by simp [far]; omega)
      go_enter Tryd.func34, Tryd.ntmps34
      go_wp2
      all_goals (go_ret; exact ⟨ret_bool hr.out.symm, rfl⟩)
    · have hr := Lib.hid (show far a b = false by simp [far]; omega)
      go_enter Tryd.func34, Tryd.ntmps34
      go_wp2
      all_goals (go_ret; exact ⟨ret_bool hr.out.symm, rfl⟩)

set_option maxHeartbeats 2000000 in
theorem HCheck_calls (v : Value) (c : Nat) (l : List Int) (w : World) (h : IS .i64 w v c l) : Calls Tryd.prog 14 #[v] w fun e w' => e = .returned (.int .i64 (oerr l)) ∧ Ext w w' := by
  obtain ⟨ao, n, c', rfl, hn, rfl, hIS⟩ := h.out
  have hcn := hIS.len.2.2
  have hcm : n ≤ 9223372036854775807 := by
    have hm := hIS.open.2.1
    have hm2 := hIS.open.1
    unfold maxLen at hm
    omega
  by_cases h32 : 32 < n
  · have hr := Lib.hid (oerr_long (l := l) (by omega))
    have t : (32 : Int) < (n : Int) := by omega
    clear hn hIS h h32 hcn
    go_enter Tryd.func14, Tryd.ntmps14
    go_wp2
    go_ret
    exact ⟨ret_int hr.out.symm, Ext.refl _⟩
  have h32' : ¬ (32 : Int) < (n : Int) := by omega
  by_cases h2 : n % 2 ≠ 0
  · have hr := Lib.hid (oerr_odd (l := l) (by omega) (.inl (by omega)))
    have t : ((n : Int) % 2 != 0) = true := by rw [bne, beq_eq_false_iff_ne.2 (by omega)]; rfl
    clear hn hIS h h32 hcn h2
    go_enter Tryd.func14, Tryd.ntmps14
    go_wp2
    go_ret
    exact ⟨ret_int hr.out.symm, Ext.refl _⟩
  have t2 : ((n : Int) % 2 != 0) = false := by rw [bne, beq_iff_eq.2 (by omega)]; rfl
  by_cases h3 : n < 2
  · have hr := Lib.hid (oerr_odd (l := l) (by omega) (.inr (by omega)))
    have t : (n : Int) < 2 := by omega
    clear hn hIS h h32 hcn h2 h3
    go_enter Tryd.func14, Tryd.ntmps14
    go_wp2
    go_ret
    exact ⟨ret_int hr.out.symm, Ext.refl _⟩
  have t3 : ¬ (n : Int) < 2 := by omega
  have hout : ∀ i, i < n → gi l i < 2 ∨ 16 < gi l i → oerr l = 1 := fun i hi hb => oerr_out (by omega) (by omega) (by omega) hb
  have hfar : (∀ i, i < n → 2 ≤ gi l i ∧ gi l i ≤ 16) → ∀ i, i + 1 < n → far (gi l i) (gi l (i + 1)) = true → oerr l = 14 := fun hg i hi hb => by
    rw [oerr_in (by omega) (by omega) (fun i hi => hg i (by omega))]; exact jmp_bad (by omega) hb
  have hok : (∀ i, i < n → 2 ≤ gi l i ∧ gi l i ≤ 16) → (∀ i, i + 1 < n → far (gi l i) (gi l (i + 1)) = false) → oerr l = 0 := fun hg hf => by
    rw [oerr_in (by omega) (by omega) (fun i hi => hg i (by omega))]; exact jmp_ok (fun i hi => hf i (by omega))
  obtain ⟨R, hR⟩ : ∃ R, R = oerr l := ⟨_, rfl⟩
  rw [← hR] at hout hfar hok ⊢
  have HI := Lib.hid hIS; have HOut := Lib.hid hout; have HFar := Lib.hid hfar; have HOk := Lib.hid hok
  have hn32 : n ≤ 32 := by omega
  have hn2 : 2 ≤ n := by omega
  clear hIS h hout hfar hok hR hn hcn h32 h2 h3
  go_enter Tryd.func14, Tryd.ntmps14
  go_wp2
  go_loopw [4, 20] (fun _ i wr => ∃ k : Nat, k ≤ n ∧ i = .int .i64 k ∧ Hid (Ext w wr) ∧ Hid (∀ i, i < k → 2 ≤ gi l i ∧ gi l i ≤ 16)) (fun _ i _ => n - (intOf i).toNat)
  case atStart => exact ⟨0, Nat.zero_le _, rfl, Lib.hid (Ext.refl w), Lib.hid (fun i hi => by omega)⟩
  case round =>
    obtain ⟨k, hk, rfl, Hx, HG⟩ := hrel
    by_cases hlt : k < n
    · obtain ⟨b, o, rfl, hcl⟩ := HI.out.at hlt
      replace hcl := Hx.out.cell (hcl k hlt)
      have hbk := HOut.out k hlt
      have hnx : 2 ≤ gi l k ∧ gi l k ≤ 16 → ∀ i, i < k + 1 → 2 ≤ gi l i ∧ gi l i ≤ 16 := fun h0 i hi => by
        by_cases e : i = k
        · rw [e]; exact h0
        · exact HG.out i (by omega)
      generalize gi l k = x at hcl hbk hnx
      have HBk := Lib.hid hbk; have HNx := Lib.hid hnx
      clear hbk hnx
      by_cases x1 : x < 2
      · have HB := Lib.hid (HBk.out (.inl x1))
        clear HBk HNx
        go_wp2
        go_ret
        exact ⟨ret_int HB.out.symm, Hx.out⟩
      · by_cases x2 : 16 < x
        · have HB := Lib.hid (HBk.out (.inr x2))
          clear HBk HNx
          go_wp2
          go_ret
          exact ⟨ret_int HB.out.symm, Hx.out⟩
        · have HN := Lib.hid (HNx.out (by omega))
          clear HBk HNx
          go_wp2
          go_roundw
          case rel => exact ⟨k + 1, by omega, by go_num, Hx, HN⟩
          case measure => simp [intOf]; omega
    · obtain rfl : n = k := by omega
      clear hlt hk HOut
      obtain ⟨wo, rfl⟩ : ∃ wo : World, wo = wr := ⟨_, rfl⟩
      go_wp2
      go_loopw [5] (fun i wr => ∃ k : Nat, k + 1 ≤ n ∧ i = .int .i64 ((k : Int) + 1) ∧ Hid (Ext w wr) ∧ Hid (∀ j, j < k → far (gi l j) (gi l (j + 1)) = false)) (fun i _ => n - (intOf i).toNat)
      case atStart => exact ⟨0, by omega, rfl, Hx, Lib.hid (fun j hj => by omega)⟩
      case round =>
        obtain ⟨k, hk, rfl, Hy, HF⟩ := hrel
        by_cases hlt : k + 1 < n
        · obtain ⟨b, o, rfl, hc1⟩ := HI.out.at hlt
          obtain ⟨b', o', hbo, hc2⟩ := HI.out.at (show k < n by omega)
          obtain ⟨rfl, rfl⟩ : b = b' ∧ o = o' := by simpa using hbo
          replace hc1 := Hy.out.cell (hc1 (k + 1) hlt); replace hc2 := Hy.out.cell (hc2 k (by omega))
          have g1 := HG.out k (by omega)
          have g2 := HG.out (k + 1) hlt
          have hbk := HFar.out HG.out k hlt
          have hnx : far (gi l k) (gi l (k + 1)) = false → ∀ j, j < k + 1 → far (gi l j) (gi l (j + 1)) = false := fun h0 i hi => by
            by_cases e : i = k
            · rw [e]; exact h0
            · exact HF.out i (by omega)
          generalize gi l k = x at *
          generalize gi l (k + 1) = y at *
          have hap := fun w' => apart_calls x y w' (by omega) (by omega)
          generalize far x y = q at hap hbk hnx
          have HAp := Lib.hid hap; have HBk := Lib.hid hbk; have HNx := Lib.hid hnx
          clear hap hbk hnx g1 g2 hbo
          have t1 : (0 : Int) ≤ (k : Int) + 1 := by omega
          have t2 : ((k : Int) + 1).toNat = k + 1 := by omega
          have t3 : (k : Int) + 1 < n := by omega
          have t4 : IntKind.i64.wrap ((k : Int) + 1 - 1) = (k : Int) := by rw [show (k : Int) + 1 - 1 = k by omega]; exact IntWalk.i64_in _ ⟨by omega, by omega⟩
          have t5 : (k : Int) < n := by omega
          have t6 : IntKind.i64.wrap (k : Int) = (k : Int) := IntWalk.i64_in _ ⟨by omega, by omega⟩
          have t7 : (0 : Int) ≤ (k : Int) := by omega
          go_wp2
          go_quiet ((go_at_call 34; exact Calls.quiet_of_same ((HAp.out _).mono fun _ _ ⟨he, hw⟩ => ⟨he, hw.symm⟩)))
          clear t1 t2 t4 t5 t6 t7 hc1 hc2 HAp
          cases hq : q
          · have HN := Lib.hid (HNx.out hq)
            clear HBk HNx hq
            go_wp2
            go_roundw
            case rel => exact ⟨k + 1, by omega, by go_num, Lib.hid (by first | exact Hy.out | exact (Hy.out.drewN _)), HN⟩
            case measure => simp [intOf]; omega
          · have HB := Lib.hid (HBk.out hq)
            clear HBk HNx hq
            go_wp2
            go_ret
            exact ⟨ret_int HB.out.symm, by first | exact Hy.out | exact (Hy.out.drewN _)⟩
        · obtain rfl : n = k + 1 := by omega
          have HR := Lib.hid (HOk.out HG.out (fun i hi => HF.out i (by omega)))
          clear hlt hk
          go_wp2
          go_ret
          exact ⟨ret_int HR.out.symm, Hy.out⟩
end Go.Proofs.YtinijapkipeamaaDoor
/- ganseyref19.Jumps and Check; same; Area. -/
namespace Go.Proofs.YtinijapkipeamaaDoor
set_option linter.unusedVariables false
set_option linter.unusedSimpArgs false
set_option maxRecDepth 8000
open Go Go.RowKit

theorem IS.n63 {k : IntKind} {w : World} {v : Value} {c : Nat} {xs : List Int} (h : IS k w v c xs) : xs.length ≤ 9223372036854775807 := by
  have h1 := h.open.1
  have h2 := h.open.2.1
  unfold maxLen at h2
  omega

set_option maxHeartbeats 2000000 in
theorem Jumps_calls (v : Value) (c : Nat) (l : List Int) (w : World) (h : IS .i64 w v c l) (hb : ∀ i, i < l.length → -1000 ≤ gi l i ∧ gi l i ≤ 1000) : Calls Tryd.prog 32 #[v] w fun e w' => e = .returned (.int .i64 (jmp l)) ∧ Ext w w' := by
  have hcm := h.n63
  obtain ⟨ao, n, c', rfl, hn, rfl, hIS⟩ := h.out
  have hbad : ∀ i, i + 1 < n → far (gi l i) (gi l (i + 1)) = true → jmp l = 14 := fun i hi hb => jmp_bad (by omega) hb
  have hok : (∀ i, i + 1 < n → far (gi l i) (gi l (i + 1)) = false) → jmp l = 0 := fun hf => jmp_ok (fun i hi => hf i (by omega))
  rw [← hn] at hb hcm
  obtain ⟨R, hR⟩ : ∃ R, R = jmp l := ⟨_, rfl⟩
  rw [← hR] at hbad hok ⊢
  have HI := Lib.hid hIS; have HBad := Lib.hid hbad; have HOk := Lib.hid hok; have HB := Lib.hid hb
  clear hIS h hbad hok hR hn hb
  go_enter Tryd.func32, Tryd.ntmps32
  go_wp2
  go_loopw [3] (fun i wr => ∃ k : Nat, (k = 0 ∨ k + 1 ≤ n) ∧ i = .int .i64 ((k : Int) + 1) ∧ Hid (Ext w wr) ∧ Hid (∀ j, j < k → far (gi l j) (gi l (j + 1)) = false)) (fun i _ => n - (intOf i).toNat)
  case atStart => exact ⟨0, .inl rfl, rfl, Lib.hid (Ext.refl w), Lib.hid (fun j hj => by omega)⟩
  case round =>
    obtain ⟨k, hk, rfl, Hy, HF⟩ := hrel
    by_cases hlt : k + 1 < n
    · obtain ⟨b, o, rfl, hc1⟩ := HI.out.at hlt
      obtain ⟨b', o', hbo, hc2⟩ := HI.out.at (show k < n by omega)
      obtain ⟨rfl, rfl⟩ : b = b' ∧ o = o' := by simpa using hbo
      replace hc1 := Hy.out.cell (hc1 (k + 1) hlt); replace hc2 := Hy.out.cell (hc2 k (by omega))
      have g1 := HB.out k (by omega)
      have g2 := HB.out (k + 1) hlt
      have hbk := HBad.out k hlt
      have hnx : far (gi l k) (gi l (k + 1)) = false → ∀ j, j < k + 1 → far (gi l j) (gi l (j + 1)) = false := fun h0 i hi => by
        by_cases e : i = k
        · rw [e]; exact h0
        · exact HF.out i (by omega)
      generalize gi l k = x at *
      generalize gi l (k + 1) = y at *
      have HBk := Lib.hid hbk; have HNx := Lib.hid hnx
      clear hbk hnx hbo
      have t1 : (0 : Int) ≤ (k : Int) + 1 := by omega
      have t2 : ((k : Int) + 1).toNat = k + 1 := by omega
      have t3 : (k : Int) + 1 < n := by omega
      have t4 : IntKind.i64.wrap ((k : Int) + 1 - 1) = (k : Int) := by rw [show (k : Int) + 1 - 1 = k by omega]; exact IntWalk.i64_in _ ⟨by omega, by omega⟩
      have t5 : (k : Int) < n := by omega
      have t6 : IntKind.i64.wrap (k : Int) = (k : Int) := IntWalk.i64_in _ ⟨by omega, by omega⟩
      have t7 : (0 : Int) ≤ (k : Int) := by omega
      have t8 : IntKind.i64.wrap (x + 2) = x + 2 := IntWalk.i64_in _ ⟨by omega, by omega⟩
      have t9 : IntKind.i64.wrap (x - 2) = x - 2 := IntWalk.i64_in _ ⟨by omega, by omega⟩
      by_cases x1 : x + 2 < y
      · have HR := Lib.hid (HBk.out (by simp [far]; omega))
        clear HBk HNx
        go_wp2
        go_quiet (fail)
        go_wp2
        go_ret
        exact ⟨ret_int HR.out.symm, by first | exact Hy.out | exact (Hy.out.drewN _)⟩
      · by_cases x2 : y < x - 2
        · have HR := Lib.hid (HBk.out (by simp [far]; omega))
          clear HBk HNx
          go_wp2
          go_quiet (fail)
          go_wp2
          go_ret
          exact ⟨ret_int HR.out.symm, by first | exact Hy.out | exact (Hy.out.drewN _)⟩
        · have HN := Lib.hid (HNx.out (by simp [far]; omega))
          clear HBk HNx
          go_wp2
          go_quiet (fail)
          clear hc1 hc2 t1 t2 t4 t5 t6 t7 t8 t9 g1 g2
          go_wp2
          go_roundw
          case rel => exact ⟨k + 1, .inr (by omega), by go_num, Lib.hid (by first | exact Hy.out | exact (Hy.out.drewN _)), HN⟩
          case measure => simp [intOf]; omega
    · have HR := Lib.hid (HOk.out (fun i hi => HF.out i (by omega)))
      have t3 : ¬ (k : Int) + 1 < n := by omega
      clear hlt hk
      go_wp2
      go_ret
      exact ⟨ret_int HR.out.symm, Hy.out⟩

set_option maxHeartbeats 2000000 in
theorem RCheck_calls (v : Value) (c : Nat) (l : List Int) (w : World) (h : IS .i64 w v c l) : Calls Tryd.prog 11 #[v] w fun e w' => e = .returned (.int .i64 (oerr l)) ∧ Ext w w' := by
  have hcm := h.n63
  obtain ⟨ao, n, c', rfl, hn, rfl, hIS⟩ := h.out
  rw [← hn] at hcm
  by_cases h32 : 32 < n
  · have hr := Lib.hid (oerr_long (l := l) (by omega))
    have t : (32 : Int) < (n : Int) := by omega
    clear hn hIS h h32
    go_enter Tryd.func11, Tryd.ntmps11
    go_wp2
    go_ret
    exact ⟨ret_int hr.out.symm, Ext.refl _⟩
  have h32' : ¬ (32 : Int) < (n : Int) := by omega
  by_cases h3 : n < 2
  · have hr := Lib.hid (oerr_odd (l := l) (by omega) (.inr (by omega)))
    have t : (n : Int) < 2 := by omega
    clear hn hIS h h32 h3
    go_enter Tryd.func11, Tryd.ntmps11
    go_wp2
    go_ret
    exact ⟨ret_int hr.out.symm, Ext.refl _⟩
  have t3 : ¬ (n : Int) < 2 := by omega
  by_cases h2 : n % 2 ≠ 0
  · have hr := Lib.hid (oerr_odd (l := l) (by omega) (.inl (by omega)))
    have t : ((n : Int) % 2 != 0) = true := by rw [bne, beq_eq_false_iff_ne.2 (by omega)]; rfl
    clear hn hIS h h32 h2 h3
    go_enter Tryd.func11, Tryd.ntmps11
    go_wp2
    go_ret
    exact ⟨ret_int hr.out.symm, Ext.refl _⟩
  have t2 : ((n : Int) % 2 != 0) = false := by rw [bne, beq_iff_eq.2 (by omega)]; rfl
  have hout : ∀ i, i < n → gi l i < 2 ∨ 16 < gi l i → oerr l = 1 := fun i hi hb => oerr_out (by omega) (by omega) (by omega) hb
  have hin : (∀ i, i < n → 2 ≤ gi l i ∧ gi l i ≤ 16) → oerr l = jmp l := fun hg => oerr_in (by omega) (by omega) (fun i hi => hg i (by omega))
  have hJ : (∀ i, i < n → 2 ≤ gi l i ∧ gi l i ≤ 16) → ∀ w', Ext w w' → Calls Tryd.prog 32 #[.slice ao n c'] w' fun e w'' => e = .returned (.int .i64 (jmp l)) ∧ Ext w' w'' :=
    fun hg w' x => Jumps_calls _ c' l w' (hIS.ext x) (fun i hi => by have := hg i (by omega); omega)
  obtain ⟨R, hR⟩ : ∃ R, R = oerr l := ⟨_, rfl⟩
  rw [← hR] at hout hin ⊢
  have HI := Lib.hid hIS; have HOut := Lib.hid hout; have HIn := Lib.hid hin; have HJ := Lib.hid hJ
  have hn32 : n ≤ 32 := by omega
  have hn2 : 2 ≤ n := by omega
  clear hIS h hout hin hJ hR hn h32 h2 h3
  go_enter Tryd.func11, Tryd.ntmps11
  go_wp2
  go_loopw [3] (fun i wr => ∃ k : Nat, k ≤ n ∧ i = .int .i64 k ∧ Hid (Ext w wr) ∧ Hid (∀ i, i < k → 2 ≤ gi l i ∧ gi l i ≤ 16)) (fun i _ => n - (intOf i).toNat)
  case atStart => exact ⟨0, Nat.zero_le _, rfl, Lib.hid (Ext.refl w), Lib.hid (fun i hi => by omega)⟩
  case round =>
    obtain ⟨k, hk, rfl, Hx, HG⟩ := hrel
    by_cases hlt : k < n
    · obtain ⟨b, o, rfl, hcl⟩ := HI.out.at hlt
      replace hcl := Hx.out.cell (hcl k hlt)
      have hbk := HOut.out k hlt
      have hnx : 2 ≤ gi l k ∧ gi l k ≤ 16 → ∀ i, i < k + 1 → 2 ≤ gi l i ∧ gi l i ≤ 16 := fun h0 i hi => by
        by_cases e : i = k
        · rw [e]; exact h0
        · exact HG.out i (by omega)
      generalize gi l k = x at hcl hbk hnx
      have HBk := Lib.hid hbk; have HNx := Lib.hid hnx
      clear hbk hnx
      by_cases x1 : x < 2
      · have HB := Lib.hid (HBk.out (.inl x1))
        clear HBk HNx
        go_wp2
        go_ret
        exact ⟨ret_int HB.out.symm, Hx.out⟩
      · by_cases x2 : 16 < x
        · have HB := Lib.hid (HBk.out (.inr x2))
          clear HBk HNx
          go_wp2
          go_ret
          exact ⟨ret_int HB.out.symm, Hx.out⟩
        · have HN := Lib.hid (HNx.out (by omega))
          clear HBk HNx
          go_wp2
          go_roundw
          case rel => exact ⟨k + 1, by omega, by go_num, Hx, HN⟩
          case measure => simp [intOf]; omega
    · obtain rfl : n = k := by omega
      have hcall := HJ.out HG.out wr Hx.out
      have hr := HIn.out HG.out
      have HC := Lib.hid hcall; have HR := Lib.hid hr
      clear hlt hk HOut hcall hr HJ HIn
      go_wp2_with fail
      refine HC.out.mono ?_
      rintro e w1 ⟨rfl, x1⟩
      have X1 := Lib.hid (Hx.out.trans x1)
      clear x1
      go_wp2
      go_ret
      exact ⟨ret_int HR.out.symm, X1.out⟩

def sm (xs ys : List Int) : Int := if xs = ys then 0 else 1
theorem sm_ne {xs ys : List Int} (h : xs ≠ ys) : sm xs ys = 1 := if_neg h
theorem sm_eq {xs ys : List Int} (h : xs = ys) : sm xs ys = 0 := if_pos h

set_option maxHeartbeats 2000000 in
theorem same_calls (v1 v2 : Value) (c1 c2 : Nat) (xs ys : List Int) (w : World) (h1 : IS .i64 w v1 c1 xs) (h2 : IS .i64 w v2 c2 ys) : Calls Tryd.prog 19 #[v1, v2] w fun e w' => e = .returned (.int .i64 (sm xs ys)) ∧ Ext w w' := by
  have hcm := h1.n63
  have hcm2 := h2.n63
  obtain ⟨a1, n, d1, rfl, hn, rfl, hI1⟩ := h1.out
  obtain ⟨a2, m, d2, rfl, hm, rfl, hI2⟩ := h2.out
  rw [← hn] at hcm
  rw [← hm] at hcm2
  by_cases hnm : n = m
  · subst hnm
    have hbad : ∀ i, i < n → gi xs i ≠ gi ys i → sm xs ys = 1 := fun i hi hb => sm_ne (fun e => hb (by rw [e]))
    have hok : (∀ i, i < n → gi xs i = gi ys i) → sm xs ys = 0 := fun hg => sm_eq (gi_ext (by omega) (fun i hi => hg i (by omega)))
    obtain ⟨R, hR⟩ : ∃ R, R = sm xs ys := ⟨_, rfl⟩
    rw [← hR] at hbad hok ⊢
    have H1 := Lib.hid hI1; have H2 := Lib.hid hI2; have HBad := Lib.hid hbad; have HOk := Lib.hid hok
    clear hI1 hI2 h1 h2 hbad hok hR hn hm hcm2
    go_enter Tryd.func19, Tryd.ntmps19
    go_wp2
    go_loopw [5] (fun i wr => ∃ k : Nat, k ≤ n ∧ i = .int .i64 k ∧ Hid (Ext w wr) ∧ Hid (∀ i, i < k → gi xs i = gi ys i)) (fun i _ => n - (intOf i).toNat)
    case atStart => exact ⟨0, Nat.zero_le _, rfl, Lib.hid (Ext.refl w), Lib.hid (fun i hi => by omega)⟩
    case round =>
      obtain ⟨k, hk, rfl, Hx, HG⟩ := hrel
      by_cases hlt : k < n
      · obtain ⟨b, o, rfl, hc1⟩ := H1.out.at hlt
        obtain ⟨b', o', rfl, hc2⟩ := H2.out.at hlt
        replace hc1 := Hx.out.cell (hc1 k hlt)
        replace hc2 := Hx.out.cell (hc2 k hlt)
        have hbk := HBad.out k hlt
        have hnx : gi xs k = gi ys k → ∀ i, i < k + 1 → gi xs i = gi ys i := fun h0 i hi => by
          by_cases e : i = k
          · rw [e]; exact h0
          · exact HG.out i (by omega)
        generalize gi xs k = x at hc1 hbk hnx
        generalize gi ys k = y at hc2 hbk hnx
        have HBk := Lib.hid hbk; have HNx := Lib.hid hnx
        have t3 : (k : Int) < n := by omega
        have t7 : (0 : Int) ≤ (k : Int) := by omega
        clear hbk hnx
        by_cases hxy : x = y
        · have HN := Lib.hid (HNx.out hxy)
          have tq : (x != y) = false := by rw [bne, beq_iff_eq.2 hxy]; rfl
          clear HBk HNx hxy
          go_wp2
          go_quiet (fail)
          clear hc1 hc2
          go_wp2
          go_roundw
          case rel => exact ⟨k + 1, by omega, by go_num, Lib.hid (by first | exact Hx.out | exact (Hx.out.drewN _)), HN⟩
          case measure => simp [intOf]; omega
        · have HB := Lib.hid (HBk.out hxy)
          have tq : (x != y) = true := by rw [bne, beq_eq_false_iff_ne.2 hxy]; rfl
          clear HBk HNx hxy
          go_wp2
          go_quiet (fail)
          clear hc1 hc2
          go_wp2
          go_ret
          exact ⟨ret_int HB.out.symm, by first | exact Hx.out | exact (Hx.out.drewN _)⟩
      · obtain rfl : n = k := by omega
        have HR := Lib.hid (HOk.out HG.out)
        clear hlt hk
        go_wp2
        go_ret
        exact ⟨ret_int HR.out.symm, Hx.out⟩
  · have hr := Lib.hid (show sm xs ys = 1 from sm_ne (fun e => hnm (by rw [hn, hm, e])))
    have tq : ((n : Int) != (m : Int)) = true := by rw [bne, beq_eq_false_iff_ne.2 (by omega)]; rfl
    clear hn hm hI1 hI2 h1 h2 hnm
    go_enter Tryd.func19, Tryd.ntmps19
    go_wp2
    go_ret
    exact ⟨ret_int hr.out.symm, Ext.refl _⟩

/-- The sum of the widths but the first. -/
def area (l : List Int) : Nat → Int
  | 0 => 0
  | k + 1 => area l k + if k = 0 then 0 else gi l k
theorem area_bd {l : List Int} (hb : ∀ i, i < l.length → 0 ≤ gi l i ∧ gi l i ≤ 1000) : ∀ k, k ≤ l.length → 0 ≤ area l k ∧ area l k ≤ 1000 * k
  | 0, _ => by simp [area]
  | k + 1, h => by
    have := area_bd hb k (by omega)
    have := hb k (by omega)
    unfold area
    split <;> omega

set_option maxHeartbeats 2000000 in
theorem Area_calls (v : Value) (c : Nat) (l : List Int) (w : World) (h : IS .i64 w v c l) (hb : ∀ i, i < l.length → 0 ≤ gi l i ∧ gi l i ≤ 1000) (hl : l.length ≤ 1000) : Calls Tryd.prog 23 #[v] w fun e w' => e = .returned (.int .i64 (area l l.length)) ∧ Ext w w' := by
  obtain ⟨ao, n, c', rfl, hn, rfl, hIS⟩ := h.out
  have hbd := area_bd hb
  rw [← hn] at hb hbd hl ⊢
  have HI := Lib.hid hIS; have HB := Lib.hid hb; have HBd := Lib.hid hbd
  clear hIS h hn hb hbd
  go_enter Tryd.func23, Tryd.ntmps23
  go_wp2
  go_loopw [3, 4, 5, 8] (fun s _ _ i wr => ∃ k : Nat, k ≤ n ∧ i = .int .i64 k ∧ s = .int .i64 (area l k) ∧ Hid (Ext w wr)) (fun _ _ _ i _ => n - (intOf i).toNat)
  case atStart => exact ⟨0, Nat.zero_le _, rfl, rfl, Lib.hid (Ext.refl w)⟩
  case round =>
    obtain ⟨k, hk, rfl, rfl, Hx⟩ := hrel
    by_cases hlt : k < n
    · obtain ⟨b, o, rfl, hc1⟩ := HI.out.at hlt
      replace hc1 := Hx.out.cell (hc1 k hlt)
      have g1 := HB.out k hlt
      have g2 := HBd.out k (by omega)
      have hs : area l (k + 1) = area l k + if k = 0 then 0 else gi l k := rfl
      generalize gi l k = x at hc1 g1 hs
      generalize area l k = s at g2 hs ⊢
      by_cases k0 : k = 0
      · have HS := Lib.hid (show area l (k + 1) = s by rw [hs, if_pos k0]; omega)
        have t0 : ¬ (0 : Int) < (k : Int) := by omega
        clear hs k0
        go_wp2
        go_roundw
        case rel => exact ⟨k + 1, by omega, by go_num, by rw [HS.out], Hx⟩
        case measure => simp [intOf]; omega
      · have HS := Lib.hid (show area l (k + 1) = s + x by rw [hs, if_neg k0])
        have t0 : (0 : Int) < (k : Int) := by omega
        have t1 : IntKind.i64.wrap (s + x) = s + x := IntWalk.i64_in _ ⟨by omega, by omega⟩
        clear hs k0
        go_wp2
        go_roundw
        case rel => exact ⟨k + 1, by omega, by go_num, by rw [HS.out], Hx⟩
        case measure => simp [intOf]; omega
    · obtain rfl : n = k := by omega
      clear hlt hk
      go_wp2
      go_ret
      exact ⟨rfl, Hx.out⟩
end Go.Proofs.YtinijapkipeamaaDoor
