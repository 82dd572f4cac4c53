/- Contract of charts.Text. -/
import Derived.Test.YtinijapkipeamaaDoorSi
import Derived.Test.YtinijapkipeamaaDoorSj
import Derived.Test.YtinijapkipeamaaDoorBld
namespace Go.Proofs.YtinijapkipeamaaDoor
set_option linter.unusedVariables false
set_option linter.unusedSimpArgs false
set_option maxRecDepth 8000
open Go Go.RowKit

/-- The bytes of the first k stitches of a row. -/
def rowT (r : List St) : Nat → List Int
  | 0 => []
  | k + 1 => rowT r k ++ (if k = 0 then [] else [32]) ++ (si r k).tx
/-- The bytes of the last k rows, the last one first. -/
def chT (rows : List (List St)) : Nat → List Int
  | 0 => []
  | k + 1 => chT rows k ++ rowT (sw rows (rows.length - 1 - k)) (sw rows (rows.length - 1 - k)).length ++ [10]
/-- The bytes of a chart's text. -/
def ctx (rows : List (List St)) : List Int := if (cloads rows).1 ≠ 0 then [] else chT rows rows.length

def Byt (xs : List Int) : Prop := ∀ x ∈ xs, 0 ≤ x ∧ x ≤ 255
theorem Byt.app {xs ys : List Int} (h : Byt xs) (k : Byt ys) : Byt (xs ++ ys) := fun x hx => by
  rcases List.mem_append.1 hx with hx | hx
  · exact h x hx
  · exact k x hx
theorem byt_one {x : Int} (h : 0 ≤ x ∧ x ≤ 255) : Byt [x] := fun y hy => by rw [List.mem_singleton.1 hy]; exact h
theorem byt_nil : Byt [] := fun x hx => by cases hx
theorem byt_tx (s : St) : Byt s.tx := by
  unfold St.tx
  split
  · exact byt_nil
  · rename_i h
    obtain ⟨k1, k2, k3⟩ := St.chk_ok (s := s) (by simpa using h)
    refine Byt.app (Byt.app (byt_one ?_) ?_) ?_
    · obtain ⟨j, hj⟩ : ∃ j : Nat, (s.k - 1).toNat = j := ⟨_, rfl⟩
      have hj8 : j < 8 := by omega
      rw [hj]
      have : ∀ j, j < 8 → 0 ≤ gi symT j ∧ gi symT j ≤ 255 := by decide
      exact this j hj8
    · split
      · intro x hx
        simp only [List.mem_cons, List.not_mem_nil, or_false] at hx
        rcases hx with rfl | rfl | rfl
        · omega
        · omega
        · split <;> omega
      · exact byt_nil
    · split
      · exact byt_nil
      · exact byt_one (by omega)
theorem byt_row (r : List St) : ∀ k, Byt (rowT r k)
  | 0 => byt_nil
  | k + 1 => by
    unfold rowT
    refine ((byt_row r k).app ?_).app (byt_tx _)
    split
    · exact byt_nil
    · exact byt_one (by omega)
theorem byt_ch (rows : List (List St)) : ∀ k, Byt (chT rows k)
  | 0 => byt_nil
  | k + 1 => ((byt_ch rows k).app (byt_row _ _)).app (byt_one (by omega))
theorem rowT_len (r : List St) : ∀ k, (rowT r k).length ≤ 6 * k
  | 0 => by simp [rowT]
  | k + 1 => by
    have h1 := rowT_len r k
    have h2 := tx_len (si r k)
    unfold rowT
    simp only [List.length_append]
    split <;> simp <;> omega
theorem chT_len {rows : List (List St)} (h : ∀ i, i < rows.length → (sw rows i).length ≤ 16) : ∀ k, k ≤ rows.length → (chT rows k).length ≤ 97 * k
  | 0, _ => by simp [chT]
  | k + 1, hk => by
    have h1 := chT_len h k (by omega)
    have h2 := h (rows.length - 1 - k) (by omega)
    have h3 := rowT_len (sw rows (rows.length - 1 - k)) (sw rows (rows.length - 1 - k)).length
    unfold chT
    simp only [List.length_append, List.length_singleton]
    omega
theorem strCells_bstr {xs : List Int} (h : Byt xs) : Lib.strCells (bstr xs) = xs.map (Value.int .u8) := by
  rw [Lib.strCells_eq, bstr_data]
  unfold Lib.byteCells
  rw [List.map_map]
  refine List.map_congr_left fun x hx => ?_
  have := h x hx
  show Value.int .u8 ((UInt8.ofNat x.toNat).toNat : Int) = _
  rw [UInt8.toNat_ofNat']
  congr 1
  omega
theorem bld_ext {T e : TypeId} {B b : Nat} {bs : List Value} {w w' : World} (h : Lib.IsBuilder T e B b bs w) (x : Ext w w') : Lib.IsBuilder T e B b bs w' := by
  rcases h with ⟨hB, v, hb, hown, hne⟩ | ⟨hB, v, hb, hown, hne⟩
  · exact .inl ⟨hB, v, x.block hb, own_ext hown x, hne⟩
  · exact .inr ⟨hB, v, x.block hb, own_ext hown x, hne⟩
theorem bstr_back (xs : List Int) : (⟨(bstr xs).data.toList.toArray⟩ : ByteArray) = bstr xs := by apply bytes_eq; simp

set_option maxHeartbeats 4000000 in
theorem CText_calls (v : Value) (c : Nat) (rows : List (List St)) (w : World) (h : RR w v c rows) (hy : Sy w) :
    Calls Tryd.prog 35 #[.agg #[v]] w fun e w' => e = .returned (.string (bstr (ctx rows))) ∧ Ext w w' := by
  obtain ⟨ao, n, rfl, hn, hnc, hcm, hat⟩ := h.open
  unfold maxLen at hcm
  have hck := fun w' (x : Ext w w') => CCheck_calls _ c rows w' (h.ext x)
  have HCk := Lib.hid hck; have HA := Lib.hid hat; have HY := Lib.hid hy
  clear hck hat h hy
  have hbox := fun (w' : World) (x : Ext (w.alloc (.cells #[.slice ao n c] 26)) w') => x.cell (show (w.alloc (.cells #[.slice ao n c] 26)).cell? ⟨w.heap.size, 0, none⟩ = some (.slice ao n c) by rw [World.cell?_alloc_at (hn := rfl)]; rfl)
  have HBx := Lib.hid hbox
  clear hbox
  by_cases he : (cloads rows).1 = 0
  · have hce : cerr rows = 0 := by
      by_cases e : cerr rows = 0
      · exact e
      · unfold cloads at he; rw [if_pos e] at he; exact absurd he e
    obtain ⟨r1, r2, r3, _⟩ := cerr_zero hce
    have hlen16 : ∀ i, i < rows.length → (sw rows i).length ≤ 16 := fun i hi => (rchk_zero (r3 i hi)).1
    have hcl := chT_len hlen16
    have hres : ctx rows = chT rows n := by unfold ctx; rw [if_neg (by omega), hn]
    rw [← hn] at r1 r2 hcl hlen16
    have hstep : ∀ k, k < n → chT rows (k + 1) = chT rows k ++ rowT (sw rows (n - 1 - k)) (sw rows (n - 1 - k)).length ++ [10] := fun k hk => by rw [hn]; rfl
    replace HCk := Lib.hid (show ∀ w', Ext w w' → Calls Tryd.prog 26 #[.agg #[.slice ao n c]] w' fun e w'' => e = .returned (.int .i64 0) ∧ Ext w' w'' from fun w' x => by have := HCk.out w' x; rw [he] at this; exact this)
    have HCl := Lib.hid hcl; have HRes := Lib.hid hres; have HSt := Lib.hid hstep; have H16 := Lib.hid hlen16
    clear hcl hres hstep hlen16 he hce r3 hn
    go_enter Tryd.func35, Tryd.ntmps35
    go_wp2_with fail
    refine (HCk.out _ ((Ext.refl w).alloc _)).mono ?_
    rintro e w1 ⟨rfl, x1⟩
    have X1 := Lib.hid x1
    have b0 := HBx.out _ x1
    have hsz : w.heap.size < w1.heap.size := by have := x1.size; simp at this; omega
    clear x1 HCk
    go_wp2
    obtain ⟨BX, hBX⟩ : ∃ BX, BX = w1.heap.size := ⟨_, rfl⟩
    go_loopw [4, 5, 6, 13] (fun _ _ _ i wr => ∃ k : Nat, k ≤ n ∧ i = .int .i64 k ∧ Hid (Lib.IsBuilder 81 5 w1.heap.size w1.heap.size ((chT rows k).map (Value.int .u8)) wr) ∧ Hid (Ext w1 wr)) (fun _ _ _ i _ => n - (intOf i).toNat)
    case atStart => exact ⟨0, Nat.zero_le _, rfl, Lib.hid (Lib.fresh_isBuilder _ _ _), Lib.hid ((Ext.refl w1).alloc _)⟩
    case round =>
      obtain ⟨k, hk, rfl, HBd, HX⟩ := hrel
      clear hBX
      by_cases hlt : k < n
      · obtain ⟨b, o, a, m, d, rfl, hcl, hrs⟩ := HA.out (n - 1 - k) (by omega)
        have XO := Lib.hid (((Ext.refl w).alloc (.cells #[.slice (some ⟨b, o, Option.none⟩) n c] 26)).trans (X1.out.trans HX.out))
        replace hcl := XO.out.cell hcl
        have b1 := HBx.out _ (X1.out.trans HX.out)
        obtain ⟨ao', m', hv, hm, hmc, hmm, hst⟩ := hrs.open
        simp only [Value.slice.injEq] at hv
        obtain ⟨rfl, rfl, _⟩ := hv
        have hm16 : m ≤ 16 := by rw [hm]; exact H16.out _ (by omega)
        have hstp := HSt.out k hlt
        have hcln := HCl.out k hk
        obtain ⟨r, hr⟩ : ∃ r, r = sw rows (n - 1 - k) := ⟨_, rfl⟩
        rw [← hr] at hst hstp hm
        obtain ⟨T, hT⟩ : ∃ T, T = chT rows k := ⟨_, rfl⟩
        rw [← hT] at HBd hcln hstp
        rw [← hm] at hstp
        have hBT : Byt T := by rw [hT]; exact byt_ch _ _
        obtain ⟨ix, hix⟩ : ∃ ix : Nat, ix = n - 1 - k := ⟨_, rfl⟩
        rw [← hix] at hcl
        have HSt' := Lib.hid hst; have HStp := Lib.hid hstp; have Hm := Lib.hid hm; have HBT := Lib.hid hBT
        have t1 : (n : Int) - 1 - (k : Int) = (ix : Int) := by omega
        have t2 : ix < n := by omega
        have t3 : (ix : Int) < n := by omega
        clear hst hstp hm hBT hr hT hix hmm hmc hrs
        obtain ⟨wo, rfl⟩ : ∃ wo : World, wo = wr := ⟨_, rfl⟩
        have Xw := HX
        go_wp2
        clear t1 hcl b1
        go_loopw [5, 6, 27] (fun _ _ i wr => ∃ j : Nat, j ≤ m ∧ i = .int .i64 j ∧ Hid (Lib.IsBuilder 81 5 w1.heap.size w1.heap.size ((T ++ rowT r j).map (Value.int .u8)) wr) ∧ Hid (Ext w1 wr)) (fun _ _ i _ => m - (intOf i).toNat)
        case atStart => exact ⟨0, Nat.zero_le _, rfl, by rw [show T ++ rowT r 0 = T by simp [rowT]]; exact HBd, HX⟩
        case round =>
          obtain ⟨j, hj, rfl, HB2, HX2⟩ := hrel
          have hrl := rowT_len r j
          have hrl1 := rowT_len r (j + 1)
          by_cases hjm : j < m
          · obtain ⟨b2, o2, rfl, h5⟩ := HSt'.out j hjm
            have XX := Lib.hid (((Ext.refl w).alloc (.cells #[.slice (some ⟨b, o, Option.none⟩) n c] 26)).trans (X1.out.trans HX2.out))
            obtain ⟨c0, c1, c2, c3, c4⟩ := h5.ext XX.out
            have hrow : rowT r (j + 1) = rowT r j ++ (if j = 0 then [] else [32]) ++ (si r j).tx := rfl
            have htl := tx_len (si r j)
            have hbt := byt_tx (si r j)
            have hcall := fun w' (x : Ext wr w') => SText_calls (si r j) w' (HY.out.ext (XX.out.trans x))
            obtain ⟨s, hs⟩ : ∃ s, s = si r j := ⟨_, rfl⟩
            rw [← hs] at c0 c1 c2 c3 c4 hrow htl hbt hcall
            have HRow := Lib.hid hrow; have HBt := Lib.hid hbt; have HCa := Lib.hid hcall
            have hb5 := B5.new wr s 52
            have HB5 := Lib.hid hb5
            clear hrow hbt hcall hs h5 hb5
            unfold St.val at HCa
            have HB3 := Lib.hid (bld_ext HB2.out ((Ext.refl wr).alloc (.cells #[.int .u8 s.k, .int .u8 s.y, .int .i64 s.a, .int .i64 s.b, .bool s.f] 52)))
            have hsz : w1.heap.size < wr.heap.size := bld_lt HB2.out
            by_cases j0 : j = 0
            · subst j0
              simp only [Nat.zero_mul, Nat.add_zero] at c0 c1 c2 c3 c4
              have HRow0 := Lib.hid (show T ++ rowT r 1 = T ++ rowT r 0 ++ s.tx by rw [HRow.out, if_pos rfl]; simp)
              go_wp2_with fail
              refine (HCa.out _ ((Ext.refl _).alloc _)).mono ?_
              rintro e w4 ⟨rfl, x4⟩
              have HB4 := Lib.hid (bld_ext HB3.out x4)
              have X4 := Lib.hid (HX2.out.trans (((Ext.refl _).alloc _).trans x4))
              clear x4 c0 c1 c2 c3 c4 HB3 HB5
              go_wp2_with fail
              refine (bld_string w1.heap.size w1.heap.size _ (bstr s.tx) _ HB4.out (by rw [bstr_size, List.length_map, List.length_append]; omega) X4.out.size).mono ?_
              rintro e w5 ⟨rfl, hb, hx⟩
              rw [strCells_bstr HBt.out, ← List.map_append, ← HRow0.out] at hb
              have HBn := Lib.hid hb; have HXn := Lib.hid (show Ext w1 w5 from Below.trans X4.out hx)
              clear hb hx
              go_wp2
              go_roundw
              case rel => exact ⟨1, by omega, by go_num, HBn, HXn⟩
              case measure => simp [intOf]; omega
            · have j0' : (0 : Int) < (j : Int) := by omega
              have HRow0 := Lib.hid (show T ++ rowT r (j + 1) = T ++ rowT r j ++ [32] ++ s.tx by rw [HRow.out, if_neg j0]; simp)
              clear j0
              go_wp2_with fail
              refine (bld_byte2 w1.heap.size w1.heap.size _ 32 _ HB3.out (by rw [List.length_map, List.length_append]; omega) (by simp; omega)).mono ?_
              rintro e w3 ⟨rfl, hb, hx, hkb⟩
              have hbs := hkb _ _ _ HB5.out (by omega) (by decide)
              obtain ⟨q0, q1, q2, q3, q4⟩ := B5.at (s := s) hbs
              simp only [Nat.zero_add] at q1 q2 q3 q4
              have X3' := Lib.hid (show Ext w1 w3 from Below.trans (HX2.out.alloc _) hx)
              have HB6 := Lib.hid hb
              have hsy := HY.out.ext (((Ext.refl w).alloc (.cells #[.slice (some ⟨b, o, Option.none⟩) n c] 26)).trans (X1.out.trans X3'.out))
              have hst := SText_calls s w3 hsy
              unfold St.val at hst
              have HST := Lib.hid hst
              clear hb hx hkb hbs hsy hst c0 c1 c2 c3 c4 HB3 HB5 HCa
              go_wp2_with fail
              refine HST.out.mono ?_
              rintro e w4 ⟨rfl, x4⟩
              have HB4 := Lib.hid (bld_ext HB6.out x4)
              have X4 := Lib.hid (X3'.out.trans x4)
              clear x4 HB6 q0 q1 q2 q3 q4
              go_wp2_with fail
              refine (bld_string w1.heap.size w1.heap.size _ (bstr s.tx) _ HB4.out (by rw [bstr_size]; simp; omega) X4.out.size).mono ?_
              rintro e w5 ⟨rfl, hb, hx⟩
              have hb2 : Lib.IsBuilder 81 5 w1.heap.size w1.heap.size ((T ++ rowT r (j + 1)).map (Value.int .u8)) w5 := by
                rw [HRow0.out, List.map_append, ← strCells_bstr HBt.out, List.map_append]
                exact hb
              have HBn := Lib.hid hb2; have HXn := Lib.hid (show Ext w1 w5 from Below.trans X4.out hx)
              clear hb hb2 hx
              go_wp2
              go_roundw
              case rel => exact ⟨j + 1, by omega, by go_num, HBn, HXn⟩
              case measure => simp [intOf]; omega
          · obtain rfl : m = j := by omega
            clear hjm hj
            go_wp2_with fail
            refine (bld_byte w1.heap.size w1.heap.size _ 10 _ HB2.out (by rw [List.length_map, List.length_append]; omega) HX2.out.size).mono ?_
            rintro e w3 ⟨rfl, hb, hx⟩
            have hb2 : Lib.IsBuilder 81 5 w1.heap.size w1.heap.size ((chT rows (k + 1)).map (Value.int .u8)) w3 := by
              rw [HStp.out, List.map_append]; exact hb
            have HBn := Lib.hid hb2; have HXn := Lib.hid (show Ext w1 w3 from Below.trans HX2.out hx)
            clear hb hb2 hx
            go_wp2
            go_roundw
            case rel => exact ⟨k + 1, by omega, by go_num, HBn, HXn⟩
            case measure => simp [intOf]; omega
      · obtain rfl : n = k := by omega
        have hby : Lib.byteCells (bstr (chT rows n)).data.toList = (chT rows n).map (Value.int .u8) := by rw [← strCells_bstr (byt_ch rows n)]; rfl
        have hS := Tryd.Builder_String_any w1.heap.size w1.heap.size (bstr (chT rows n)).data.toList wr (by rw [hby]; exact HBd.out) HX.out.size
        rw [bstr_back] at hS
        have HS := Lib.hid hS
        clear hS hby hlt hk
        go_wp2_with fail
        refine HS.out.mono ?_
        rintro e w3 ⟨rfl, hx⟩
        have XF := Lib.hid (((Ext.refl w).alloc (.cells #[.slice ao n c] 26)).trans (X1.out.trans (show Ext w1 w3 from Below.trans HX.out hx)))
        clear hx
        go_wp2
        go_ret
        exact ⟨ret_str (congrArg bstr HRes.out.symm), XF.out⟩
  · have hr := Lib.hid (show ctx rows = [] by unfold ctx; rw [if_pos he])
    have hq : ((cloads rows).1 != 0) = true := by rw [bne, beq_eq_false_iff_ne.2 he]; rfl
    generalize (cloads rows).1 = q at HCk hq
    clear he hn HA HBx
    go_enter Tryd.func35, Tryd.ntmps35
    go_wp2_with fail
    refine (HCk.out _ ((Ext.refl w).alloc _)).mono ?_
    rintro e w1 ⟨rfl, x1⟩
    have X1 := Lib.hid (((Ext.refl w).alloc _).trans x1)
    clear x1
    go_wp2
    go_ret
    exact ⟨ret_str (congrArg bstr hr.out.symm), X1.out⟩
end Go.Proofs.YtinijapkipeamaaDoor
