/- fabrics.describe. -/
import Derived.Test.YtlhkehfplcclgaaDoorKe
namespace Go.Proofs.YtlhkehfplcclgaaDoor
set_option linter.unusedVariables false
set_option linter.unusedSimpArgs false
set_option maxRecDepth 8000
open Go Go.RowKit Go.Sort

def frontT : List UInt8 := [102, 114, 111, 110, 116]
def backT : List UInt8 := [98, 97, 99, 107]
def newT : List UInt8 := [110, 101, 119]
def throughT : List UInt8 := [116, 104, 114, 111, 117, 103, 104]
def pastT : List UInt8 := [112, 97, 115, 116]
/-- The words of a loop. -/
def d1T (a : Nm) (l : Lp) : List (List UInt8) := [nameT a, if l.bed = 1 then backT else frontT]
def d2T (a : Nm) (l : Lp) : List (List UInt8) := d1T a l ++ if l.new = true then [newT] else []
def d3T (a : Nm) (l : Lp) : List (List UInt8) := d2T a l ++ if l.thr = [] then [] else throughT :: l.thr.map nameT
def d4T (a : Nm) (l : Lp) : List (List UInt8) := d3T a l ++ if l.past = [] then [] else [pastT]
def descT (a : Nm) (l : Lp) : List (List UInt8) := d4T a l ++ l.past.map passT
set_option maxHeartbeats 8000000 in
theorem Desc_calls (a : Nm) (l : Lp) (u v : Value) (d1 d2 : Nat) (w : World) (hu : NL w u d1 l.thr) (hv : PL w v d2 l.past) (ht : PTab w) (ha : a.In) (hl : l.In) (h1 : l.thr.length ≤ 1000) (h2 : l.past.length ≤ 1000) :
    Calls Tryd.prog 39 #[a.val, .agg #[.int .u8 l.bed, .bool l.new, u, v]] w (RetS w (descT a l)) := by
  have HNs := Lib.hid (fun w' (x : Ext w w') => Names_calls throughT u d1 l.thr w' (hu.ext x) (ht.ext x) hl.2.1 h1)
  obtain ⟨ua, un, rfl, hun, hud, hu9, huat⟩ := hu.open
  obtain ⟨va, vn, rfl, hvn, hvd, hv9, hvat⟩ := hv.open
  obtain ⟨W, hW⟩ : ∃ W, W = (w.alloc (.cells #[.int .u8 a.y, .int .i64 a.n] 41)).alloc (.cells #[.int .u8 l.bed, .bool l.new, .slice ua un d1, .slice va vn d2] 46) := ⟨_, rfl⟩
  have xW : Ext w W := by rw [hW]; exact ((Ext.refl _).alloc _).alloc _
  have hA : BN W w.heap.size a := by rw [hW]; exact (BN.new w a).ext ((Ext.refl _).alloc _)
  have HB := Lib.hid (show B4 W (w.heap.size + 1) (.int .u8 l.bed) (.bool l.new) (.slice ua un d1) (.slice va vn d2) 46 by rw [hW]; have := B4.new (w.alloc (.cells #[.int .u8 a.y, .int .i64 a.n] 41)) (.int .u8 l.bed) (.bool l.new) (.slice ua un d1) (.slice va vn d2) 46; simpa using this)
  have HNm := Lib.hid (fun w' (x : Ext w w') => Name_calls a w' (ht.ext x) ha)
  obtain ⟨a0, a1⟩ := hA.at
  simp only [Nat.zero_add] at a1
  have Hv := Lib.hid (fun i (hi : i < vn) => (by obtain ⟨b, o, e, ha⟩ := hvat i hi; exact ⟨⟨b, o, e, ha⟩, hl.2.2 _ (qi_mem (by omega))⟩ : (∃ b o, va = some ⟨b, o, none⟩ ∧ At4 w b (o + i * 4) (qi l.past i)) ∧ (qi l.past i).In))
  have HT := Lib.hid ht; have XW := Lib.hid xW; have HW := Lib.hid hW; have Hun := Lib.hid hun; have Hvn := Lib.hid hvn
  have un9 : un ≤ 1000 := by omega
  have vn9 : vn ≤ 1000 := by omega
  have hwl : w.heap.size + 1 < W.heap.size := HB.out.lt
  obtain ⟨R, hR⟩ : ∃ R, R = descT a l := ⟨_, rfl⟩
  rw [← hR]
  have HR := Lib.hid hR
  unfold Nm.val at HNm ⊢
  clear hu hv huat hvat hun hvn h1 h2 ha hl ht hW xW hA hR
  go_enter Tryd.func39, Tryd.ntmps39
  go_wp2_with fail
  rw [← HW.out]
  clear a0 a1
  refine (HNm.out W XW.out).mono ?_
  rintro e w1 ⟨rfl, x1⟩
  have X1 := Lib.hid x1
  clear x1
  obtain ⟨NT, hNT⟩ : ∃ NT, NT = nameT a := ⟨_, rfl⟩
  rw [← hNT]
  obtain ⟨W2, hW2⟩ : ∃ W2, W2 = w1.alloc (.cells #[.string (bst NT), .string { data := #[102, 114, 111, 110, 116] }] 9) := ⟨_, rfl⟩
  obtain ⟨g, hg⟩ : ∃ g, g = w1.heap.size := ⟨_, rfl⟩
  have hgW : W.heap.size ≤ g := by rw [hg]; exact X1.out.size
  have S2 := Lib.hid (show Ext W W2 ∧ W2.heap[g]? = some (.cells #[.string (bst NT), .string { data := #[102, 114, 111, 110, 116] }] 9 (0, 0)) from ⟨by rw [hW2]; exact X1.out.trans ((Ext.refl _).alloc _), by rw [hW2, hg]; exact Deep.blk_alloc_new _ _⟩)
  have HW2 := Lib.hid hW2; have Hg := Lib.hid hg; have HNT := Lib.hid hNT
  have cb := cell_alloc (HB.out.ext X1.out).c0 (.cells #[.string (bst NT), .string { data := #[102, 114, 111, 110, 116] }] 9)
  have cl : w.heap.size + 1 < w1.heap.size := (HB.out.ext X1.out).lt
  clear hW2 hg hNT
  go_upto_if 13 with fail
  rw [← HW2.out, ← Hg.out]
  clear cb cl
  obtain ⟨BD, hBD⟩ : ∃ BD, BD = l.bed := ⟨_, rfl⟩
  obtain ⟨L1, hL1⟩ : ∃ L1, L1 = d1T a l := ⟨_, rfl⟩
  have HL1 := Lib.hid (And.intro hL1 hBD)
  have hB0 := HB.out
  have cc0 := (HB.out.ext S2.out.1).c0
  rw [← hBD] at cc0 ⊢
  clear hL1 hBD
  go_cut [5] from 8 to 50 (fun p wx => Hid (SO W.heap.size wx p L1 ∧ Ext W wx))
  case first =>
    by_cases hb1 : BD = 1
    · have q1 : (BD == 1) = true := by rw [hb1]; rfl
      have hb := S2.out.2
      have fz : W2.frozen? ⟨g, 1, none⟩ = false := by simp [World.frozen?, hb]
      have c1 : W2.cell? ⟨g, 1, none⟩ = some (.string { data := #[102, 114, 111, 110, 116] }) := by simp [World.cell?, hb]
      have HF := Lib.hid (show SO W.heap.size (W2.setCell ⟨g, 1, none⟩ (.string { data := #[98, 97, 99, 107] })) (.slice (some ⟨g, 0, none⟩) 2 2) L1 ∧ Ext W (W2.setCell ⟨g, 1, none⟩ (.string { data := #[98, 97, 99, 107] })) from ⟨by
        have hb' : (W2.setCell ⟨g, 1, none⟩ (.string { data := #[98, 97, 99, 107] })).heap[g]? = some (.cells #[.string (bst NT), .string (bst backT)] 9 (0, 0)) := by
          simp [World.setCell, Array.getElem?_modify, hb]; rfl
        rw [HL1.out.1]
        unfold d1T
        rw [if_pos (by rw [← HL1.out.2]; exact hb1), ← HNT.out]
        exact ⟨rfl, .inr ⟨g, 2, _, rfl, hgW, hb', Nat.le_refl _, by unfold maxLen; omega, rfl, rfl⟩⟩, Ext.setCell S2.out.1 hgW _⟩)
      clear hb1 hb hB0
      go_wp2_with fail
      go_meet
      case rel => exact HF
    · have q1 : (BD == 1) = false := beq_eq_false_iff_ne.2 hb1
      have HF := Lib.hid (show SO W.heap.size W2 (.slice (some ⟨g, 0, none⟩) 2 2) L1 ∧ Ext W W2 from ⟨by
        rw [HL1.out.1]
        unfold d1T
        rw [if_neg (by rw [← HL1.out.2]; exact hb1), ← HNT.out]
        exact ⟨rfl, .inr ⟨g, 2, _, rfl, hgW, S2.out.2, Nat.le_refl _, by unfold maxLen; omega, rfl, rfl⟩⟩, S2.out.1⟩)
      clear hb1 hB0
      go_wp2_with fail
      go_meet
      case rel => exact HF
  case rest =>
    have hlen : (d1T a l).length ≤ 2 ∧ (d2T a l).length ≤ 3 ∧ (d3T a l).length ≤ 1004 ∧ (d4T a l).length ≤ 1005 := by
      have h1 : (d1T a l).length = 2 := rfl
      have h2 : (d2T a l).length ≤ 3 := by unfold d2T; rw [List.length_append, h1]; split <;> simp
      have h3 : (d3T a l).length ≤ 1004 := by
        unfold d3T; rw [List.length_append]
        split
        · simp; omega
        · rw [List.length_cons, List.length_map, ← Hun.out]; omega
      have h4 : (d4T a l).length ≤ 1005 := by
        unfold d4T; rw [List.length_append]
        split
        · simp; omega
        · simp; omega
      omega
    have HLen := Lib.hid hlen
    clear hlen
    have R1 := hcut
    clear hcut
    obtain ⟨wq1, hwq⟩ : ∃ wq, wq = wc := ⟨_, rfl⟩
    subst hwq
    have hown := R1.out.1
    unfold SO at hown
    obtain ⟨m1, hm⟩ : ∃ m, m = L1.length := ⟨_, rfl⟩
    rw [← hm] at hown
    obtain ⟨al1, cl1, rfl, _⟩ := own_slice hown
    have HO1 := Lib.hid hown
    have Hm1 := Lib.hid hm
    have hm91 : m1 ≤ 100000 := by rw [hm, HL1.out.1]; have := HLen.out; omega
    clear hown hm
    obtain ⟨NW, hNW⟩ : ∃ NW, NW = l.new := ⟨_, rfl⟩
    obtain ⟨L2, hL2⟩ : ∃ L2, L2 = d2T a l := ⟨_, rfl⟩
    have HL2 := Lib.hid (And.intro hL2 hNW)
    have cc1 := (HB.out.ext R1.out.2).c1
    rw [← hNW] at cc1
    clear hNW hL2
    go_upto_if 17 with fail
    go_cut [5] from 8 to 50 (fun p wx => Hid (SO W.heap.size wx p L2 ∧ Ext W wx))
    case first =>
      cases hN : NW with
      | true =>
        have HE := Lib.hid (show L2 = L1 ++ [newT] by rw [HL2.out.1, HL1.out.1]; unfold d2T; rw [← HL2.out.2, hN, if_pos rfl])
        clear hN
        go_wp2_with (at_builtin; refine app_k ekS rfl _ _ rfl W.heap.size _ m1 (L1.map sc) rfl (own_extk HO1.out ((Ext.refl _).alloc _)) _ 1 [sc newT] rfl (sc_ck _ newT) (Ks.sc [newT]) ?ca1 ?ca2 ?ca3 ?_)
        case ca1 => simp; omega
        case ca2 => simp; omega
        case ca3 => have h1 := R1.out.2.size; simp; omega
        intro v5 w5 hown hgr
        have HNx := Lib.hid (show SO W.heap.size w5 v5 L2 ∧ Ext W w5 from ⟨by unfold SO; rw [HE.out, List.length_append, List.map_append, ← Hm1.out]; simpa using hown, Ext.grown (R1.out.2.trans ((Ext.refl _).alloc _)) hgr fun j hj => (HO1.out.lt j hj).1⟩)
        clear hown hgr
        go_wp2_with fail
        go_meet
        case rel => exact HNx
      | false =>
        have HE := Lib.hid (show L2 = L1 by rw [HL2.out.1, HL1.out.1]; unfold d2T; rw [← HL2.out.2, hN, if_neg (by decide), List.append_nil])
        have HNx := Lib.hid (show SO W.heap.size wq1 (.slice al1 m1 cl1) L2 ∧ Ext W wq1 from ⟨by rw [HE.out]; exact R1.out.1, R1.out.2⟩)
        clear hN
        go_wp2_with fail
        go_meet
        case rel => exact HNx
    case rest =>
      have R2 := hcut
      clear hcut
      obtain ⟨wq2, hwq⟩ : ∃ wq, wq = wc := ⟨_, rfl⟩
      subst hwq
      have hown := R2.out.1
      unfold SO at hown
      obtain ⟨m2, hm⟩ : ∃ m, m = L2.length := ⟨_, rfl⟩
      rw [← hm] at hown
      obtain ⟨al2, cl2, rfl, _⟩ := own_slice hown
      have HO2 := Lib.hid hown
      have Hm2 := Lib.hid hm
      have hm92 : m2 ≤ 100000 := by rw [hm, HL2.out.1]; have := HLen.out; omega
      clear hown hm
      obtain ⟨L3, hL3⟩ : ∃ L3, L3 = d3T a l := ⟨_, rfl⟩
      have HL3 := Lib.hid (And.intro hL3 trivial)
      have cc1 := (HB.out.ext R2.out.2).c2
      clear hL3
      go_upto_if 24 with fail
      go_cut [5] from 8 to 50 (fun p wx => Hid (SO W.heap.size wx p L3 ∧ Ext W wx))
      case first =>
        by_cases hN : 0 < un
        · have HE := Lib.hid (show L3 = L2 ++ throughT :: l.thr.map nameT by rw [HL3.out.1, HL2.out.1]; unfold d3T; rw [if_neg (fun e => by have := Hun.out; rw [e] at this; simp at this; omega)])
          have e1 : (0 : Int) < un := by omega
          go_wp2_with fail
          refine (HNs.out wq2 (XW.out.trans R2.out.2)).mono ?_
          rintro e w4 ⟨vN, rfl, hso, x4⟩
          have X4 := Lib.hid (R2.out.2.trans x4)
          have HO4 := Lib.hid (own_extk HO2.out x4)
          obtain ⟨cN, hcN⟩ := hso.ck
          obtain ⟨Z, hZ⟩ : ∃ Z, Z = throughT :: l.thr.map nameT := ⟨_, rfl⟩
          have hZn : Z.length = un + 1 := by rw [hZ, List.length_cons, List.length_map, Hun.out]
          rw [← hZ] at HE hcN
          have HZ := Lib.hid (And.intro hcN hZn)
          obtain ⟨aN, nN, rfl, hnN⟩ : ∃ aN nN, vN = .slice aN nN cN ∧ nN = un + 1 := by obtain ⟨ao, e1, _⟩ := hcN; exact ⟨ao, _, e1, by rw [List.length_map, hZn]⟩
          clear hso hcN hZ hZn x4 hnN
          go_wp2_with (at_builtin; refine app_k ekS rfl _ _ rfl W.heap.size _ m2 (L2.map sc) rfl HO4.out _ cN (Z.map sc) rfl HZ.out.1 (Ks.sc Z) ?cb1 ?cb2 ?cb3 ?_)
          case cb1 => rw [List.length_map, HZ.out.2]; omega
          case cb2 => rw [List.length_map, HZ.out.2]; omega
          case cb3 => exact X4.out.size
          intro v5 w5 hown hgr
          have HNx := Lib.hid (show SO W.heap.size w5 v5 L3 ∧ Ext W w5 from ⟨by unfold SO; rw [HE.out, List.length_append, List.map_append, ← Hm2.out]; simpa using hown, Ext.grown X4.out hgr fun j hj => (HO4.out.lt j hj).1⟩)
          clear hown hgr
          go_wp2_with fail
          go_meet
          case rel => exact HNx
        · have HE := Lib.hid (show L3 = L2 by rw [HL3.out.1, HL2.out.1]; unfold d3T; rw [if_pos (List.eq_nil_of_length_eq_zero (by have := Hun.out; omega)), List.append_nil])
          have e1 : ¬ (0 : Int) < un := by omega
          have HNx := Lib.hid (show SO W.heap.size wq2 (.slice al2 m2 cl2) L3 ∧ Ext W wq2 from ⟨by rw [HE.out]; exact R2.out.1, R2.out.2⟩)
          go_wp2_with fail
          go_meet
          case rel => exact HNx
      case rest =>
        have R3 := hcut
        clear hcut
        obtain ⟨wq3, hwq⟩ : ∃ wq, wq = wc := ⟨_, rfl⟩
        subst hwq
        have hown := R3.out.1
        unfold SO at hown
        obtain ⟨m3, hm⟩ : ∃ m, m = L3.length := ⟨_, rfl⟩
        rw [← hm] at hown
        obtain ⟨al3, cl3, rfl, _⟩ := own_slice hown
        have HO3 := Lib.hid hown
        have Hm3 := Lib.hid hm
        have hm93 : m3 ≤ 100000 := by rw [hm, HL3.out.1]; have := HLen.out; omega
        clear hown hm
        obtain ⟨L4, hL4⟩ : ∃ L4, L4 = d4T a l := ⟨_, rfl⟩
        have HL4 := Lib.hid (And.intro hL4 trivial)
        have cc1 := (HB.out.ext R3.out.2).c3
        clear hL4
        go_upto_if 33 with fail
        go_cut [5] from 8 to 50 (fun p wx => Hid (SO W.heap.size wx p L4 ∧ Ext W wx))
        case first =>
          by_cases hN : 0 < vn
          · have HE := Lib.hid (show L4 = L3 ++ [pastT] by rw [HL4.out.1, HL3.out.1]; unfold d4T; rw [if_neg (fun e => by have := Hvn.out; rw [e] at this; simp at this; omega)])
            have e1 : (0 : Int) < vn := by omega
            go_wp2_with (at_builtin; refine app_k ekS rfl _ _ rfl W.heap.size _ m3 (L3.map sc) rfl (own_extk HO3.out ((Ext.refl _).alloc _)) _ 1 [sc pastT] rfl (sc_ck _ pastT) (Ks.sc [pastT]) ?cc1 ?cc2 ?cc3 ?_)
            case cc1 => simp; omega
            case cc2 => simp; omega
            case cc3 => have h1 := R3.out.2.size; simp; omega
            intro v5 w5 hown hgr
            have HNx := Lib.hid (show SO W.heap.size w5 v5 L4 ∧ Ext W w5 from ⟨by unfold SO; rw [HE.out, List.length_append, List.map_append, ← Hm3.out]; simpa using hown, Ext.grown (R3.out.2.trans ((Ext.refl _).alloc _)) hgr fun j hj => (HO3.out.lt j hj).1⟩)
            clear hown hgr
            go_wp2_with fail
            go_meet
            case rel => exact HNx
          · have HE := Lib.hid (show L4 = L3 by rw [HL4.out.1, HL3.out.1]; unfold d4T; rw [if_pos (List.eq_nil_of_length_eq_zero (by have := Hvn.out; omega)), List.append_nil])
            have e1 : ¬ (0 : Int) < vn := by omega
            have HNx := Lib.hid (show SO W.heap.size wq3 (.slice al3 m3 cl3) L4 ∧ Ext W wq3 from ⟨by rw [HE.out]; exact R3.out.1, R3.out.2⟩)
            go_wp2_with fail
            go_meet
            case rel => exact HNx
        case rest =>
          have R4 := hcut
          clear hcut
          obtain ⟨wq4, hwq⟩ : ∃ wq, wq = wc := ⟨_, rfl⟩
          subst hwq
          have hown := R4.out.1
          unfold SO at hown
          obtain ⟨m4, hm⟩ : ∃ m, m = L4.length := ⟨_, rfl⟩
          rw [← hm] at hown
          obtain ⟨al4, cl4, rfl, _⟩ := own_slice hown
          have HO4 := Lib.hid hown
          have Hm4 := Lib.hid hm
          have hm94 : m4 ≤ 100000 := by rw [hm, HL4.out.1]; have := HLen.out; omega
          clear hown hm
          have cc1 := (HB.out.ext R4.out.2).c3
          obtain ⟨U, hU⟩ : ∃ U : Nat → List (List UInt8), U = fun k => L4 ++ (l.past.take k).map passT := ⟨_, rfl⟩
          have HU0 := Lib.hid (show U 0 = L4 by rw [hU]; simp)
          have HUl := Lib.hid (show ∀ k, k ≤ vn → (U k).length = m4 + k from fun k hk => by rw [hU]; have := Hvn.out; dsimp only; rw [List.length_append, ← Hm4.out, List.length_map, List.length_take]; omega)
          have HUs := Lib.hid (show ∀ k, k < vn → U (k + 1) = U k ++ [passT (qi l.past k)] from fun k hk => by rw [hU]; have := Hvn.out; dsimp only; rw [qi_of (by omega), List.take_succ_eq_append_getElem (by omega), List.map_append, List.append_assoc]; rfl)
          have HUE := Lib.hid (show R = U vn by rw [HR.out, hU]; dsimp only; rw [Hvn.out, List.take_length, HL4.out.1]; rfl)
          clear hU
          go_wp2
          clear cc1
          go_loopg [5, 7, 40] vn (fun gk r _ i wr => ∃ k : Nat, k + gk = vn ∧ i = .int .i64 k ∧ Hid (Ext W wr ∧ SO W.heap.size wr r (U k)))
          case atStart => exact ⟨0, by omega, rfl, Lib.hid ⟨R4.out.2, by rw [HU0.out]; exact R4.out.1⟩⟩
          case round =>
            obtain ⟨k, hk, rfl, G⟩ := hrel
            have hown := G.out.2
            unfold SO at hown
            rw [HUl.out k (by omega)] at hown
            obtain ⟨ar, cr, rfl, _⟩ := own_slice hown
            have HO := Lib.hid hown
            clear hown
            by_cases hlt : k < vn
            · obtain ⟨⟨b', o', rfl, hA⟩, hIn⟩ := Hv.out k hlt
              have e1 : (k : Int) < vn := by omega
              have e2 : (0 : Int) ≤ k := by omega
              obtain ⟨c0, c1, c2, c3⟩ := hA.ext (XW.out.trans G.out.1)
              have hus := HUs.out k hlt
              have hul := HUl.out (k + 1) (by omega)
              obtain ⟨p, hp⟩ : ∃ p, p = qi l.past k := ⟨_, rfl⟩
              rw [← hp] at c0 c1 c2 c3 hIn hus
              obtain ⟨W3, hW3⟩ : ∃ W3, W3 = wr.alloc (.cells #[.int .u8 p.id.y, .int .i64 p.id.n, .bool p.f, .int .u8 p.d] 50) := ⟨_, rfl⟩
              have z3 : Ext wr W3 := by rw [hW3]; exact (Ext.refl _).alloc _
              have X3 := Lib.hid (G.out.1.trans z3)
              have Z3 := Lib.hid z3
              have HPs := Lib.hid (Pass_calls p W3 (HT.out.ext (XW.out.trans X3.out)) hIn)
              unfold Ps.val at HPs
              have HW3 := Lib.hid hW3; have HU := Lib.hid (And.intro hus hul)
              clear hW3 hp hIn hA z3 hus hul
              go_wp2_with fail
              rw [← HW3.out]
              clear c0 c1 c2 c3
              refine HPs.out.mono ?_
              rintro e w4 ⟨rfl, x4⟩
              have X4 := Lib.hid (X3.out.trans x4)
              have HO4 := Lib.hid (own_extk HO.out (Z3.out.trans x4))
              obtain ⟨PT, hPT⟩ : ∃ PT, PT = passT p := ⟨_, rfl⟩
              rw [← hPT] at HU ⊢
              clear x4 hPT HPs
              go_wp2_with (at_builtin; refine app_k ekS rfl _ _ rfl W.heap.size _ (m4 + k) ((U k).map sc) rfl (own_extk HO4.out ((Ext.refl _).alloc _)) _ 1 [sc PT] rfl (sc_ck _ PT) (Ks.sc [PT]) ?cd1 ?cd2 ?cd3 ?_)
              case cd1 => simp; omega
              case cd2 => simp; omega
              case cd3 => have h1 := X4.out.size; simp; omega
              intro v5 w5 hown hgr
              have HNx := Lib.hid (show Ext W w5 ∧ SO W.heap.size w5 v5 (U (k + 1)) from ⟨Ext.grown (X4.out.trans ((Ext.refl _).alloc _)) hgr fun j hj => (HO4.out.lt j hj).1, by unfold SO; rw [HU.out.2, HU.out.1, List.map_append]; simpa [Nat.add_assoc] using hown⟩)
              clear hown hgr
              go_wp2
              go_roundg (vn - (k + 1))
              case measure => omega
              case rel => exact ⟨k + 1, by omega, by go_num, HNx⟩
            · obtain rfl : k = vn := by omega
              have e1 : ¬ (k : Int) < k := by omega
              go_wp2
              go_ret
              exact ⟨_, rfl, by rw [HUE.out]; exact SO.le G.out.2 (by have := XW.out.size; omega), XW.out.trans G.out.1⟩
end Go.Proofs.YtlhkehfplcclgaaDoor
