/- Texts of this claim in one file: libraries and walks. -/
import Derived.Test.YtlmkcojimhbmiaaL4
import Derived.Test.YtlmkcojimhbmiaaL10
/- motifs.small, good. -/
namespace Go.Proofs.Ytlmkcojimhbmiaa
set_option linter.unusedVariables false
set_option linter.unusedSimpArgs false
set_option maxRecDepth 8000
open Go Go.RowKit

set_option maxHeartbeats 2000000 in
theorem MSmall_calls (v : Value) (c : Nat) (bs : List (List (List St))) (w : World) (h : BB w v c bs) : Calls Try.prog 31 #[v] w fun e w' => e = .returned (.bool (smallB bs)) ∧ Ext w w' := by
  obtain ⟨ao, n, rfl, hn, hc, hcm, hat⟩ := h.open
  unfold maxLen at hcm
  have hbad := fun k (hk : k < n) => smallB_bad (bs := bs) (k := k) (by omega)
  have hok := fun (h : ∀ k, k < n → big (bw bs k) = false) => smallB_ok (bs := bs) (fun k hk => h k (by omega))
  obtain ⟨S, hS⟩ : ∃ S, S = smallB bs := ⟨_, rfl⟩
  rw [← hS] at hbad hok ⊢
  have HA := Lib.hid hat; have HBad := Lib.hid hbad; have HOk := Lib.hid hok
  clear hat h hn hS hbad hok
  go_enter Try.func31, Try.ntmps31
  go_wp2
  go_loopw [4, 6, 9] (fun _ _ i wr => ∃ k : Nat, k ≤ n ∧ i = .int .i64 k ∧ Hid (Ext w wr) ∧ Hid (∀ j, j < k → big (bw bs j) = false)) (fun _ _ i _ => n - (intOf i).toNat)
  case atStart => exact ⟨0, Nat.zero_le _, rfl, Lib.hid (Ext.refl _), Lib.hid (fun j hj => by omega)⟩
  case round =>
    obtain ⟨k, hk, rfl, HX, HG⟩ := hrel
    by_cases hlt : k < n
    · obtain ⟨b, o, a, m, d, rfl, y1, y2, y3⟩ := HA.out k hlt
      replace y1 := HX.out.cell y1
      have t1 : (k : Int) < n := by omega
      obtain ⟨C, hC⟩ : ∃ C, C = bw bs k := ⟨_, rfl⟩
      rw [← hC] at y2 y3
      have HBk := Lib.hid (HBad.out k hlt)
      rw [← hC] at HBk
      obtain ⟨a2, m2, e1, e2, e3, e4, e5⟩ := y3.open
      simp only [Value.slice.injEq] at e1
      obtain ⟨rfl, rfl, _⟩ := e1
      unfold maxLen at e4
      have HR := Lib.hid e5; have Hm := Lib.hid y2; have HCC := Lib.hid hC
      have XB := Lib.hid (HX.out.alloc (.cells #[.slice a m d] 24))
      clear y2 y3 e2 e5 hC
      by_cases h31 : 31 < m
      · have hS := HBk.out (big_long (by rw [← Hm.out]; exact h31))
        have t2 : (31 : Int) < m := by omega
        subst hS
        clear h31
        go_wp2
        go_ret
        exact ⟨rfl, XB.out⟩
      · have t2 : ¬ (31 : Int) < m := by omega
        clear h31
        go_wp2
        clear y1
        go_loopw [6, 20] (fun _ i wr => ∃ j : Nat, j ≤ m ∧ i = .int .i64 j ∧ Hid (Ext w wr) ∧ Hid (∀ i, i < j → (sw C i).length ≤ 16)) (fun _ i _ => m - (intOf i).toNat)
        case atStart => exact ⟨0, Nat.zero_le _, rfl, XB, Lib.hid (fun j hj => by omega)⟩
        case round =>
          obtain ⟨j, hj, rfl, HX2, HG2⟩ := hrel
          by_cases hlt2 : j < m
          · obtain ⟨b', o', a', m', d', rfl, z1, z2⟩ := HR.out j hlt2
            replace z1 := HX2.out.cell z1
            have t3 : (j : Int) < m := by omega
            obtain ⟨_, _, f1, f2, _, _, _⟩ := z2.open
            simp only [Value.slice.injEq] at f1
            obtain ⟨rfl, rfl, _⟩ := f1
            have Hl := Lib.hid f2
            clear z2 f2
            by_cases h16 : 16 < m'
            · have hS := HBk.out (big_row (i := j) (by rw [← Hm.out]; exact hlt2) (by rw [← Hl.out]; exact h16))
              have t4 : (16 : Int) < m' := by omega
              subst hS
              clear h16
              go_wp2
              go_ret
              exact ⟨rfl, HX2.out⟩
            · have t4 : ¬ (16 : Int) < m' := by omega
              have HG3 := Lib.hid (show ∀ i, i < j + 1 → (sw C i).length ≤ 16 from fun i hi => by
                by_cases e : i = j
                · rw [e, ← Hl.out]; omega
                · exact HG2.out i (by omega))
              clear h16
              go_wp2
              go_roundw
              case rel => exact ⟨j + 1, by omega, by go_num, HX2, HG3⟩
              case measure => simp [intOf]; omega
          · obtain rfl : m = j := by omega
            have HG3 := Lib.hid (show ∀ j, j < k + 1 → big (bw bs j) = false from fun j hj => by
              by_cases e : j = k
              · rw [e, ← HCC.out]; exact big_no (by rw [← Hm.out]; omega) (fun i hi => HG2.out i (by rw [Hm.out]; exact hi))
              · exact HG.out j (by omega))
            go_wp2
            go_roundw
            case rel => exact ⟨k + 1, by omega, by go_num, HX2, HG3⟩
            case measure => simp [intOf]; omega
    · obtain rfl : n = k := by omega
      have hS := HOk.out HG.out
      subst hS
      go_wp2
      go_ret
      exact ⟨rfl, HX.out⟩
set_option maxHeartbeats 4000000 in
theorem MGood_calls (v : Value) (c : Nat) (bs : List (List (List St))) (w : World) (h : BB w v c bs) : Calls Try.prog 32 #[v] w fun e w' => e = .returned (.bool (goodB bs)) ∧ Ext w w' := by
  obtain ⟨ao, n, rfl, hn, hc, hcm, hat⟩ := h.open
  unfold maxLen at hcm
  have hbad := fun k i j (hk : k < n) => goodB_bad (bs := bs) (k := k) (i := i) (j := j) (by omega)
  have hok := fun (h : ∀ k, k < n → ∀ i, i < (bw bs k).length → ∀ j, j < (sw (bw bs k) i).length → (si (sw (bw bs k) i) j).chk = 0) => goodB_ok (bs := bs) (fun k hk => h k (by omega))
  have hcs := fun s w' => SCheck_calls s w'
  obtain ⟨S, hS⟩ : ∃ S, S = goodB bs := ⟨_, rfl⟩
  rw [← hS] at hbad hok ⊢
  have HA := Lib.hid hat; have HBad := Lib.hid hbad; have HOk := Lib.hid hok; have HCs := Lib.hid hcs
  clear hat h hn hS hbad hok hcs
  go_enter Try.func32, Try.ntmps32
  go_wp2
  go_loopw [4, 6, 8, 11] (fun _ _ _ i wr => ∃ k : Nat, k ≤ n ∧ i = .int .i64 k ∧ Hid (Ext w wr) ∧ Hid (∀ k', k' < k → ∀ i, i < (bw bs k').length → ∀ j, j < (sw (bw bs k') i).length → (si (sw (bw bs k') i) j).chk = 0)) (fun _ _ _ i _ => n - (intOf i).toNat)
  case atStart => exact ⟨0, Nat.zero_le _, rfl, Lib.hid (Ext.refl _), Lib.hid (fun j hj => by omega)⟩
  case round =>
    obtain ⟨k, hk, rfl, HX, HG⟩ := hrel
    by_cases hlt : k < n
    · obtain ⟨b, o, a, m, d, rfl, y1, y2, y3⟩ := HA.out k hlt
      replace y1 := HX.out.cell y1
      have t1 : (k : Int) < n := by omega
      have HBk := Lib.hid (fun i j => HBad.out k i j hlt)
      obtain ⟨C, hC⟩ : ∃ C, C = bw bs k := ⟨_, rfl⟩
      rw [← hC] at y2 y3 HBk
      obtain ⟨a2, m2, e1, e2, e3, e4, e5⟩ := y3.open
      simp only [Value.slice.injEq] at e1
      obtain ⟨rfl, rfl, _⟩ := e1
      unfold maxLen at e4
      have HR := Lib.hid e5; have Hm := Lib.hid y2; have HCC := Lib.hid hC
      have XB := Lib.hid (HX.out.alloc (.cells #[.slice a m d] 24))
      clear y2 y3 e2 e5 hC
      go_wp2
      clear y1
      go_loopw [6, 8, 18] (fun _ _ i wr => ∃ j : Nat, j ≤ m ∧ i = .int .i64 j ∧ Hid (Ext w wr) ∧ Hid (∀ i, i < j → ∀ j, j < (sw C i).length → (si (sw C i) j).chk = 0)) (fun _ _ i _ => m - (intOf i).toNat)
      case atStart => exact ⟨0, Nat.zero_le _, rfl, XB, Lib.hid (fun j hj => by omega)⟩
      case round =>
        obtain ⟨j, hj, rfl, HX2, HG2⟩ := hrel
        by_cases hlt2 : j < m
        · obtain ⟨b', o', a', m', d', rfl, z1, z2⟩ := HR.out j hlt2
          replace z1 := HX2.out.cell z1
          have t3 : (j : Int) < m := by omega
          obtain ⟨L, hL⟩ : ∃ L, L = sw C j := ⟨_, rfl⟩
          have HBj := Lib.hid (fun i => HBk.out j i (by rw [← Hm.out]; exact hlt2))
          rw [← hL] at z2 HBj
          obtain ⟨_, _, f1, f2, f3, f4, f5⟩ := z2.open
          simp only [Value.slice.injEq] at f1
          obtain ⟨rfl, rfl, _⟩ := f1
          unfold maxLen at f4
          have Hl := Lib.hid f2; have HLs := Lib.hid f5; have HLL := Lib.hid hL
          clear z2 f2 f5 hL
          go_wp2
          clear z1
          go_loopw [8, 24] (fun _ i wr => ∃ q : Nat, q ≤ m' ∧ i = .int .i64 q ∧ Hid (Ext w wr) ∧ Hid (∀ i, i < q → (si L i).chk = 0)) (fun _ i _ => m' - (intOf i).toNat)
          case atStart => exact ⟨0, Nat.zero_le _, rfl, HX2, Lib.hid (fun j hj => by omega)⟩
          case round =>
            obtain ⟨q, hq, rfl, HX3, HG3⟩ := hrel
            by_cases hlt3 : q < m'
            · obtain ⟨b3, o3, rfl, h5⟩ := HLs.out q hlt3
              obtain ⟨u0, u1, u2, u3, u4⟩ := h5.ext HX3.out
              have t5 : (q : Int) < m' := by omega
              have HBq := Lib.hid (HBj.out q (by rw [← Hl.out]; exact hlt3))
              obtain ⟨s, hs⟩ : ∃ s, s = si L q := ⟨_, rfl⟩
              rw [← hs] at u0 u1 u2 u3 u4 HBq
              have Hs := Lib.hid hs
              have hcc := St.chk_cases s
              obtain ⟨W3, hW3⟩ : ∃ W3, W3 = wr.alloc (.cells #[.int .u8 s.k, .int .u8 s.y, .int .i64 s.a, .int .i64 s.b, .bool s.f] 67) := ⟨_, rfl⟩
              have X3 := Lib.hid (show Ext wr W3 by rw [hW3]; exact (Ext.refl wr).alloc _)
              have HW3 := Lib.hid hW3
              have HC := Lib.hid (HCs.out s W3)
              unfold St.val at HC
              obtain ⟨E, hE⟩ : ∃ E, E = s.chk := ⟨_, rfl⟩
              rw [← hE] at HC HBq hcc
              have HE := Lib.hid hE
              clear hs h5 hW3 hE
              go_wp2_with fail
              rw [← HW3.out]
              refine HC.out.mono ?_
              rintro e w4 ⟨rfl, x4⟩
              have X4 := Lib.hid (HX3.out.trans (X3.out.trans x4))
              clear x4 HC u0 u1 u2 u3 u4
              rcases hcc with rfl | rfl
              · have HG4 := Lib.hid (show ∀ i, i < q + 1 → (si L i).chk = 0 from fun i hi => by
                  by_cases e : i = q
                  · rw [e, ← Hs.out, ← HE.out]
                  · exact HG3.out i (by omega))
                go_wp2
                go_roundw
                case rel => exact ⟨q + 1, by omega, by go_num, X4, HG4⟩
                case measure => simp [intOf]; omega
              · have hS := HBq.out (by decide)
                subst hS
                go_wp2
                go_ret
                exact ⟨rfl, X4.out⟩
            · obtain rfl : m' = q := by omega
              have HG4 := Lib.hid (show ∀ i, i < j + 1 → ∀ j, j < (sw C i).length → (si (sw C i) j).chk = 0 from fun i hi => by
                by_cases e : i = j
                · rw [e, ← HLL.out]; exact fun i hi => HG3.out i (by rw [Hl.out]; exact hi)
                · exact HG2.out i (by omega))
              go_wp2
              go_roundw
              case rel => exact ⟨j + 1, by omega, by go_num, HX3, HG4⟩
              case measure => simp [intOf]; omega
        · obtain rfl : m = j := by omega
          have HG3 := Lib.hid (show ∀ k', k' < k + 1 → ∀ i, i < (bw bs k').length → ∀ j, j < (sw (bw bs k') i).length → (si (sw (bw bs k') i) j).chk = 0 from fun k' hk' => by
            by_cases e : k' = k
            · rw [e, ← HCC.out]; exact fun i hi => HG2.out i (by rw [Hm.out]; exact hi)
            · exact HG.out k' (by omega))
          go_wp2
          go_roundw
          case rel => exact ⟨k + 1, by omega, by go_num, HX2, HG3⟩
          case measure => simp [intOf]; omega
    · obtain rfl : n = k := by omega
      have hS := HOk.out HG.out
      subst hS
      go_wp2
      go_ret
      exact ⟨rfl, HX.out⟩
end Go.Proofs.Ytlmkcojimhbmiaa
/- motifs.Above. -/
namespace Go.Proofs.Ytlmkcojimhbmiaa
set_option linter.unusedVariables false
set_option linter.unusedSimpArgs false
set_option maxRecDepth 8000
open Go Go.RowKit

def aboE (bs : List (List (List St))) : Int := if 64 < bs.length ∨ smallB bs = false then 3 else if 31 < bs.flatten.length then 3 else 0
def aboR (bs : List (List (List St))) : List (List St) := if aboE bs = 0 then bs.flatten else []
theorem RR.one {w : World} {g : Nat} {u : Value} {c : Nat} {l : List St} (hb : w.heap[g]? = some (Obj.cells #[u] 59 (0, 0))) (h : RS w u c l) : RR w (.slice (some ⟨g, 0, none⟩) 1 1) 1 [l] := by
  refine ⟨_, fun _ => u, fun _ => c, rfl, Nat.le_refl _, by unfold maxLen; omega, .inr ⟨g, 0, rfl, fun i hi => ?_⟩, fun i hi => ?_⟩
  · obtain rfl : i = 0 := by simpa using hi
    simp [World.cell?, hb]
  · obtain rfl : i = 0 := by simpa using hi
    simpa [sw] using h
/-- 'rows = append(rows, row)' within the capacity. -/
theorem app_row_fit {w : World} {ops : Array Oper} {rest : List Oper} {o : Oper} {a : Act} {Q : Exit → Act → World → Prop}
    (hg : o.guard = Option.none) (s x : Operand) (hop : o.op = Op.call { callee := Callee.builtin Builtin.append, args := #[s, x], argTypes := #[22, 22] })
    (wb : World) (R n H : Nat) (rows : List (List St)) (hs : a.eval s = .slice (some ⟨R, 0, none⟩) n H) (hn : n = rows.length) (hco : CO wb w (.slice (some ⟨R, 0, none⟩) n H) rows) (u : Value) (l : List St) (hu : RV w u l)
    (g : Nat) (hx : a.eval x = .slice (some ⟨g, 0, Option.none⟩) 1 1) (hgw : g = w.heap.size) (hfit : n + 1 ≤ H)
    (hK : ∀ w', CO wb w' (.slice (some ⟨R, 0, none⟩) (n + 1) H) (rows ++ [l]) → wpList Try.prog ops Q rest (a.put o.dst (.slice (some ⟨R, 0, none⟩) (n + 1) H)) w') :
    wpList Try.prog ops Q (o :: rest) a (w.alloc (.cells #[u] 59)) := by
  obtain ⟨h1, vs, h2, h3⟩ := hco
  subst hgw hn
  have hvl : vs.length = rows.length := by have := h2.1; omega
  have h1u : ∀ y ∈ [u], y.oneCell' = true := by
    intro y hy
    obtain rfl := List.mem_singleton.1 hy
    obtain ⟨a', n', c', rfl, _⟩ := hu.form
    rfl
  have xa : Ext w (w.alloc (.cells #[u] 59)) := (Ext.refl w).alloc _
  refine app_fits_g eiRows hg s x hop wb.heap.size R rows.length H vs hs (own_ext h2 xa) _ 1 [u] hx (VS.one _ _ _) h1u hfit ?_
  intro w' ho hgr
  refine hK w' ⟨?_, vs ++ [u], by simpa using ho, fun i hi => ?_⟩
  · refine (h1.trans xa).grown hgr fun k hk => ?_
    obtain ⟨_, ⟨hv, _⟩ | ⟨g', cap, cur, hv, hBg, _⟩⟩ := h2
    · cases hv
    · simp only [Value.slice.injEq, Option.some.injEq, Addr.mk.injEq] at hv
      obtain ⟨⟨rfl, _⟩, _, _⟩ := hv
      have : R = k := by simpa [Value.ownBlock] using hk
      omega
  · have ho2 := own_ext h2 xa
    rw [List.length_append, List.length_singleton] at hi
    by_cases e : i < rows.length
    · obtain ⟨u', a', b⟩ := h3 i e
      refine ⟨u', by rw [List.getElem?_append_left (by omega)]; exact a', ?_⟩
      rw [sw_app rows l e]
      exact (b.ext xa).grown ho2 hgr (by decide)
    · have e' : i = rows.length := by omega
      refine ⟨u, by rw [e', List.getElem?_append_right (by omega)]; simp [hvl], ?_⟩
      rw [e', sw_new]
      exact (hu.ext xa).grown ho2 hgr (by decide)
def preB (bs : List (List (List St))) (k j : Nat) : List (List St) := (bs.take k).flatten ++ (bw bs k).take j
theorem preB_row {bs : List (List (List St))} {k j : Nat} (h : j < (bw bs k).length) : preB bs k (j + 1) = preB bs k j ++ [sw (bw bs k) j] := by
  unfold preB; rw [take_succ_sw h, List.append_assoc]
theorem preB_next {bs : List (List (List St))} {k : Nat} (h : k < bs.length) : preB bs (k + 1) 0 = preB bs k (bw bs k).length := by
  unfold preB; rw [take_succ_bw h]; simp
theorem preB_all {bs : List (List (List St))} : preB bs bs.length 0 = bs.flatten := by unfold preB; simp
theorem preB_le {bs : List (List (List St))} {k j : Nat} (h : k ≤ bs.length) : (preB bs k j).length ≤ bs.flatten.length := by
  by_cases e : k < bs.length
  · have h1 : bs = bs.take k ++ bw bs k :: bs.drop (k + 1) := by
      rw [bw_of_lt e]
      conv => lhs; rw [← List.take_append_drop k bs, List.drop_eq_getElem_cons e]
    conv => rhs; rw [h1]
    unfold preB
    simp only [List.length_append, List.flatten_append, List.flatten_cons, List.length_take]
    omega
  · obtain rfl : k = bs.length := by omega
    unfold preB bw
    simp [List.getD]
theorem preB_lt {bs : List (List (List St))} {k j : Nat} (h : k < bs.length) (hj : j < (bw bs k).length) : (preB bs k j).length + 1 ≤ bs.flatten.length := by
  have := preB_le (bs := bs) (k := k) (j := j + 1) (by omega)
  rw [preB_row hj, List.length_append, List.length_singleton] at this
  exact this
theorem smallB_at {bs : List (List (List St))} (h : smallB bs = true) {k : Nat} (hk : k < bs.length) : (bw bs k).length ≤ 31 ∧ ∀ i, i < (bw bs k).length → (sw (bw bs k) i).length ≤ 16 := by
  apply big_bd
  cases e : big (bw bs k)
  · rfl
  · rw [smallB_bad hk e] at h; cases h
set_option maxHeartbeats 8000000 in
theorem Above2_calls (v : Value) (c : Nat) (bs : List (List (List St))) (w : World) (h : BB w v c bs) :
    Calls Try.prog 21 #[v] w (RetCO w (aboR bs) (aboE bs)) := by
  have kS := fun w' (x : Ext w w') => MSmall_calls v c bs w' (h.ext x)
  obtain ⟨ao, n, rfl, hn, hc, hcm, hat⟩ := h.open
  unfold maxLen at hcm
  obtain ⟨W, hW⟩ : ∃ W, W = w.alloc (.cells #[.slice none 0 0] 24) := ⟨_, rfl⟩
  have xW : Ext w W := by rw [hW]; exact (Ext.refl w).alloc _
  have hWs : W.heap.size = w.heap.size + 1 := by rw [hW]; simp
  have hres : W.heap[w.heap.size]? = some (Obj.cells #[.slice none 0 0] 24 (0, 0)) := by rw [hW]; exact blk_at rfl
  have HRes := Lib.hid (fun w' (x : Ext W w') => x.block hres)
  have hbad : aboE bs = 3 → ∀ w', Ext W w' → RetCO w (aboR bs) (aboE bs) (.returned (.tuple #[.agg #[.slice none 0 0], .int .i64 3])) (w'.setCell ⟨w.heap.size, 0, none⟩ (.slice none 0 0)) := fun he w' x => by
    unfold aboR; rw [he, if_neg (by decide)]
    exact ⟨_, rfl, CO.nil ((xW.trans x).setCell (Nat.le_refl _) _), RR.nil _⟩
  have hE : aboE bs = if 64 < n ∨ smallB bs = false then 3 else if 31 < bs.flatten.length then 3 else 0 := by unfold aboE; rw [hn]
  have XW := Lib.hid xW; have HBad := Lib.hid hbad; have HW := Lib.hid hW; have HA := Lib.hid hat; have Hn := Lib.hid hn; have HE := Lib.hid hE; have HWs := Lib.hid hWs
  by_cases h64 : 64 < n
  · have t1 : (64 : Int) < n := by omega
    have hR := HRes.out _ (Ext.refl W)
    have hF := hbad (by rw [hE, if_pos (.inl h64)]) W (Ext.refl _)
    have r3 : (W.setCell ⟨w.heap.size, 0, none⟩ (.slice none 0 0)).cell? ⟨w.heap.size, 0, none⟩ = some (.slice none 0 0) := by simp [World.cell?, blk_one hR _]
    have e0 : W.setCell ⟨w.heap.size, 0, none⟩ (.slice none 0 0) = W := by rw [hW]; simp [go_sem]
    rw [e0, hW] at hF
    have HF := Lib.hid hF
    clear hat h hn hW xW hres hbad hF hE h64 kS hR r3 e0 hWs
    go_enter Try.func21, Try.ntmps21
    go_wp2
    exact bodyPost_ret (v := .tuple #[.agg #[.slice none 0 0], .int .i64 3]) (by simp [results, Try.results21, go_sem]) rfl HF.out
  have t1 : ¬ (64 : Int) < n := by omega
  have hn64 : n ≤ 64 := by omega
  have H64 := Lib.hid h64
  have hsm := fun (h : smallB bs = true) k (hk : k < n) => smallB_at h (k := k) (by omega)
  obtain ⟨S, hS⟩ : ∃ S, S = smallB bs := ⟨_, rfl⟩
  rw [← hS] at kS hE hsm
  have hSf : S = false → aboE bs = 3 := fun h => by rw [hE, if_pos (.inr h)]
  have HS := Lib.hid (kS W xW); have HSf := Lib.hid hSf; have HSm := Lib.hid hsm
  have HE2 := Lib.hid hE
  clear hat h hn hW xW hres hbad hE h64 kS hWs hS hSf hsm
  go_enter Try.func21, Try.ntmps21
  go_wp2_with fail
  rw [← HW.out]
  refine HS.out.mono ?_
  rintro e w1 ⟨rfl, x1⟩
  have X1 := Lib.hid x1
  clear x1 HS
  cases S
  · have hR := HRes.out _ X1.out
    have r1 : w1.cell? ⟨w.heap.size, 0, none⟩ = some (.slice none 0 0) := by simp [World.cell?, hR]
    have r2 : w1.frozen? ⟨w.heap.size, 0, none⟩ = false := by simp [World.frozen?, hR]
    have r3 : (w1.setCell ⟨w.heap.size, 0, none⟩ (.slice none 0 0)).cell? ⟨w.heap.size, 0, none⟩ = some (.slice none 0 0) := by simp [World.cell?, blk_one hR _]
    have HF := Lib.hid (HBad.out (HSf.out rfl) w1 X1.out)
    have R3 := Lib.hid r3
    clear hR r3
    go_wp2
    have r3 := R3.out
    exact bodyPost_ret (v := .tuple #[.agg #[.slice none 0 0], .int .i64 3]) (by simp [results, Try.results21, go_sem, r3]) rfl HF.out
  have HSm2 := Lib.hid (HSm.out rfl)
  have HE3 := Lib.hid (show aboE bs = if 31 < bs.flatten.length then 3 else 0 by rw [HE2.out, if_neg (by rintro (h | h); exact H64.out h; cases h)])
  clear HSm HSf HE2 HE
  go_wp2
  go_loopw [4, 6, 23] (fun x _ i wr => ∃ k q : Nat, k ≤ n ∧ i = .int .i64 k ∧ x = .int .i64 q ∧ Hid (Ext W wr) ∧ Hid (q = (preB bs k 0).length) ∧ q ≤ 31 * k) (fun _ _ i _ => n - (intOf i).toNat)
  case atStart => exact ⟨0, 0, Nat.zero_le _, rfl, rfl, X1, Lib.hid (by simp [preB]), by omega⟩
  case round =>
    obtain ⟨k, q, hk, rfl, rfl, HX, HQ, hq⟩ := hrel
    by_cases hlt : k < n
    · obtain ⟨b, o, a, m, d, rfl, y1, y2, y3⟩ := HA.out k hlt
      replace y1 := (XW.out.trans HX.out).cell y1
      have t3 : (k : Int) < n := by omega
      have hm31 := (HSm2.out k hlt).1
      rw [← y2] at hm31
      have XB := Lib.hid (HX.out.alloc (.cells #[.slice a m d] 24))
      have HQ2 := Lib.hid (show q + m = (preB bs (k + 1) 0).length by
        rw [preB_next (by have := Hn.out; omega), HQ.out, y2]; unfold preB; simp)
      clear y2 y3 HQ
      go_wp2
      go_roundw
      case rel => exact ⟨k + 1, q + m, by omega, by go_num, by go_num, XB, HQ2, by omega⟩
      case measure => simp [intOf]; omega
    · obtain rfl : n = k := by omega
      have hql : q = bs.flatten.length := by rw [HQ.out, Hn.out, preB_all]
      obtain ⟨w2, hw2⟩ : ∃ w2 : World, w2 = wr := ⟨_, rfl⟩
      rw [← hw2] at HX ⊢
      clear hw2 hlt hk HQ
      by_cases h31 : 31 < q
      · have u1 : (31 : Int) < q := by omega
        have hR := HRes.out _ HX.out
        have r1 : w2.cell? ⟨w.heap.size, 0, none⟩ = some (.slice none 0 0) := by simp [World.cell?, hR]
        have r2 : w2.frozen? ⟨w.heap.size, 0, none⟩ = false := by simp [World.frozen?, hR]
        have r3 : (w2.setCell ⟨w.heap.size, 0, none⟩ (.slice none 0 0)).cell? ⟨w.heap.size, 0, none⟩ = some (.slice none 0 0) := by simp [World.cell?, blk_one hR _]
        have HF := Lib.hid (HBad.out (by rw [HE3.out, if_pos (by omega)]) w2 HX.out)
        have R3 := Lib.hid r3
        clear hR r3 hql h31
        go_wp2
        have r3 := R3.out
        exact bodyPost_ret (v := .tuple #[.agg #[.slice none 0 0], .int .i64 3]) (by simp [results, Try.results21, go_sem, r3]) rfl HF.out
      have u1 : ¬ (31 : Int) < q := by omega
      have hq31 : q ≤ 31 := by omega
      have HZ := Lib.hid (show aboE bs = 0 by rw [HE3.out, if_neg (by omega)])
      have hmk := run_make_cap (P := Try.prog) eiRows .i64 .i64 q (by omega) (by omega) w2
      obtain ⟨W4, hW4⟩ : ∃ W4, W4 = w2.alloc (.cells (madeCells #[.slice none 0 0] q) 59) := ⟨_, rfl⟩
      have x4 : Ext w2 W4 := by rw [hW4]; exact (Ext.refl w2).alloc _
      have hrow : W4.rowIs w2.heap.size 59 q (fun _ => .slice none 0 0) := by rw [hW4]; exact World.rowIs_made _ _ _ _
      have hown := own_of_row hrow (Nat.zero_le q) (by unfold maxLen; omega)
      have HCO := Lib.hid (show CO W W4 (.slice (some ⟨w2.heap.size, 0, none⟩) 0 q) [] from ⟨HX.out.trans x4, [], own_base' (by simpa using hown) HX.out.size, fun i hi => by simp at hi⟩)
      have HW4 := Lib.hid hW4; have Hql := Lib.hid hql; have hRs := HX.out.size
      clear hW4 x4 hrow hown hql h31 HE3
      go_wp2
      rw [← HW4.out]
      clear hmk
      obtain ⟨R, hR⟩ : ∃ R, R = w2.heap.size := ⟨_, rfl⟩
      rw [← hR] at HCO hRs ⊢
      clear hR
      go_loopw [7, 9, 11, 40] (fun s _ _ i wr => ∃ k p : Nat, k ≤ n ∧ i = .int .i64 k ∧ s = .slice (some ⟨R, 0, none⟩) p q ∧ Hid (p = (preB bs k 0).length) ∧ Hid (CO W wr (.slice (some ⟨R, 0, none⟩) p q) (preB bs k 0))) (fun _ _ _ i _ => n - (intOf i).toNat)
      case atStart => exact ⟨0, 0, Nat.zero_le _, rfl, rfl, Lib.hid (by simp [preB]), Lib.hid (by simpa [preB] using HCO.out)⟩
      case round =>
        obtain ⟨k, p, hk, rfl, rfl, HP, HC⟩ := hrel
        by_cases hlt : k < n
        · obtain ⟨b, o, a, m, d, rfl, y1, y2, y3⟩ := HA.out k hlt
          replace y1 := (XW.out.trans HC.out.1).cell y1
          have t3 : (k : Int) < n := by omega
          obtain ⟨a2, m2, e1, e2, e3, e4, e5⟩ := y3.open
          simp only [Value.slice.injEq] at e1
          obtain ⟨rfl, rfl, _⟩ := e1
          unfold maxLen at e4
          have HR5 := Lib.hid e5; have Hm := Lib.hid y2
          have hm31 := (HSm2.out k hlt).1
          rw [← y2] at hm31
          have HCB := Lib.hid (HC.out.later ((Ext.refl wr).alloc (.cells #[.slice a m d] 24)))
          clear y2 y3 e2 e5 e3 e4
          go_wp2
          clear y1
          go_loopw [7, 11, 47] (fun s _ i wr => ∃ j p : Nat, j ≤ m ∧ i = .int .i64 j ∧ s = .slice (some ⟨R, 0, none⟩) p q ∧ Hid (p = (preB bs k j).length) ∧ Hid (CO W wr (.slice (some ⟨R, 0, none⟩) p q) (preB bs k j))) (fun _ _ i _ => m - (intOf i).toNat)
          case atStart => exact ⟨0, p, Nat.zero_le _, rfl, rfl, HP, HCB⟩
          case round =>
            obtain ⟨j, p2, hj, rfl, rfl, HP2, HC2⟩ := hrel
            by_cases hlt2 : j < m
            · obtain ⟨b', o', a', m', d', rfl, z1, z2⟩ := HR5.out j hlt2
              have xx := XW.out.trans HC2.out.1
              replace z1 := xx.cell z1
              have t4 : (j : Int) < m := by omega
              have hjm : j < (bw bs k).length := by rw [← Hm.out]; exact hlt2
              have hfit : p2 + 1 ≤ q := by rw [HP2.out, Hql.out]; exact preB_lt (by have := Hn.out; omega) hjm
              have hl16 := (HSm2.out k hlt).2 j hjm
              obtain ⟨W6, hW6⟩ : ∃ W6, W6 = wr.alloc (.cells #[.slice a' m' d'] 59) := ⟨_, rfl⟩
              have x6 : Ext wr W6 := by rw [hW6]; exact (Ext.refl wr).alloc _
              have hj1 := joinS_calls _ _ _ W6 (RR.one (g := wr.heap.size) (l := sw (bw bs k) j) (by rw [hW6]; exact blk_at rfl) (z2.ext (xx.trans x6))) (by simp; omega)
              rw [show [sw (bw bs k) j].flatten = sw (bw bs k) j by simp] at hj1
              have HJ := Lib.hid hj1; have HW6 := Lib.hid hW6; have HC6 := Lib.hid (HC2.out.later x6)
              have HPn := Lib.hid (preB_row hjm)
              clear hW6 x6 hj1 z2 xx hl16 hjm
              go_wp2_with fail
              rw [← HW6.out]
              refine HJ.out.mono ?_
              intro e w7 hh
              obtain ⟨ju, rfl, jv, x7⟩ := hh
              obtain ⟨ja, jn, jc, rfl, hjn⟩ := jv.form
              have HC7 := Lib.hid (HC6.out.later x7); have HJV := Lib.hid jv
              clear jv hjn x7 HJ z1
              go_wp2_with (at_builtin; go_loud (refine app_row_fit rfl _ _ rfl W R p2 q (preB bs k j) rfl HP2.out HC7.out _ _ HJV.out w7.heap.size rfl rfl hfit ?_))
              intro w8 hco
              have HC8 := Lib.hid (show CO W w8 (.slice (some ⟨R, 0, none⟩) (p2 + 1) q) (preB bs k (j + 1)) by rw [HPn.out]; exact hco)
              have HP8 := Lib.hid (show p2 + 1 = (preB bs k (j + 1)).length by rw [HPn.out, List.length_append, ← HP2.out]; rfl)
              clear hco
              go_wp2
              go_roundw
              case rel => exact ⟨j + 1, p2 + 1, by omega, by go_num, rfl, HP8, HC8⟩
              case measure => simp [intOf]; omega
            · obtain rfl : m = j := by omega
              have HN := Lib.hid (preB_next (bs := bs) (k := k) (by have := Hn.out; omega))
              have HP8 := Lib.hid (show p2 = (preB bs (k + 1) 0).length by rw [HN.out, ← Hm.out]; exact HP2.out)
              have HC8 := Lib.hid (show CO W wr (.slice (some ⟨R, 0, none⟩) p2 q) (preB bs (k + 1) 0) by rw [HN.out, ← Hm.out]; exact HC2.out)
              go_wp2
              go_roundw
              case rel => exact ⟨k + 1, p2, by omega, by go_num, rfl, HP8, HC8⟩
              case measure => simp [intOf]; omega
        · obtain rfl : n = k := by omega
          have t3 : ¬ (n : Int) < n := by omega
          have hfl : preB bs n 0 = bs.flatten := by rw [Hn.out, preB_all]
          have hpq : p = q := by rw [HP.out, hfl, ← Hql.out]
          have hR2 := HRes.out _ HC.out.1
          have r1 : wr.cell? ⟨w.heap.size, 0, none⟩ = some (.slice none 0 0) := by simp [World.cell?, hR2]
          have r2 : wr.frozen? ⟨w.heap.size, 0, none⟩ = false := by simp [World.frozen?, hR2]
          have hF : RetCO w (aboR bs) (aboE bs) (.returned (.tuple #[.agg #[.slice (some ⟨R, 0, none⟩) p q], .int .i64 0])) (wr.setCell ⟨w.heap.size, 0, none⟩ (.slice (some ⟨R, 0, none⟩) p q)) := by
            unfold aboR
            rw [HZ.out, if_pos rfl]
            have hco := (HC.out.base XW.out).setOther (a := ⟨w.heap.size, 0, none⟩) (u' := .slice (some ⟨R, 0, none⟩) p q) hR2 (by decide) (by decide) (Nat.le_refl _)
            rw [hfl] at hco
            have hco2 := hco
            exact ⟨_, rfl, hco2, by rw [← Hql.out]; exact hco.rrc⟩
          have r3 : (wr.setCell ⟨w.heap.size, 0, none⟩ (.slice (some ⟨R, 0, none⟩) p q)).cell? ⟨w.heap.size, 0, none⟩ = some (.slice (some ⟨R, 0, none⟩) p q) := by simp [World.cell?, blk_one hR2 _]
          have HF := Lib.hid hF; have R3 := Lib.hid r3
          clear hR2 r3 hfl hpq hF
          go_wp2
          have r3 := R3.out
          exact bodyPost_ret (v := .tuple #[.agg #[.slice (some ⟨R, 0, none⟩) p q], .int .i64 0]) (by simp [results, Try.results21, go_sem, r3]) rfl HF.out
theorem Above_calls (v : Value) (c : Nat) (bs : List (List (List St))) (w : World) (h : BB w v c bs) :
    Calls Try.prog 21 #[v] w (RetCE w (aboR bs) (aboE bs)) := (Above2_calls v c bs w h).mono fun _ _ h => h.ce
end Go.Proofs.Ytlmkcojimhbmiaa
/- ganseylaw15.small; ganseyref15.Large. -/
namespace Go.Proofs.Ytlmkcojimhbmiaa
set_option linter.unusedVariables false
set_option linter.unusedSimpArgs false
set_option maxRecDepth 8000
open Go Go.RowKit

def sml (rows : List (List St)) : Int := if 40 < rows.length then 0 else if rows.any (fun r => decide (40 < r.length)) then 0 else 1
theorem sml_long {rows : List (List St)} (h : 40 < rows.length) : sml rows = 0 := if_pos h
theorem sml_bad {rows : List (List St)} (h : rows.length ≤ 40) {k : Nat} (hk : k < rows.length) (hb : 40 < (sw rows k).length) : sml rows = 0 := by
  unfold sml
  rw [if_neg (by omega), if_pos]
  rw [List.any_eq_true]
  exact ⟨sw rows k, by rw [sw_of_lt hk]; exact List.getElem_mem hk, by simpa using hb⟩
theorem sml_ok {rows : List (List St)} (h : rows.length ≤ 40) (hg : ∀ k, k < rows.length → (sw rows k).length ≤ 40) : sml rows = 1 := by
  unfold sml
  rw [if_neg (by omega), if_neg]
  rw [List.any_eq_true]
  rintro ⟨r, hr, hb⟩
  obtain ⟨i, hi, rfl⟩ := List.mem_iff_getElem.1 hr
  have := hg i hi
  rw [sw_of_lt hi] at this
  simp at hb; omega
theorem sml_one {rows : List (List St)} (h : sml rows ≠ 0) : rows.length ≤ 40 ∧ ∀ k, k < rows.length → (sw rows k).length ≤ 40 := by
  by_cases h1 : 40 < rows.length
  · exact absurd (sml_long h1) h
  · refine ⟨by omega, fun k hk => ?_⟩
    by_cases h2 : 40 < (sw rows k).length
    · exact absurd (sml_bad (by omega) hk h2) h
    · omega
theorem sml_cases (rows : List (List St)) : sml rows = 0 ∨ sml rows = 1 := by unfold sml; (repeat' split) <;> simp

set_option maxHeartbeats 1000000 in
theorem small_calls (v : Value) (c : Nat) (rows : List (List St)) (w : World) (h : RR w v c rows) : Calls Try.prog 11 #[.agg #[v]] w fun e w' => e = .returned (.int .i64 (sml rows)) ∧ Ext w w' := by
  obtain ⟨ao, n, rfl, hn, hc, hcm, hat⟩ := h.open
  unfold maxLen at hcm
  obtain ⟨W, hW⟩ : ∃ W, W = w.alloc (.cells #[.slice ao n c] 24) := ⟨_, rfl⟩
  have xW : Ext w W := by rw [hW]; exact (Ext.refl w).alloc _
  have b0 : W.cell? ⟨w.heap.size, 0, none⟩ = some (.slice ao n c) := by rw [hW, World.cell?_alloc_at (hn := rfl)]; rfl
  have HBx := Lib.hid (fun w' (x : Ext W w') => x.cell b0); have XW := Lib.hid xW; have HA := Lib.hid hat; have HW := Lib.hid hW
  have hsl : 40 < n → sml rows = 0 := fun h => sml_long (by omega)
  have hsb : n ≤ 40 → ∀ k, k < n → 40 < (sw rows k).length → sml rows = 0 := fun h k hk hb => sml_bad (by omega) (by omega) hb
  have hsg : n ≤ 40 → (∀ k, k < n → (sw rows k).length ≤ 40) → sml rows = 1 := fun h hg => sml_ok (by omega) (fun k hk => hg k (by omega))
  generalize sml rows = S at *
  rw [hW] at b0
  by_cases h40 : 40 < n
  · have h40' : (40 : Int) < n := by omega
    have hS := hsl h40
    subst hS
    clear hat h hn hsl hsb hsg xW hW h40
    go_enter Try.func11, Try.ntmps11
    go_wp2
    rw [← HW.out]
    go_ret
    exact ⟨rfl, XW.out⟩
  have h40' : ¬ (40 : Int) < n := by omega
  have HSb := Lib.hid (hsb (by omega)); have HSg := Lib.hid (hsg (by omega))
  clear hat h hn hsl hsb hsg xW hW
  go_enter Try.func11, Try.ntmps11
  go_wp2
  rw [← HW.out]
  clear b0 HW
  go_loopw [3] (fun i wr => ∃ k : Nat, k ≤ n ∧ i = .int .i64 k ∧ Hid (Ext W wr) ∧ Hid (∀ i, i < k → (sw rows i).length ≤ 40)) (fun i _ => n - (intOf i).toNat)
  case atStart => exact ⟨0, Nat.zero_le _, rfl, Lib.hid (Ext.refl _), Lib.hid (fun i hi => by omega)⟩
  case round =>
    obtain ⟨k, hk, rfl, HX, HG⟩ := hrel
    have b1 := HBx.out _ HX.out
    by_cases hlt : k < n
    · obtain ⟨b, o, a, m, d, rfl, hc0, hr0⟩ := HA.out k hlt
      replace hc0 := (XW.out.trans HX.out).cell hc0
      obtain ⟨_, _, e1, e2, _⟩ := hr0.open
      simp only [Value.slice.injEq] at e1
      obtain ⟨rfl, rfl, _⟩ := e1
      have He2 := Lib.hid e2
      clear hr0 e2
      by_cases hm : 40 < m
      · have hm' : (40 : Int) < m := by omega
        have hS := HSb.out k hlt (by have := He2.out; omega)
        subst hS
        clear hm
        go_wp2
        go_ret
        exact ⟨rfl, XW.out.trans HX.out⟩
      · have hm' : ¬ (40 : Int) < m := by omega
        have HG2 := Lib.hid (show ∀ i, i < k + 1 → (sw rows i).length ≤ 40 from fun i hi => by
          by_cases e : i = k
          · rw [e]; have := He2.out; omega
          · exact HG.out i (by omega))
        clear hm
        go_wp2
        go_roundw
        case rel => exact ⟨k + 1, by omega, by go_num, HX, HG2⟩
        case measure => simp [intOf]; omega
    · obtain rfl : n = k := by omega
      have hS := HSg.out HG.out
      subst hS
      have hlt' : ¬ (n : Int) < (n : Int) := by omega
      go_wp2
      go_ret
      exact ⟨rfl, XW.out.trans HX.out⟩

def lrg (rows : List (List St)) : Int := if big rows = true then 1 else 0
theorem lrg_long {rows : List (List St)} (h : 31 < rows.length) : lrg rows = 1 := if_pos (big_long h)
theorem lrg_bad {rows : List (List St)} (h : rows.length ≤ 31) {k : Nat} (hk : k < rows.length) (hb : 16 < (sw rows k).length) : lrg rows = 1 := if_pos (big_row hk hb)
theorem lrg_ok {rows : List (List St)} (h : rows.length ≤ 31) (hg : ∀ k, k < rows.length → (sw rows k).length ≤ 16) : lrg rows = 0 := if_neg (by rw [big_no h hg]; decide)
set_option maxHeartbeats 1000000 in
theorem Large_calls (v : Value) (c : Nat) (rows : List (List St)) (w : World) (h : RR w v c rows) : Calls Try.prog 29 #[.agg #[v]] w fun e w' => e = .returned (.int .i64 (lrg rows)) ∧ Ext w w' := by
  obtain ⟨ao, n, rfl, hn, hc, hcm, hat⟩ := h.open
  unfold maxLen at hcm
  obtain ⟨W, hW⟩ : ∃ W, W = w.alloc (.cells #[.slice ao n c] 24) := ⟨_, rfl⟩
  have xW : Ext w W := by rw [hW]; exact (Ext.refl w).alloc _
  have b0 : W.cell? ⟨w.heap.size, 0, none⟩ = some (.slice ao n c) := by rw [hW, World.cell?_alloc_at (hn := rfl)]; rfl
  have HBx := Lib.hid (fun w' (x : Ext W w') => x.cell b0); have XW := Lib.hid xW; have HA := Lib.hid hat; have HW := Lib.hid hW
  have hsl : 31 < n → lrg rows = 1 := fun h => lrg_long (by omega)
  have hsb : n ≤ 31 → ∀ k, k < n → 16 < (sw rows k).length → lrg rows = 1 := fun h k hk hb => lrg_bad (by omega) (by omega) hb
  have hsg : n ≤ 31 → (∀ k, k < n → (sw rows k).length ≤ 16) → lrg rows = 0 := fun h hg => lrg_ok (by omega) (fun k hk => hg k (by omega))
  generalize lrg rows = S at *
  rw [hW] at b0
  by_cases h40 : 31 < n
  · have h40' : (31 : Int) < n := by omega
    have hS := hsl h40
    subst hS
    clear hat h hn hsl hsb hsg xW hW h40
    go_enter Try.func29, Try.ntmps29
    go_wp2
    rw [← HW.out]
    go_ret
    exact ⟨rfl, XW.out⟩
  have h40' : ¬ (31 : Int) < n := by omega
  have HSb := Lib.hid (hsb (by omega)); have HSg := Lib.hid (hsg (by omega))
  clear hat h hn hsl hsb hsg xW hW
  go_enter Try.func29, Try.ntmps29
  go_wp2
  rw [← HW.out]
  clear b0 HW
  go_loopw [3] (fun i wr => ∃ k : Nat, k ≤ n ∧ i = .int .i64 k ∧ Hid (Ext W wr) ∧ Hid (∀ i, i < k → (sw rows i).length ≤ 16)) (fun i _ => n - (intOf i).toNat)
  case atStart => exact ⟨0, Nat.zero_le _, rfl, Lib.hid (Ext.refl _), Lib.hid (fun i hi => by omega)⟩
  case round =>
    obtain ⟨k, hk, rfl, HX, HG⟩ := hrel
    have b1 := HBx.out _ HX.out
    by_cases hlt : k < n
    · obtain ⟨b, o, a, m, d, rfl, hc0, hr0⟩ := HA.out k hlt
      replace hc0 := (XW.out.trans HX.out).cell hc0
      obtain ⟨_, _, e1, e2, _⟩ := hr0.open
      simp only [Value.slice.injEq] at e1
      obtain ⟨rfl, rfl, _⟩ := e1
      have He2 := Lib.hid e2
      clear hr0 e2
      by_cases hm : 16 < m
      · have hm' : (16 : Int) < m := by omega
        have hS := HSb.out k hlt (by have := He2.out; omega)
        subst hS
        clear hm
        go_wp2
        go_ret
        exact ⟨rfl, XW.out.trans HX.out⟩
      · have hm' : ¬ (16 : Int) < m := by omega
        have HG2 := Lib.hid (show ∀ i, i < k + 1 → (sw rows i).length ≤ 16 from fun i hi => by
          by_cases e : i = k
          · rw [e]; have := He2.out; omega
          · exact HG.out i (by omega))
        clear hm
        go_wp2
        go_roundw
        case rel => exact ⟨k + 1, by omega, by go_num, HX, HG2⟩
        case measure => simp [intOf]; omega
    · obtain rfl : n = k := by omega
      have hS := HSg.out HG.out
      subst hS
      have hlt' : ¬ (n : Int) < (n : Int) := by omega
      go_wp2
      go_ret
      exact ⟨rfl, XW.out.trans HX.out⟩
end Go.Proofs.Ytlmkcojimhbmiaa
/- motifs.Check. -/
namespace Go.Proofs.Ytlmkcojimhbmiaa
set_option linter.unusedVariables false
set_option linter.unusedSimpArgs false
set_option maxRecDepth 8000
open Go Go.RowKit

/-- The error of a motif. -/
def mchk (L T R : List (List St)) : Int :=
  if smallB [L, T, R] = false then 3 else if (0 < L.length ∧ L.length ≠ T.length) ∨ (0 < R.length ∧ R.length ≠ T.length) then 5
  else if T.length = 0 ∨ goodB [L, T, R] = false then 1 else if T.any (fun r => decide (r.length = 0)) then 1 else 0
theorem tile_bad {T : List (List St)} {i : Nat} (hi : i < T.length) (h : (sw T i).length = 0) : T.any (fun r => decide (r.length = 0)) = true := List.any_eq_true.2 ⟨_, sw_mem hi, decide_eq_true h⟩
theorem tile_ok {T : List (List St)} (h : ∀ i, i < T.length → (sw T i).length ≠ 0) : T.any (fun r => decide (r.length = 0)) = false := by
  rw [List.any_eq_false]
  intro r hr
  obtain ⟨i, hi, rfl⟩ := List.mem_iff_getElem.1 hr
  have := h i hi
  rw [sw_of_lt hi] at this
  simpa using this
set_option maxHeartbeats 4000000 in
theorem MCheck_calls (u0 u1 u2 : Value) (c0 c1 c2 : Nat) (L T R : List (List St)) (w : World) (h0 : RR w u0 c0 L) (h1 : RR w u1 c1 T) (h2 : RR w u2 c2 R) :
    Calls Try.prog 13 #[.agg #[u0, u1, u2]] w fun e w' => e = .returned (.int .i64 (mchk L T R)) ∧ Ext w w' := by
  have kS := fun w' g (x : Ext w w') (hb : w'.heap[g]? = some (Obj.cells #[u0, u1, u2] 24 (0, 0))) => MSmall_calls _ _ [L, T, R] w' (BB.lit3 hb (h0.ext x) (h1.ext x) (h2.ext x))
  have kG := fun w' g (x : Ext w w') (hb : w'.heap[g]? = some (Obj.cells #[u0, u1, u2] 24 (0, 0))) => MGood_calls _ _ [L, T, R] w' (BB.lit3 hb (h0.ext x) (h1.ext x) (h2.ext x))
  obtain ⟨a0, n0, rfl, hn0, hc0, hm0, _⟩ := h0.open
  obtain ⟨a1, n1, rfl, hn1, hc1, hm1, hat⟩ := h1.open
  obtain ⟨a2, n2, rfl, hn2, hc2, hm2, _⟩ := h2.open
  unfold maxLen at hm0 hm1 hm2
  have hM : mchk L T R = if smallB [L, T, R] = false then 3 else if (0 < n0 ∧ n0 ≠ n1) ∨ (0 < n2 ∧ n2 ≠ n1) then 5
    else if n1 = 0 ∨ goodB [L, T, R] = false then 1 else if T.any (fun r => decide (r.length = 0)) then 1 else 0 := by unfold mchk; rw [hn0, hn1, hn2]
  have htb := fun i (hi : i < n1) => tile_bad (T := T) (i := i) (by omega)
  have hto := fun (h : ∀ i, i < n1 → (sw T i).length ≠ 0) => tile_ok (T := T) (fun i hi => h i (by omega))
  obtain ⟨S, hS⟩ : ∃ S, S = smallB [L, T, R] := ⟨_, rfl⟩
  obtain ⟨G, hG⟩ : ∃ G, G = goodB [L, T, R] := ⟨_, rfl⟩
  obtain ⟨A, hA⟩ : ∃ A, A = T.any (fun r => decide (r.length = 0)) := ⟨_, rfl⟩
  obtain ⟨M, hMM⟩ : ∃ M, M = mchk L T R := ⟨_, rfl⟩
  rw [← hS] at hM kS
  rw [← hG] at hM kG
  rw [← hA] at hM htb hto
  rw [← hMM] at hM ⊢
  obtain ⟨W, hW⟩ : ∃ W, W = w.alloc (.cells #[.slice a0 n0 c0, .slice a1 n1 c1, .slice a2 n2 c2] 26) := ⟨_, rfl⟩
  have xW : Ext w W := by rw [hW]; exact (Ext.refl w).alloc _
  have hbx : W.heap[w.heap.size]? = some (Obj.cells #[.slice a0 n0 c0, .slice a1 n1 c1, .slice a2 n2 c2] 26 (0, 0)) := by rw [hW]; exact blk_at rfl
  have b0 : W.cell? ⟨w.heap.size, 0, none⟩ = some (.slice a0 n0 c0) := by simp [World.cell?, hbx]
  have b1 : W.cell? ⟨w.heap.size, 1, none⟩ = some (.slice a1 n1 c1) := by simp [World.cell?, hbx]
  have b2 : W.cell? ⟨w.heap.size, 2, none⟩ = some (.slice a2 n2 c2) := by simp [World.cell?, hbx]
  have HB0 := Lib.hid (fun w' (x : Ext W w') => x.cell b0); have HB1 := Lib.hid (fun w' (x : Ext W w') => x.cell b1); have HB2 := Lib.hid (fun w' (x : Ext W w') => x.cell b2)
  obtain ⟨W2, hW2⟩ : ∃ W2, W2 = W.alloc (.cells #[.slice a0 n0 c0, .slice a1 n1 c1, .slice a2 n2 c2] 24) := ⟨_, rfl⟩
  have x2 : Ext W W2 := by rw [hW2]; exact (Ext.refl W).alloc _
  have hWs : W.heap.size = w.heap.size + 1 := by rw [hW]; simp
  have hk := kS W2 (w.heap.size + 1) (xW.trans x2) (by rw [hW2]; exact blk_at hWs.symm)
  have HKS := Lib.hid hk; have HKG := Lib.hid kG; have HM := Lib.hid hM; have XW := Lib.hid xW; have X2 := Lib.hid x2; have HAt := Lib.hid hat; have HTb := Lib.hid htb; have HTo := Lib.hid hto
  have HW := Lib.hid hW; have HW2 := Lib.hid hW2
  rw [hW] at b0 b1 b2
  clear h0 h1 h2 hn0 hn1 hn2 hk kS kG hM hS hG hA hMM xW x2 hat htb hto hbx hW2 hW hWs
  go_enter Try.func13, Try.ntmps13
  go_wp2_with fail
  rw [← HW.out, ← HW2.out]
  refine HKS.out.mono ?_
  rintro e w3 ⟨rfl, x3⟩
  have X3 := Lib.hid (X2.out.trans x3)
  clear x3 b0 b1 b2
  cases S
  · have hM := HM.out
    rw [if_pos rfl] at hM
    subst hM
    clear HKG HTb HTo
    go_wp2
    go_ret
    exact ⟨rfl, XW.out.trans X3.out⟩
  have HM2 := Lib.hid (show M = if (0 < n0 ∧ n0 ≠ n1) ∨ (0 < n2 ∧ n2 ≠ n1) then 5 else if n1 = 0 ∨ G = false then 1 else if A then 1 else 0 from HM.out)
  clear HM
  have b0 := HB0.out _ X3.out; have b1 := HB1.out _ X3.out; have b2 := HB2.out _ X3.out
  obtain ⟨W4, hW4⟩ : ∃ W4, W4 = w3.alloc (.cells #[.slice a0 n0 c0, .slice a2 n2 c2] 24) := ⟨_, rfl⟩
  have x4 : Ext w3 W4 := by rw [hW4]; exact (Ext.refl w3).alloc _
  have hb4 : W4.heap[w3.heap.size]? = some (Obj.cells #[.slice a0 n0 c0, .slice a2 n2 c2] 24 (0, 0)) := by rw [hW4]; exact blk_at rfl
  have HE0 := Lib.hid (fun w' (x : Ext W4 w') => x.cell (show W4.cell? ⟨w3.heap.size, 0, none⟩ = some (.slice a0 n0 c0) by simp [World.cell?, hb4]))
  have HE2 := Lib.hid (fun w' (x : Ext W4 w') => x.cell (show W4.cell? ⟨w3.heap.size, 1, none⟩ = some (.slice a2 n2 c2) by simp [World.cell?, hb4]))
  have HW4 := Lib.hid hW4; have X4 := Lib.hid (X3.out.trans x4)
  clear hb4 hW4 x4
  go_wp2
  rw [← HW4.out]
  clear b0 b1 b2
  go_loopw [5, 27] (fun _ i wr => ∃ k : Nat, k ≤ 2 ∧ i = .int .i64 k ∧ Hid (Ext W4 wr) ∧ Hid ((1 ≤ k → ¬ (0 < n0 ∧ n0 ≠ n1)) ∧ (2 ≤ k → ¬ (0 < n2 ∧ n2 ≠ n1)))) (fun _ i _ => 2 - (intOf i).toNat)
  case atStart => exact ⟨0, Nat.zero_le _, rfl, Lib.hid (Ext.refl _), Lib.hid ⟨by omega, by omega⟩⟩
  case round =>
    obtain ⟨k, hk, rfl, HX, HG⟩ := hrel
    rcases (show k = 0 ∨ k = 1 ∨ k = 2 by omega) with rfl | rfl | rfl
    · have z1 := HE0.out _ HX.out
      have XB := Lib.hid (HX.out.alloc (.cells #[.slice a0 n0 c0] 24))
      by_cases hb : 0 < n0 ∧ n0 ≠ n1
      · have hM := HM2.out
        rw [if_pos (.inl hb)] at hM
        subst hM
        obtain ⟨hb1, hb2⟩ := hb
        have t1 : (0 : Int) < n0 := by omega
        have t2 : ((n0 : Int) != (n1 : Int)) = true := by rw [bne, beq_eq_false_iff_ne.2 (by omega)]; rfl
        clear hb2
        go_wp2
        go_ret
        exact ⟨rfl, XW.out.trans (X4.out.trans XB.out)⟩
      · have HG2 := Lib.hid (show (1 ≤ 0 + 1 → ¬ (0 < n0 ∧ n0 ≠ n1)) ∧ (2 ≤ 0 + 1 → ¬ (0 < n2 ∧ n2 ≠ n1)) from ⟨fun _ => hb, by omega⟩)
        by_cases hz : n0 = 0
        · subst hz
          clear hb
          go_wp2
          go_roundw
          case rel => exact ⟨0 + 1, by omega, rfl, XB, HG2⟩
          case measure => simp [intOf]
        · have t1 : (0 : Int) < n0 := by omega
          have t1' : 0 < n0 := by omega
          have t2 : ((n0 : Int) != (n1 : Int)) = false := by rw [bne, beq_iff_eq.2 (by omega)]; rfl
          clear hb hz
          go_wp2
          go_roundw
          case rel => exact ⟨0 + 1, by omega, rfl, XB, HG2⟩
          case measure => simp [intOf]
    · have z1 := HE2.out _ HX.out
      have XB := Lib.hid (HX.out.alloc (.cells #[.slice a2 n2 c2] 24))
      by_cases hb : 0 < n2 ∧ n2 ≠ n1
      · have hM := HM2.out
        rw [if_pos (.inr hb)] at hM
        subst hM
        obtain ⟨hb1, hb2⟩ := hb
        have t1 : (0 : Int) < n2 := by omega
        have t2 : ((n2 : Int) != (n1 : Int)) = true := by rw [bne, beq_eq_false_iff_ne.2 (by omega)]; rfl
        clear hb2
        go_wp2
        go_ret
        exact ⟨rfl, XW.out.trans (X4.out.trans XB.out)⟩
      · have HG2 := Lib.hid (show (1 ≤ 1 + 1 → ¬ (0 < n0 ∧ n0 ≠ n1)) ∧ (2 ≤ 1 + 1 → ¬ (0 < n2 ∧ n2 ≠ n1)) from ⟨fun _ => HG.out.1 (by omega), fun _ => hb⟩)
        by_cases hz : n2 = 0
        · subst hz
          clear hb
          go_wp2
          go_roundw
          case rel => exact ⟨1 + 1, by omega, rfl, XB, HG2⟩
          case measure => simp [intOf]
        · have t1 : (0 : Int) < n2 := by omega
          have t1' : 0 < n2 := by omega
          have t2 : ((n2 : Int) != (n1 : Int)) = false := by rw [bne, beq_iff_eq.2 (by omega)]; rfl
          clear hb hz
          go_wp2
          go_roundw
          case rel => exact ⟨1 + 1, by omega, rfl, XB, HG2⟩
          case measure => simp [intOf]
    · have HM3 := Lib.hid (show M = if n1 = 0 ∨ G = false then 1 else if A then 1 else 0 by
        have hM := HM2.out
        rw [if_neg (by have h1 := HG.out.1 (by omega); have h2 := HG.out.2 (by omega); rintro (h | h); exact h1 h; exact h2 h)] at hM
        exact hM)
      clear HM2 HG HE0 HE2
      obtain ⟨w5, hw5⟩ : ∃ w5 : World, w5 = wr := ⟨_, rfl⟩
      rw [← hw5] at HX ⊢
      have X5 := Lib.hid (X4.out.trans HX.out)
      clear hw5 hk HX
      by_cases hz : n1 = 0
      · have hM := HM3.out
        rw [if_pos (.inl hz)] at hM
        subst hM
        have t1 : ((n1 : Int) == 0) = true := by rw [hz]; rfl
        clear HKG hz
        go_wp2
        go_ret
        exact ⟨rfl, XW.out.trans X5.out⟩
      have t1 : ((n1 : Int) == 0) = false := beq_eq_false_iff_ne.2 (by omega)
      have b0 := HB0.out _ X5.out; have b1 := HB1.out _ X5.out; have b2 := HB2.out _ X5.out
      obtain ⟨W6, hW6⟩ : ∃ W6, W6 = w5.alloc (.cells #[.slice a0 n0 c0, .slice a1 n1 c1, .slice a2 n2 c2] 24) := ⟨_, rfl⟩
      have x6 : Ext w5 W6 := by rw [hW6]; exact (Ext.refl w5).alloc _
      have hk := HKG.out W6 w5.heap.size (XW.out.trans (X5.out.trans x6)) (by rw [hW6]; exact blk_at rfl)
      have HKG2 := Lib.hid hk; have HW6 := Lib.hid hW6; have X6 := Lib.hid (X5.out.trans x6)
      clear hk HKG hW6 x6
      go_wp2_with fail
      rw [← HW6.out]
      refine HKG2.out.mono ?_
      rintro e w7 ⟨rfl, x7⟩
      have X7 := Lib.hid (X6.out.trans x7)
      clear x7 b0 b1 b2 HKG2
      cases G
      · have hM := HM3.out
        rw [if_pos (.inr rfl)] at hM
        subst hM
        go_wp2
        go_ret
        exact ⟨rfl, XW.out.trans X7.out⟩
      have HM4 := Lib.hid (show M = if A then 1 else 0 by
        have hM := HM3.out
        rw [if_neg (by rintro (h | h); exact hz h; cases h)] at hM
        exact hM)
      clear HM3
      have b1 := HB1.out _ X7.out
      go_wp2
      clear b1
      go_loopw [7, 60] (fun _ i wr => ∃ k : Nat, k ≤ n1 ∧ i = .int .i64 k ∧ Hid (Ext w7 wr) ∧ Hid (∀ i, i < k → (sw T i).length ≠ 0)) (fun _ i _ => n1 - (intOf i).toNat)
      case atStart => exact ⟨0, Nat.zero_le _, rfl, Lib.hid (Ext.refl _), Lib.hid (fun i hi => by omega)⟩
      case round =>
        obtain ⟨k, hk, rfl, HX, HG⟩ := hrel
        by_cases hlt : k < n1
        · obtain ⟨b, o, a, m, d, rfl, y1, y2⟩ := HAt.out k hlt
          replace y1 := (XW.out.trans (X7.out.trans HX.out)).cell y1
          obtain ⟨_, _, e1, e2, _⟩ := y2.open
          simp only [Value.slice.injEq] at e1
          obtain ⟨rfl, rfl, _⟩ := e1
          have Hm := Lib.hid e2
          have t2 : (k : Int) < n1 := by omega
          clear y2 e2
          by_cases h0 : m = 0
          · have hA := HTb.out k hlt (by rw [← Hm.out]; exact h0)
            have hM := HM4.out
            rw [hA, if_pos rfl] at hM
            subst hM
            have t3 : ((m : Int) == 0) = true := by rw [h0]; rfl
            clear h0 hA
            go_wp2
            go_ret
            exact ⟨rfl, XW.out.trans (X7.out.trans HX.out)⟩
          · have t3 : ((m : Int) == 0) = false := beq_eq_false_iff_ne.2 (by omega)
            have HG2 := Lib.hid (show ∀ i, i < k + 1 → (sw T i).length ≠ 0 from fun i hi => by
              by_cases e : i = k
              · rw [e, ← Hm.out]; exact h0
              · exact HG.out i (by omega))
            clear h0
            go_wp2
            go_roundw
            case rel => exact ⟨k + 1, by omega, by go_num, HX, HG2⟩
            case measure => simp [intOf]; omega
        · obtain rfl : n1 = k := by omega
          have hA := HTo.out HG.out
          have hM := HM4.out
          rw [hA] at hM
          have hM0 : M = 0 := hM
          subst hM0
          clear hA hM
          go_wp2
          go_ret
          exact ⟨rfl, XW.out.trans (X7.out.trans HX.out)⟩
end Go.Proofs.Ytlmkcojimhbmiaa
