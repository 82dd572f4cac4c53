/- Texts of this claim in one file: libraries and walks. -/
import Derived.Deep.RegionHeld3
import Derived.Test.YtinijapkipeamaaDoorMKnown7
import Derived.Test.YtinijapkipeamaaDoorMKnown10
/- shapes.joined of lists of numbers. -/
namespace Go.Proofs.YtinijapkipeamaaDoor
set_option linter.unusedVariables false
set_option linter.unusedSimpArgs false
set_option maxRecDepth 8000
open Go Go.RowKit

theorem ISS.open2 {k : IntKind} {w : World} {v : Value} {c : Nat} {rows : List (List Int)} (h : ISS k w v c rows) : ∃ ao n, v = .slice ao n c ∧ n = rows.length ∧ n ≤ c ∧ c ≤ maxLen ∧
    ∀ i, i < n → ∃ b o a m d, ao = some ⟨b, o, none⟩ ∧ w.cell? ⟨b, o + i, none⟩ = some (.slice a m d) ∧ m = (ri rows i).length ∧ IS k w (.slice a m d) d (ri rows i) := by
  obtain ⟨vs, caps, h⟩ := h
  obtain ⟨h1, h2, ao, rfl, h3⟩ := h.open
  refine ⟨ao, _, rfl, rfl, h1, h2, fun i hi => ?_⟩
  rcases h3 with ⟨_, h4, _⟩ | ⟨b, o, rfl, h4⟩
  · omega
  · obtain ⟨a, m, d, hv, hm, hd, hi2⟩ := (h.2 i hi).out
    subst hd
    exact ⟨b, o, a, m, _, rfl, by rw [h4 i hi, hv], hm, hi2⟩
theorem take_succ_ri {l : List (List Int)} {k : Nat} (h : k < l.length) : l.take (k + 1) = l.take k ++ [ri l k] := by rw [ri_of_lt h]; exact List.take_succ_eq_append_getElem h
def flI (rows : List (List Int)) (k : Nat) : List Int := (rows.take k).flatten
theorem flI_succ {rows : List (List Int)} {k : Nat} (h : k < rows.length) : flI rows (k + 1) = flI rows k ++ ri rows k := by unfold flI; rw [take_succ_ri h]; simp
theorem flI_le {rows : List (List Int)} {k : Nat} : (flI rows k).length ≤ rows.flatten.length := by
  unfold flI
  conv => rhs; rw [← List.take_append_drop k rows, List.flatten_append, List.length_append]
  omega
theorem flI_all {rows : List (List Int)} : flI rows rows.length = rows.flatten := by unfold flI; rw [List.take_length]
set_option maxHeartbeats 2000000 in
theorem joinedI_calls (v : Value) (c : Nat) (rows : List (List Int)) (w : World) (h : ISS .i64 w v c rows) (hf : rows.flatten.length ≤ 100000) :
    Calls Tryd.prog 37 #[v] w (RetI .i64 w rows.flatten.length rows.flatten) := by
  obtain ⟨ao, n, rfl, hn, hc, hcm, hat⟩ := h.open2
  have hfs := fun k (hk : k < n) => flI_succ (rows := rows) (k := k) (by omega)
  have hfb := fun k => flI_le (rows := rows) (k := k)
  have hfa : flI rows n = rows.flatten := by rw [hn, flI_all]
  obtain ⟨M, hM⟩ : ∃ M, M = rows.flatten.length := ⟨_, rfl⟩
  have hM2 : M = (flI rows n).length := by rw [hfa, hM]
  rw [← hM] at hf
  have HR := Lib.hid hat; have HS := Lib.hid hfs; have HB := Lib.hid hfb; have HA := Lib.hid hfa; have HM := Lib.hid hM2; have HM1 := Lib.hid hM
  clear hat hfs hfb hfa hn h hM2
  unfold maxLen at hcm
  rw [← hM]
  clear hM
  go_enter Tryd.func37, Tryd.ntmps37
  go_wp2
  go_loopw [3, 5, 11] (fun s _ i wr => ∃ k m : Nat, k ≤ n ∧ i = .int .i64 k ∧ s = .int .i64 m ∧ Hid (m = (flI rows k).length) ∧ Hid (Ext w wr)) (fun _ _ i _ => n - (intOf i).toNat)
  case atStart => exact ⟨0, 0, Nat.zero_le _, rfl, rfl, Lib.hid (by simp [flI]), Lib.hid (Ext.refl w)⟩
  case round =>
    obtain ⟨k, m, hk, rfl, rfl, HMk, HX⟩ := hrel
    by_cases hlt : k < n
    · obtain ⟨b, o, a, p, d, rfl, hc0, hp, hi⟩ := HR.out k hlt
      replace hc0 := HX.out.cell hc0
      have hb1 := HB.out (k + 1)
      rw [← HM1.out] at hb1
      have hnx := HS.out k hlt
      have hmq : m + p = (flI rows (k + 1)).length := by rw [hnx, List.length_append, ← HMk.out, hp]
      rw [← hmq] at hb1
      have HN := Lib.hid hmq
      clear hnx hmq hp hi HMk
      go_wp2
      go_roundw
      case rel => exact ⟨k + 1, m + p, by omega, by go_num, by go_num, HN, HX⟩
      case measure => simp [intOf]; omega
    · obtain rfl : n = k := by omega
      obtain rfl : m = M := by rw [HM.out, HMk.out]
      obtain ⟨wo, rfl⟩ : ∃ wo : World, wo = wr := ⟨_, rfl⟩
      have hmk := run_make_cap (P := Tryd.prog) eiInt .i64 .i64 m (by omega) (by omega) wo
      clear hlt hk HMk
      go_wp2
      clear hmk
      have hrow := own_of_row (World.rowIs_made wo (.int .i64 0) m 3) (m := 0) (by omega) (by unfold maxLen; omega)
      have hex := HX.out.alloc (.cells (madeCells #[.int .i64 0] m) 3)
      obtain ⟨g, hg⟩ : ∃ g, g = wo.heap.size := ⟨_, rfl⟩
      have hwg : w.heap.size ≤ g := by rw [hg]; exact HX.out.size
      rw [← hg] at hrow ⊢
      have HO := Lib.hid hrow; have HE := Lib.hid hex
      clear hrow hex hg
      go_loopw [6, 8, 24] (fun v _ i wr => ∃ k : Nat, k ≤ n ∧ i = .int .i64 k ∧ v = .slice (some ⟨g, 0, none⟩) (flI rows k).length m ∧ Hid (wr.ownsRow g 3 1 (.slice (some ⟨g, 0, none⟩) (flI rows k).length m) (flI rows k).length ((flI rows k).map (Value.int .i64))) ∧ Hid (Ext w wr ∧ g ≤ wr.heap.size)) (fun _ _ i _ => n - (intOf i).toNat)
      case atStart => exact ⟨0, Nat.zero_le _, rfl, by simp [flI], by simpa [flI] using HO, Lib.hid ⟨HE.out, by
        obtain ⟨_, h | ⟨g', cap, cur, hv, hB, hb, _⟩⟩ := HO.out
        · cases h.1
        · have := lt_of_block hb; injection hv with e1; injection e1 with e1; injection e1 with e1; omega⟩⟩
      case round =>
        obtain ⟨k, hk, rfl, rfl, H, HX2⟩ := hrel
        by_cases hlt : k < n
        · obtain ⟨b, o, a, p, d, rfl, hc0, hp, hi⟩ := HR.out k hlt
          replace hc0 := HX2.out.1.cell hc0
          have hi2 := hi.ext HX2.out.1
          have hb1 := HB.out (k + 1)
          rw [← HM1.out] at hb1
          have hnx := HS.out k hlt
          have hmq : (flI rows k).length + p = (flI rows (k + 1)).length := by rw [hnx, List.length_append, hp]
          have hmp : (flI rows k).map (Value.int .i64) ++ (ri rows k).map (Value.int .i64) = (flI rows (k + 1)).map (Value.int .i64) := by rw [hnx, List.map_append]
          rw [← hmq] at hb1
          have hpl : (ri rows k).length = p := hp.symm
          have HN := Lib.hid hmq; have HI := Lib.hid hi2; have HPl := Lib.hid hpl; have HMp := Lib.hid hmp
          obtain ⟨q, hq⟩ : ∃ q, q = (flI rows k).length := ⟨_, rfl⟩
          rw [← hq] at H HN hb1 ⊢
          clear hnx hmq hi hi2 hpl hmp hp hq
          go_wp2_with (at_builtin; refine app_fits eiInt rfl _ _ rfl g g q m _ rfl H.out _ _ _ rfl HI.out (onesI _) ?d1 HX2.out.2 ?_)
          case d1 => rw [List.length_map, HPl.out]; exact hb1
          intro w' hown hbel
          rw [HPl.out] at hown ⊢
          rw [HMp.out] at hown
          have hx2 := Lib.hid (Below.trans HX2.out.1 (Below.mono hbel hwg))
          have hs2 := Lib.hid (Nat.le_trans HX2.out.2 hbel.size)
          rw [HN.out] at hown
          have HO2 := Lib.hid hown
          have hpq := HPl.out
          clear hown hbel hc0 hb1
          go_wp2
          go_roundw
          case rel => exact ⟨k + 1, by omega, by go_num, by rw [HN.out], HO2, Lib.hid ⟨hx2.out, hs2.out⟩⟩
          case measure => simp [intOf]; omega
        · obtain rfl : n = k := by omega
          have hown := H.out
          have hfin : IS .i64 wr (.slice (some ⟨g, 0, none⟩) (flI rows n).length m) m rows.flatten := by
            obtain ⟨c', hI⟩ := IS.of_own (k := .i64) hown
            obtain ⟨e1, e2, _⟩ := hI.len
            rw [e2, ← HA.out]
            rw [e2] at hI; exact hI
          have HF := Lib.hid hfin
          clear hlt hk hown hfin
          go_wp2
          go_ret
          exact ⟨_, rfl, HF.out, HX2.out.1, NN.mk⟩
end Go.Proofs.YtinijapkipeamaaDoor
/- shapes.Join. -/
namespace Go.Proofs.YtinijapkipeamaaDoor
set_option linter.unusedVariables false
set_option linter.unusedSimpArgs false
set_option maxRecDepth 8000
open Go Go.RowKit

def tails (rows : List (List Int)) : List (List Int) := rows.map (List.drop 1)
def jlist (rows : List (List Int)) : List Int := (ri rows 0).take 1 ++ (tails rows).flatten
/-- A list does not begin where the one before ends. -/
def mism (rows : List (List Int)) (i : Nat) : Bool := decide (gi (ri rows (i + 1)) 0 ≠ gi (ri rows i) ((ri rows i).length - 1))
def jerr (rows : List (List Int)) : Int :=
  if rows.length = 0 ∨ (List.range rows.length).any (fun i => decide ((ri rows i).length = 0)) then 1
  else if (List.range (rows.length - 1)).any (mism rows) then 14
  else if 32 < (jlist rows).length then 3 else 0
def jres (rows : List (List Int)) : List Int := if jerr rows = 0 then jlist rows else []
theorem jerr_empty {rows : List (List Int)} (h : rows.length = 0 ∨ ∃ i, i < rows.length ∧ (ri rows i).length = 0) : jerr rows = 1 := by
  unfold jerr
  rw [if_pos]
  rcases h with h | ⟨i, h, h2⟩
  · exact .inl h
  · exact .inr (List.any_eq_true.2 ⟨i, List.mem_range.2 h, by simp [h2]⟩)
theorem jerr_full {rows : List (List Int)} (h : 0 < rows.length) (h2 : ∀ i, i < rows.length → 0 < (ri rows i).length) : jerr rows = if (List.range (rows.length - 1)).any (mism rows) then 14 else if 32 < (jlist rows).length then 3 else 0 := by
  unfold jerr
  rw [if_neg]
  rintro (h3 | h3)
  · omega
  · obtain ⟨i, hi, hb⟩ := List.any_eq_true.1 h3
    have := h2 i (List.mem_range.1 hi)
    simp at hb; rw [hb] at this; simp at this
theorem jerr_mism {rows : List (List Int)} (h : 0 < rows.length) (h2 : ∀ i, i < rows.length → 0 < (ri rows i).length) {i : Nat} (hi : i + 1 < rows.length) (hb : mism rows i = true) : jerr rows = 14 := by
  rw [jerr_full h h2, if_pos (List.any_eq_true.2 ⟨i, List.mem_range.2 (by omega), hb⟩)]
theorem jerr_fit {rows : List (List Int)} (h : 0 < rows.length) (h2 : ∀ i, i < rows.length → 0 < (ri rows i).length) (h3 : ∀ i, i + 1 < rows.length → mism rows i = false) : jerr rows = if 32 < (jlist rows).length then 3 else 0 := by
  rw [jerr_full h h2, if_neg]
  rw [List.any_eq_true]
  rintro ⟨i, hi, hb⟩
  rw [List.mem_range] at hi
  rw [h3 i (by omega)] at hb; cases hb
/-- How many widths there are behind k lists. -/
def tot (rows : List (List Int)) : Nat → Nat
  | 0 => 1
  | k + 1 => tot rows k + ((ri rows k).length - 1)
theorem tot_take (rows : List (List Int)) : ∀ k, k ≤ rows.length → tot rows k = 1 + ((rows.take k).map (List.drop 1)).flatten.length
  | 0, _ => by simp [tot]
  | k + 1, h => by
    rw [tot, tot_take rows k (by omega), take_succ_ri (by omega)]
    simp; omega
theorem tot_all {rows : List (List Int)} (h : 0 < rows.length) (h2 : ∀ i, i < rows.length → 0 < (ri rows i).length) : tot rows rows.length = (jlist rows).length := by
  rw [tot_take rows _ (Nat.le_refl _), List.take_length]
  have := h2 0 h
  unfold jlist tails
  rw [List.length_append, List.length_take]; omega
theorem tot_bd {rows : List (List Int)} (h : ∀ i, i < rows.length → (ri rows i).length ≤ 1000) : ∀ k, k ≤ rows.length → 1 ≤ tot rows k ∧ tot rows k ≤ 1 + 1000 * k
  | 0, _ => by simp [tot]
  | k + 1, hk => by
    have := tot_bd h k (by omega)
    have := h k (by omega)
    rw [tot]; omega
/-- The tails that are laid so far. -/
def PT (w wr : World) (R n k : Nat) (rows : List (List Int)) : Prop :=
  Ext w wr ∧ ∃ (f : Nat → Value) (cp : Nat → Nat), wr.rowIs R 22 n f ∧ ∀ i, i < k → (∃ a m, f i = .slice a m (cp i)) ∧ IS .i64 w (f i) (cp i) ((ri rows i).drop 1)
theorem PT.ret {w wr : World} {R n : Nat} {rows : List (List Int)} (h : PT w wr R n n rows) (hn : n = rows.length) (hm : n ≤ maxLen) : ISS .i64 wr (.slice (some ⟨R, 0, none⟩) n n) n (tails rows) := by
  obtain ⟨x, f, cp, hr, hf⟩ := h
  have hl : n = (tails rows).length := by simp [tails, hn]
  refine ⟨f, cp, ISV.mk' hl (Nat.le_refl _) hm (fun i hi => by rw [Nat.zero_add, hr.cell hi]) fun i hi => ?_⟩
  have : ri (tails rows) i = (ri rows i).drop 1 := by rw [ri_of_lt (by omega), ri_of_lt (by omega)]; simp [tails]
  rw [this]
  exact (hf i hi).2.ext x
theorem PT.put {w wr : World} {R n k m d : Nat} {a : Option Addr} {rows : List (List Int)} (h : PT w wr R n k rows) (hR : w.heap.size ≤ R) (hk : k < n) (hi : IS .i64 w (.slice a m d) d ((ri rows k).drop 1)) : PT w (wr.setCell ⟨R, k, none⟩ (.slice a m d)) R n (k + 1) rows := by
  obtain ⟨x, f, cp, hr, hf⟩ := h
  refine ⟨x.setCell hR _, _, fun i => if i = k then d else cp i, hr.set k _, fun i hik => ?_⟩
  by_cases e : i = k
  · subst e; simp only [if_true]; exact ⟨⟨a, m, rfl⟩, hi⟩
  · simp only [if_neg e]; exact hf i (by omega)
end Go.Proofs.YtinijapkipeamaaDoor
/- shapes.Join: the walk. -/
namespace Go.Proofs.YtinijapkipeamaaDoor
set_option linter.unusedVariables false
set_option linter.unusedSimpArgs false
set_option maxRecDepth 8000
open Go Go.RowKit

set_option maxHeartbeats 4000000 in
theorem Join_calls (v : Value) (c : Nat) (rows : List (List Int)) (w : World) (h : ISS .i64 w v c rows) (hb : ∀ i, i < rows.length → (ri rows i).length ≤ 1000) (hl : rows.length ≤ 50) :
    Calls Tryd.prog 24 #[v] w (RetIE .i64 w (jres rows).length (jres rows) (jerr rows)) := by
  have hmb := tot_bd hb
  have hb63 := fun i (hi : i < rows.length) => hb i hi
  obtain ⟨ao, n, rfl, hn, hc, hcm, hat⟩ := h.open2
  have hbad : ∀ e w', jerr rows = e → e ≠ 0 → Ext w w' → RetIE .i64 w (jres rows).length (jres rows) (jerr rows) (.returned (.tuple #[.slice none 0 0, .int .i64 e])) w' := fun e w' h1 h2 x => by
    have : jres rows = [] := by unfold jres; rw [if_neg (by omega)]
    rw [this, h1]; exact ⟨_, rfl, IS.nil _ _, x⟩
  have hE0 : n = 0 → jerr rows = 1 := fun h => jerr_empty (.inl (by omega))
  have hE1 : ∀ i, i < n → (ri rows i).length = 0 → jerr rows = 1 := fun i hi h => jerr_empty (.inr ⟨i, by omega, h⟩)
  have hE2 : (∀ i, i < n → 0 < (ri rows i).length) → ∀ i, i + 1 < n → mism rows i = true → jerr rows = 14 := fun h2 i hi hm => jerr_mism (by omega) (fun i hi => h2 i (by omega)) (by omega) hm
  have hE3 : 0 < n → (∀ i, i < n → 0 < (ri rows i).length) → (∀ i, i + 1 < n → mism rows i = false) → jerr rows = if 32 < tot rows n then 3 else 0 := fun h0 h2 h3 => by
    rw [jerr_fit (by omega) (fun i hi => h2 i (by omega)) (fun i hi => h3 i (by omega)), hn, tot_all (by omega) (fun i hi => h2 i (by omega))]
  have hmt : ∀ k, tot rows (k + 1) = tot rows k + ((ri rows k).length - 1) := fun k => rfl
  have hmbd : ∀ k, k ≤ n → 1 ≤ tot rows k ∧ tot rows k ≤ 1 + 1000 * k := fun k hk => hmb k (by omega)
  have hb2 : ∀ i, i < n → (ri rows i).length ≤ 1000 := fun i hi => hb i (by omega)
  have hfl : (∀ i, i < n → 0 < (ri rows i).length) → 0 < n → tot rows n = (jlist rows).length := fun h2 h0 => by rw [hn]; exact tot_all (by omega) (fun i hi => h2 i (by omega))
  rw [← hn] at hl
  have HR := Lib.hid hat; have HBad := Lib.hid hbad; have HE1 := Lib.hid hE1; have HE2 := Lib.hid hE2; have HE3 := Lib.hid hE3; have HT := Lib.hid hmt; have HTb := Lib.hid hmbd; have HB := Lib.hid hb2; have Hn := Lib.hid hn; have HFl := Lib.hid hfl
  unfold maxLen at hcm
  by_cases hn0 : n = 0
  · have HB0 := Lib.hid (fun w' x => HBad.out 1 w' (hE0 hn0) (by omega) x)
    clear hat hbad hE0 hE1 hE2 hE3 hmt hmbd hb2 hmb hb63 hb h hn
    subst hn0
    go_enter Tryd.func24, Tryd.ntmps24
    go_wp2
    go_ret2
    exact HB0.out _ (Ext.refl w)
  have hn1 : 0 < n := by omega
  have hnz : ((n : Int) == 0) = false := beq_eq_false_iff_ne.2 (by omega)
  clear hat hbad hE0 hE1 hE2 hE3 hmt hmbd hb2 hmb hb63 hb h hn hfl
  go_enter Tryd.func24, Tryd.ntmps24
  go_wp2
  go_loopw [4, 6, 16] (fun s _ i wr => ∃ k : Nat, k ≤ n ∧ i = .int .i64 k ∧ s = .int .i64 (tot rows k) ∧ Hid (Ext w wr) ∧ Hid (∀ i, i < k → 0 < (ri rows i).length)) (fun _ _ i _ => n - (intOf i).toNat)
  case atStart => exact ⟨0, Nat.zero_le _, rfl, rfl, Lib.hid (Ext.refl w), Lib.hid (fun i hi => by omega)⟩
  case round =>
    obtain ⟨k, hk, rfl, rfl, HX, HP⟩ := hrel
    by_cases hlt : k < n
    · obtain ⟨b, o, a, p, d, rfl, hc0, hp, hi⟩ := HR.out k hlt
      replace hc0 := HX.out.cell hc0
      have ht := HT.out k
      have htb := HTb.out k hk
      have hpb := HB.out k hlt
      rw [← hp] at ht hpb
      by_cases hz : p = 0
      · have HF := Lib.hid (HBad.out 1 wr (HE1.out k hlt (by omega)) (by omega) HX.out)
        have hz' : ((p : Int) == 0) = true := by rw [beq_iff_eq]; omega
        clear ht hpb hp hi
        subst hz
        go_wp2
        go_ret2
        exact HF.out
      · have hz' : ((p : Int) == 0) = false := by rw [beq_eq_false_iff_ne]; omega
        have HP2 := Lib.hid (show ∀ i, i < k + 1 → 0 < (ri rows i).length from fun i hi => by
          by_cases e : i = k
          · subst e; omega
          · exact HP.out i (by omega))
        have HTn := Lib.hid ht
        generalize tot rows k = T at *
        have w1 : IntKind.i64.wrap ((p : Int) - 1) = (p : Int) - 1 := IntWalk.i64_in _ ⟨by omega, by omega⟩
        have w2 : IntKind.i64.wrap ((T : Int) + ((p : Int) - 1)) = (T : Int) + ((p : Int) - 1) := IntWalk.i64_in _ ⟨by omega, by omega⟩
        have hz2 : ¬ p = 0 := hz
        clear ht hp hi
        go_wp2
        go_roundw
        case rel => exact ⟨k + 1, by omega, by go_num, by rw [HTn.out]; exact congrArg (Value.int .i64) (by omega), HX, HP2⟩
        case measure => simp [intOf]; omega
    · obtain rfl : n = k := by omega
      clear hlt
      go_wp2
      go_loopw [7] (fun i wr => ∃ k : Nat, k + 1 ≤ n ∧ i = .int .i64 ((k : Int) + 1) ∧ Hid (Ext w wr) ∧ Hid (∀ j, j < k → mism rows j = false)) (fun i _ => n - (intOf i).toNat)
      case atStart => exact ⟨0, by omega, rfl, HX, Lib.hid (fun j hj => by omega)⟩
      case round =>
        obtain ⟨k, hk2, rfl, HX2, HM⟩ := hrel
        by_cases hlt : k + 1 < n
        · obtain ⟨b, o, a, p, d, rfl, hc0, hp, hi⟩ := HR.out (k + 1) hlt
          obtain ⟨b', o', a', p', d', hbo, hc1, hp', hi'⟩ := HR.out k (by omega)
          obtain ⟨rfl, rfl⟩ : b = b' ∧ o = o' := by simpa using hbo
          replace hc0 := HX2.out.cell hc0; replace hc1 := HX2.out.cell hc1
          have hq := HP.out (k + 1) hlt
          have hq' := HP.out k (by omega)
          have hpb := HB.out (k + 1) hlt
          have hpb' := HB.out k (by omega)
          rw [← hp] at hq hpb; rw [← hp'] at hq' hpb'
          obtain ⟨b2, o2, rfl, hd0⟩ := hi.at hq
          obtain ⟨b3, o3, rfl, hd1⟩ := hi'.at hq'
          have e0 := HX2.out.cell (hd0 0 hq)
          have e1 := HX2.out.cell (hd1 (p' - 1) (by omega))
          rw [Nat.add_zero] at e0
          have hmm : mism rows k = decide (gi (ri rows (k + 1)) 0 ≠ gi (ri rows k) (p' - 1)) := by unfold mism; rw [hp']
          obtain ⟨A, hA⟩ : ∃ A, A = gi (ri rows (k + 1)) 0 := ⟨_, rfl⟩
          obtain ⟨Z, hZ⟩ : ∃ Z, Z = gi (ri rows k) (p' - 1) := ⟨_, rfl⟩
          rw [← hA] at e0 hmm; rw [← hZ] at e1 hmm
          have hX3 := HX2
          have HMm := Lib.hid hmm
          have t1 : (0 : Int) ≤ (k : Int) + 1 := by omega
          have t2 : ((k : Int) + 1).toNat = k + 1 := by omega
          have t3 : (k : Int) + 1 < n := by omega
          have t4 : IntKind.i64.wrap ((k : Int) + 1 - 1) = (k : Int) := by rw [show (k : Int) + 1 - 1 = k by omega]; exact IntWalk.i64_in _ ⟨by omega, by omega⟩
          have t5 : (k : Int) < n := by omega
          have t6 : (0 : Int) ≤ (k : Int) := by omega
          have t7 : IntKind.i64.wrap ((p' : Int) - 1) = (p' : Int) - 1 := IntWalk.i64_in _ ⟨by omega, by omega⟩
          have t8 : (0 : Int) ≤ (p' : Int) - 1 := by omega
          have t9 : ((p' : Int) - 1).toNat = p' - 1 := by omega
          have ta : (p' : Int) - 1 < p' := by omega
          have tb : (0 : Int) < p := by omega
          have tc : (1 : Int) ≤ p' := by omega
          have td : IntKind.i64.wrap (k : Int) = (k : Int) := IntWalk.i64_in _ ⟨by omega, by omega⟩
          clear hp hp' hi hi' hd0 hd1 hA hZ hmm hbo
          go_wp2
          go_quiet (fail)
          by_cases hAZ : A = Z
          · have tq : (A != Z) = false := by rw [hAZ]; simp
            have HM2 := Lib.hid (show ∀ j, j < k + 1 → mism rows j = false from fun j hj => by
              by_cases e : j = k
              · subst e; rw [HMm.out, hAZ]; simp
              · exact HM.out j (by omega))
            clear hAZ
            go_wp2
            go_roundw
            case rel => exact ⟨k + 1, by omega, by go_num, by first | exact HX2 | exact Lib.hid (HX2.out.drewN _), HM2⟩
            case measure => simp [intOf]; omega
          · have tq : (A != Z) = true := by rw [bne, beq_eq_false_iff_ne.2 hAZ]; rfl
            have HF := Lib.hid (fun w' x => HBad.out 14 w' (HE2.out HP.out k hlt (by rw [HMm.out]; simpa using hAZ)) (by omega) x)
            clear hAZ
            go_wp2
            go_ret2
            exact HF.out _ (by first | exact HX2.out | exact HX2.out.drewN _)
        · have hnk : n = k + 1 := by omega
          have hje := HE3.out (by omega) HP.out (fun i hi => HM.out i (by omega))
          have htb := HTb.out n (Nat.le_refl _)
          have hfl := HFl.out HP.out (by omega)
          have tl : ¬ ((k : Int) + 1 < n) := by omega
          have HNK := Lib.hid hnk
          clear hlt hnk
          generalize tot rows n = T at *
          by_cases h32 : 32 < T
          · have HF := Lib.hid (fun w' x => HBad.out 3 w' (by rw [hje, if_pos h32]) (by omega) x)
            have t0 : (32 : Int) < T := by omega
            clear hje h32
            go_wp2
            go_ret2
            exact HF.out _ HX2.out
          · rw [if_neg h32] at hje
            have t0 : ¬ (32 : Int) < T := by omega
            have HJE := Lib.hid hje; have HFL := Lib.hid hfl
            have hmk := run_make_lc (P := Tryd.prog) eiRow .i64 .i64 n n (by omega) (by omega) (by omega) wr
            have htake : (tails rows).flatten.length + 1 ≤ T := by
              have := HP.out 0 (by omega)
              rw [hfl]; unfold jlist; rw [List.length_append, List.length_take]; omega
            have hst : PT wr (wr.alloc (.cells (madeCells #[.slice none 0 0] n) 22)) wr.heap.size n 0 rows := ⟨(Ext.refl wr).alloc _, _, fun _ => 0, World.rowIs_made wr (.slice none 0 0) n _, fun i hi => by omega⟩
            have HST := Lib.hid hst; have HTk := Lib.hid htake
            obtain ⟨wo, rfl⟩ : ∃ wo : World, wo = wr := ⟨_, rfl⟩
            clear hje hst htake hfl h32
            go_wp2
            clear hmk
            obtain ⟨R, hR⟩ : ∃ R, R = wo.heap.size := ⟨_, rfl⟩
            rw [← hR] at HST ⊢
            have hwR : wo.heap.size ≤ R := by omega
            clear hR
            go_loopw [9, 10, 63] (fun _ _ i wr => ∃ j : Nat, j ≤ n ∧ i = .int .i64 j ∧ Hid (PT wo wr R n j rows)) (fun _ _ i _ => n - (intOf i).toNat)
            case atStart => exact ⟨0, Nat.zero_le _, rfl, HST⟩
            case round =>
              obtain ⟨j, hj, rfl, HJ⟩ := hrel
              by_cases hlt : j < n
              · obtain ⟨b, o, a, p, d, rfl, hc0, hp, hi⟩ := HR.out j hlt
                replace hc0 := (HX2.out.trans HJ.out.1).cell hc0
                have hq := HP.out j hlt
                rw [← hp] at hq
                obtain ⟨g1, g2, g3⟩ := hi.len
                rw [← hp] at g3
                obtain ⟨b5, o5, rfl, hfrom⟩ : ∃ b5 o5, a = some ⟨b5, o5, none⟩ ∧ IS .i64 w (.slice (if d = 1 then some ⟨b5, o5, none⟩ else some ⟨b5, o5 + 1, none⟩) (p - 1) (d - 1)) (d - 1) ((ri rows j).drop 1) := by
                  rcases hi.from 1 hq with ⟨b5, o5, h1, h2⟩ | ⟨h1, h2, _⟩
                  · exact ⟨b5, o5, h1, h2⟩
                  · omega
                have hput := HJ.out.put hwR hlt (hfrom.ext HX2.out)
                obtain ⟨f, cp, hrow, _⟩ := HJ.out.2
                have hcR := hrow.cell hlt
                have hfR := hrow.frozen j
                have u1 : (1 : Int) ≤ p := by omega
                have u2 : (1 : Int) ≤ d := by omega
                have u3 : 1 ≤ p := hq
                have u4 : 1 ≤ d := by omega
                have HPut := Lib.hid hput
                clear hp hi hfrom hput hrow g1 g2 g3 hq
                by_cases hd1 : d = 1
                · subst hd1
                  rw [if_pos rfl] at HPut
                  go_wp2
                  exact ⟨⟨j + 1, by omega, by go_num, HPut⟩, by simp [intOf]; omega⟩
                · rw [if_neg hd1] at HPut
                  go_wp2
                  exact ⟨⟨j + 1, by omega, by go_num, HPut⟩, by simp [intOf]; omega⟩
              · obtain rfl : n = j := by omega
                obtain ⟨b, o, a, p, d, rfl, hc0, hp, hi⟩ := HR.out 0 hn1
                have hq := HP.out 0 hn1
                rw [← hp] at hq
                replace hc0 := (HX2.out.trans HJ.out.1).cell hc0
                rw [Nat.add_zero] at hc0
                have hup := hi.upto (m := 1) hq
                have hup2 := hup.ext (HX2.out.trans HJ.out.1)
                have hiss := HJ.out.ret Hn.out (by unfold maxLen; omega)
                have hb1 := (HTk.out)
                have k1 := fun w' (x : Ext wr w') => joinedI_calls _ _ (tails rows) w' (hiss.ext x) (by omega)
                obtain ⟨b5, o5, rfl, _⟩ := hi.at hq
                have hx3 := HX2.out.trans HJ.out.1
                have k2 : ∀ (w' : World) (u : Value), Ext wr w' → IS .i64 w' u (tails rows).flatten.length (tails rows).flatten → Calls Tryd.prog 37 #[.slice (some ⟨w'.heap.size, 0, none⟩) 2 2] (w'.alloc (.cells #[.slice (some ⟨b5, o5, none⟩) 1 d, u] 22)) (RetI .i64 (w'.alloc (.cells #[.slice (some ⟨b5, o5, none⟩) 1 d, u] 22)) (jlist rows).length (jlist rows)) := fun w' u x hu => by
                  have := joinedI_calls _ _ [(ri rows 0).take 1, (tails rows).flatten] (w'.alloc (.cells #[.slice (some ⟨b5, o5, none⟩) 1 d, u] 22)) (ISS.lit2 rfl (hup2.ext x) hu) (by
                    simp only [List.flatten_cons, List.flatten_nil, List.append_nil, List.length_append, List.length_take]; omega)
                  simpa [jlist] using this
                have t00 : (0 : Int) < n := by omega
                have t11 : (1 : Int) ≤ p := by omega
                have t12 : (1 : Int) ≤ d := by have := hi.len.2.2; omega
                have K1 := Lib.hid k1; have K2 := Lib.hid k2; have HX3 := Lib.hid hx3
                clear hlt hp hi hup hup2 hiss hb1 k1 k2 hx3 hq
                clear HJ HST hk hk2 tl HE1 HE2 HT HTb HB HFl
                go_wp2
                go_region_held3 (fun w' => w'.cell? ⟨b, o, Option.none⟩ = some (.slice (some ⟨b5, o5, Option.none⟩) p d)) (first | exact hc0 | exact z0 | exact z1 | go_keep) (first
                  | (go_at_call_of 37 R; (refine (K1.out _ ?_).mono ?_); (focus (repeat (first | (with_reducible exact Ext.refl _) | (with_reducible apply Ext.drew) | (with_reducible apply Ext.drewN)))); intro e w5 hh; obtain ⟨v5, rfl, i5, x5, b9, o9, n9, c9, rfl⟩ := hh; have X5 : Hid (Ext wr w5) := Lib.hid (Ext.trans (by (repeat (first | (with_reducible exact Ext.refl _) | (with_reducible apply Ext.drew) | (with_reducible apply Ext.drewN)))) x5); have I5 := Lib.hid i5; have z0 := X5.out.cell hc0; clear i5 x5)
                  | (go_at_call 37; (refine (K2.out _ _ ?_ ?_).mono ?_); (focus (refine X5.out.trans ?_; (repeat (first | (with_reducible exact Ext.refl _) | (with_reducible apply Ext.drew) | (with_reducible apply Ext.drewN))))); (focus (refine I5.out.ext ?_; (repeat (first | (with_reducible exact Ext.refl _) | (with_reducible apply Ext.drew) | (with_reducible apply Ext.drewN))))); intro e w6 hh; obtain ⟨v6, rfl, i6, x6, b8, o8, n8, c8, rfl⟩ := hh; have X6 : Hid (Ext w5 w6) := Lib.hid (Ext.trans (Ext.alloc (by (repeat (first | (with_reducible exact Ext.refl _) | (with_reducible apply Ext.drew) | (with_reducible apply Ext.drewN)))) _) x6); have I6 := Lib.hid i6; have z1 := X6.out.cell z0; clear i6 x6))
                have HF := Lib.hid (show RetIE .i64 w (jres rows).length (jres rows) (jerr rows) (.returned (.tuple #[.slice (some ⟨b8, o8, none⟩) n8 c8, .int .i64 0])) w6 from by
                  have e : jres rows = jlist rows := by unfold jres; rw [if_pos HJE.out]
                  rw [e, HJE.out]
                  exact ⟨_, rfl, I6.out, HX3.out.trans (X5.out.trans X6.out)⟩)
                go_wp2
                go_ret2
                exact HF.out
end Go.Proofs.YtinijapkipeamaaDoor
/- The law ShapesJoin, walked. -/
namespace Go.Proofs.YtinijapkipeamaaDoor
set_option linter.unusedVariables false
set_option linter.unusedSimpArgs false
set_option maxRecDepth 8000
open Go Go.RowKit

def anyE (rows : List (List Int)) (k : Nat) : Bool := (List.range k).any (fun i => decide ((ri rows i).length = 0))
theorem anyE_succ (rows : List (List Int)) (k : Nat) : anyE rows (k + 1) = (anyE rows k || decide ((ri rows k).length = 0)) := by unfold anyE; rw [List.range_succ]; simp
theorem anyE_false {rows : List (List Int)} {k : Nat} (h : anyE rows k = false) : ∀ i, i < k → 0 < (ri rows i).length := fun i hi => by
  unfold anyE at h
  rw [List.any_eq_false] at h
  have := h i (List.mem_range.2 hi)
  simp at this; exact List.length_pos_iff.2 this
theorem anyE_true {rows : List (List Int)} {k : Nat} (h : anyE rows k = true) : ∃ i, i < k ∧ (ri rows i).length = 0 := by
  unfold anyE at h
  obtain ⟨i, hi, hb⟩ := List.any_eq_true.1 h
  exact ⟨i, List.mem_range.1 hi, by simpa using hb⟩
/-- Some of the first k lists does not begin where the one before ends. -/
def anyM (rows : List (List Int)) (k : Nat) : Bool := (List.range (k - 1)).any (mism rows)
theorem anyM_succ (rows : List (List Int)) {k : Nat} (h : 0 < k) : anyM rows (k + 1) = (anyM rows k || mism rows (k - 1)) := by
  obtain ⟨j, rfl⟩ : ∃ j, k = j + 1 := ⟨k - 1, by omega⟩
  unfold anyM
  rw [Nat.add_sub_cancel, Nat.add_sub_cancel, List.range_succ]
  simp
def al (rows : List (List Int)) : Nat → List Int
  | 0 => []
  | k + 1 => (if k = 0 then [gi (ri rows 0) 0] else al rows k) ++ (ri rows k).drop 1
theorem al_eq {rows : List (List Int)} (h : 0 < (ri rows 0).length) : ∀ k, k < rows.length → al rows (k + 1) = (ri rows 0).take 1 ++ (tails (rows.take (k + 1))).flatten
  | 0, hk => by
    have e : [gi (ri rows 0) 0] = (ri rows 0).take 1 := by
      rw [take_succ_gi (k := 0) h]; simp
    rw [al, if_pos rfl, e, take_succ_ri hk]
    simp [tails]
  | k + 1, hk => by
    rw [al, if_neg (by omega), al_eq h k (by omega), take_succ_ri hk]
    simp [tails]
theorem al_all {rows : List (List Int)} (h0 : 0 < rows.length) (h : 0 < (ri rows 0).length) : al rows rows.length = jlist rows := by
  obtain ⟨k, hk⟩ : ∃ k, rows.length = k + 1 := ⟨rows.length - 1, by omega⟩
  rw [hk, al_eq h k (by omega), ← hk, List.take_length]
  rfl
theorem al_len {rows : List (List Int)} (h : ∀ i, i < rows.length → (ri rows i).length ≤ 20) : ∀ k, k ≤ rows.length → (al rows k).length ≤ 21 * k
  | 0, _ => by simp [al]
  | k + 1, hk => by
    have := al_len h k (by omega)
    have := h k (by omega)
    rw [al]
    split
    · simp; omega
    · simp; omega

def ifE (b : Bool) : Int := if b then 1 else 0
def ifM (b : Bool) : Int := if b then 14 else 0
set_option maxHeartbeats 4000000 in
theorem ShapesJoin_walk (v : Value) (c : Nat) (rows : List (List Int)) (w : World) (h : ISS .i64 w v c rows) (hy : Sy w) :
    Calls Tryd.prog 7 #[v] w fun e w' => e = .returned (.bool true) ∧ Ext w w' := by
  have hJ := fun (hb : ∀ i, i < rows.length → (ri rows i).length ≤ 1000) (hl : rows.length ≤ 50) w' (x : Ext w w') => Join_calls v c rows w' (h.ext x) hb hl
  obtain ⟨ao, n, rfl, hn, hc, hcm, hat⟩ := h.open2
  have HJ := Lib.hid hJ; have HR := Lib.hid hat; have Hn := Lib.hid hn
  have HL := Lib.hid (fun w' (x : Ext w w') => lives_calls w' (hy.ext x))
  clear hJ hat hn h hy
  unfold maxLen at hcm
  by_cases hbig : 6 < n
  · have t1 : (6 : Int) < n := by omega
    go_enter Tryd.func7, Tryd.ntmps7
    go_wp2
    go_ret
    exact ⟨rfl, Ext.refl w⟩
  have t1 : ¬ (6 : Int) < n := by omega
  go_enter Tryd.func7, Tryd.ntmps7
  go_wp2
  go_loopw [3, 5] (fun s i wr => ∃ k : Nat, k ≤ n ∧ i = .int .i64 k ∧ s = .int .i64 (ifE (anyE rows k)) ∧ Hid (Ext w wr) ∧ Hid (∀ i, i < k → (ri rows i).length ≤ 20)) (fun _ i _ => n - (intOf i).toNat)
  case atStart => exact ⟨0, Nat.zero_le _, rfl, rfl, Lib.hid (Ext.refl w), Lib.hid (fun i hi => by omega)⟩
  case round =>
    obtain ⟨k, hk, rfl, rfl, HX, HP⟩ := hrel
    by_cases hlt : k < n
    · obtain ⟨b, o, a, p, d, rfl, hc0, hp, hi⟩ := HR.out k hlt
      replace hc0 := HX.out.cell hc0
      by_cases h20 : 20 < p
      · have t2 : (20 : Int) < p := by omega
        clear hp hi
        go_wp2
        go_ret
        exact ⟨rfl, HX.out⟩
      · have t2 : ¬ (20 : Int) < p := by omega
        have HP2 := Lib.hid (show ∀ i, i < k + 1 → (ri rows i).length ≤ 20 from fun i hi => by
          by_cases e : i = k
          · subst e; omega
          · exact HP.out i (by omega))
        have hsc := anyE_succ rows k
        rw [← hp] at hsc
        generalize anyE rows k = E at *
        by_cases hz : p = 0
        · have hz' : ((p : Int) == 0) = true := by rw [beq_iff_eq]; omega
          have hE : anyE rows (k + 1) = true := by rw [hsc, decide_eq_true hz]; simp
          have HE := Lib.hid hE
          clear hp hi hsc hE
          subst hz
          go_wp2
          go_roundw
          case rel => exact ⟨k + 1, by omega, by go_num, by rw [HE.out]; rfl, HX, HP2⟩
          case measure => simp [intOf]; omega
        · have hz' : ((p : Int) == 0) = false := by rw [beq_eq_false_iff_ne]; omega
          have hE : anyE rows (k + 1) = E := by rw [hsc, decide_eq_false hz]; simp
          have HE := Lib.hid hE
          clear hp hi hsc hE
          go_wp2
          go_roundw
          case rel => exact ⟨k + 1, by omega, by go_num, by rw [HE.out], HX, HP2⟩
          case measure => simp [intOf]; omega
    · obtain rfl : n = k := by omega
      clear hlt
      have hJ := HJ.out (fun i hi => by have := HP.out i (by rw [Hn.out]; exact hi); omega) (by rw [← Hn.out]; omega)
      by_cases hemp : n = 0 ∨ anyE rows n = true
      · have he : jerr rows = 1 := by
          rcases hemp with h | h
          · exact jerr_empty (.inl (by rw [← Hn.out]; exact h))
          · obtain ⟨i, hi, h2⟩ := anyE_true h
            exact jerr_empty (.inr ⟨i, by rw [← Hn.out]; exact hi, h2⟩)
        have hr : jres rows = [] := by unfold jres; rw [if_neg (by omega)]
        rw [he, hr] at hJ
        have HJ2 := Lib.hid hJ
        clear hJ HJ he hr
        by_cases hn0 : n = 0
        · clear hemp
          have hie : ifE (anyE rows n) = 0 := by rw [hn0]; rfl
          rw [hie]
          subst hn0
          go_wp2
          go_loopw [3, 4, 6] (fun s l i wr => s = .int .i64 1 ∧ i = .int .i64 0 ∧ Hid (Ext w wr)) (fun _ _ _ _ => 0)
          case atStart => exact ⟨rfl, rfl, HX⟩
          case round =>
            obtain ⟨rfl, rfl, HX2⟩ := hrel
            go_wp2_with fail
            refine (HJ2.out _ HX2.out).mono ?_
            rintro e w2 ⟨v2, rfl, i2, x2⟩
            obtain ⟨a2, n2, c2, rfl, rfl, rfl, q2⟩ := i2.out
            have X2 := Lib.hid (HX2.out.trans x2)
            clear i2 x2 q2 HJ2
            go_wp2_with fail
            refine (HL.out _ X2.out).mono ?_
            rintro e w3 ⟨rfl, x3⟩
            have X3 := Lib.hid (X2.out.trans x3)
            clear x3 HL
            go_wp2
            go_ret
            exact ⟨rfl, X3.out⟩
        · have hnz : ((n : Int) == 0) = false := beq_eq_false_iff_ne.2 (by omega)
          have hie : ifE (anyE rows n) = 1 := by rcases hemp with h | h; exact absurd h hn0; rw [h]; rfl
          clear hemp
          rw [hie]
          go_wp2
          go_loopw [3, 4, 6] (fun s l i wr => s = .int .i64 1 ∧ i = .int .i64 0 ∧ Hid (Ext w wr)) (fun _ _ _ _ => 0)
          case atStart => exact ⟨rfl, rfl, HX⟩
          case round =>
            obtain ⟨rfl, rfl, HX2⟩ := hrel
            go_wp2_with fail
            refine (HJ2.out _ HX2.out).mono ?_
            rintro e w2 ⟨v2, rfl, i2, x2⟩
            obtain ⟨a2, n2, c2, rfl, rfl, rfl, q2⟩ := i2.out
            have X2 := Lib.hid (HX2.out.trans x2)
            clear i2 x2 q2 HJ2
            go_wp2_with fail
            refine (HL.out _ X2.out).mono ?_
            rintro e w3 ⟨rfl, x3⟩
            have X3 := Lib.hid (X2.out.trans x3)
            clear x3 HL
            go_wp2
            go_ret
            exact ⟨rfl, X3.out⟩
      · have hn0 : 0 < n := by omega
        have hE : anyE rows n = false := by cases h : anyE rows n; rfl; exact absurd (.inr h) hemp
        have hie : ifE (anyE rows n) = 0 := by rw [hE]; rfl
        have hpos := anyE_false hE
        have hfull := jerr_full (rows := rows) (by rw [← Hn.out]; exact hn0) (fun i hi => hpos i (by rw [Hn.out]; exact hi))
        have hall : al rows n = jlist rows := by rw [Hn.out]; exact al_all (by rw [← Hn.out]; exact hn0) (hpos 0 hn0)
        have hall2 : ∀ k, k ≤ n → (al rows k).length ≤ 21 * k := fun k hk => al_len (fun i hi => HP.out i (by rw [Hn.out]; exact hi)) k (by rw [← Hn.out]; exact hk)
        have hje : jerr rows = if anyM rows n then 14 else if 32 < (jlist rows).length then 3 else 0 := by rw [hfull]; unfold anyM; rw [← Hn.out]
        have hnz : ((n : Int) == 0) = false := beq_eq_false_iff_ne.2 (by omega)
        have HPos := Lib.hid hpos; have HAll := Lib.hid hall; have HAl := Lib.hid hall2; have HJe := Lib.hid hje; have HJ2 := Lib.hid hJ
        rw [hie]
        clear hemp hE hie hpos hfull hall hall2 hje hJ HJ
        go_wp2
        go_loopw [3, 4, 6] (fun s l i wr => ∃ k : Nat, k ≤ n ∧ s = .int .i64 (ifM (anyM rows k)) ∧ i = .int .i64 k ∧ Hid (wr.ownsRow w.heap.size 3 1 l (al rows k).length ((al rows k).map (Value.int .i64)) ∧ Ext w wr)) (fun _ _ i _ => n - (intOf i).toNat)
        case atStart => exact ⟨0, by omega, rfl, rfl, Lib.hid ⟨World.ownsRow_nil _ _ _ _, HX.out⟩⟩
        case round =>
          obtain ⟨k, hk, rfl, rfl, H⟩ := hrel
          by_cases hlt : k < n
          · skip
            obtain ⟨b, o, a, p, d, rfl, hc0, hp, hi⟩ := HR.out k hlt
            have hq := HPos.out k hlt
            have h20 := HP.out k hlt
            rw [← hp] at hq h20
            obtain ⟨g1, g2, g3⟩ := hi.len
            rw [← hp] at g3
            obtain ⟨b5, o5, rfl, hfrom⟩ : ∃ b5 o5, a = some ⟨b5, o5, none⟩ ∧ IS .i64 w (.slice (if d = 1 then some ⟨b5, o5, none⟩ else some ⟨b5, o5 + 1, none⟩) (p - 1) (d - 1)) (d - 1) ((ri rows k).drop 1) := by
              rcases hi.from 1 hq with ⟨b5, o5, h1, h2⟩ | ⟨h1, h2, _⟩
              · exact ⟨b5, o5, h1, h2⟩
              · omega
            obtain ⟨b9, o9, h9, hd0⟩ := hi.at hq
            obtain ⟨rfl, rfl⟩ : b5 = b9 ∧ o5 = o9 := by simpa using h9
            have e0 := H.out.2.cell (hd0 0 hq)
            rw [Nat.add_zero] at e0
            have e00 := hd0 0 hq
            rw [Nat.add_zero] at e00
            have hcw : ∀ w', Ext w w' → w'.cell? ⟨b, o + k, none⟩ = some (.slice (some ⟨b5, o5, none⟩) p d) := fun w' x => x.cell hc0
            replace hc0 := H.out.2.cell hc0
            have u1 : (1 : Int) ≤ p := by omega
            have u2 : (1 : Int) ≤ d := by omega
            have u3 : 1 ≤ p := hq
            have u4 : 1 ≤ d := by omega
            have u5 : (0 : Int) < p := by omega
            have u6 : (k : Int) < n := by omega
            obtain ⟨D, hD⟩ : ∃ D, D = (ri rows k).drop 1 := ⟨_, rfl⟩
            have hDl : D.length ≤ 20 := by rw [hD, List.length_drop]; omega
            rw [← hD] at hfrom
            have HFr := Lib.hid hfrom; have Hp := Lib.hid hp; have HCw := Lib.hid hcw; have HD := Lib.hid hD
            clear hfrom hp hi g1 g2 g3 hd0 h9 hcw hD
            by_cases hk0 : k = 0
            · have hie : ifM (anyM rows k) = 0 := by rw [hk0]; rfl
              have hie2 : ifM (anyM rows (k + 1)) = 0 := by rw [hk0]; rfl
              have hal : al rows (k + 1) = [gi (ri rows 0) 0] ++ (ri rows k).drop 1 := by rw [al, if_pos hk0]
              have hal0 : al rows k = [] := by rw [hk0]; rfl
              obtain ⟨A, hA⟩ : ∃ A, A = gi (ri rows 0) 0 := ⟨_, rfl⟩
              obtain ⟨X, hX⟩ : ∃ X : List Int, X = [A] := ⟨_, rfl⟩
              obtain ⟨q1, hq1⟩ : ∃ q1 : Nat, q1 = 1 := ⟨_, rfl⟩
              have HSt := Lib.hid (show ∀ w1 l' w2, w2.ownsRow w.heap.size 3 1 l' (q1 + D.length) (X.map (Value.int .i64) ++ D.map (Value.int .i64)) → Below w.heap.size w1 w2 → Ext w w1 → (w2.ownsRow w.heap.size 3 1 l' (al rows (k + 1)).length ((al rows (k + 1)).map (Value.int .i64)) ∧ Ext w w2) from fun w1 l' w2 ho hb hx => by
                rw [hal, ← HD.out, List.length_append, List.map_append, ← hA, ← hX, show X.length = q1 by rw [hX, hq1]; rfl]; exact ⟨ho, Below.trans hx hb⟩)
              have HAl2 := Lib.hid (show q1 ≤ 100 by omega)
              have HXA := Lib.hid hX; have HQ1 := Lib.hid hq1
              have hown0 := H.out.1
              rw [hal0] at hown0
              have HOw := Lib.hid hown0
              have HX2 := Lib.hid H.out.2
              have HHie := Lib.hid hie2
              rw [hie]
              subst hk0
              rw [Nat.add_zero] at hc0
              rw [← hA] at e0 e00
              clear hie hie2 hal hal0 hown0 H hA hX hq1
              have hsz := HX2.out.size
              go_wp2
              go_quiet (fail)
              go_wp2_with (at_builtin; refine app_own eiInt rfl _ _ rfl w.heap.size _ 0 [] rfl (World.ownsRow.alloc (by exact HOw.out) _) _ _ _ rfl (VS.one _ _ _) (one1 _) ?e111 ?e112 ?e113 ?_)
              any_goals (first | omega | (simp; done) | (simp only [List.length_cons, List.length_nil]; omega) | (simp; omega))
              intro v1 w1 hown1 hbel1
              have HX1 := Lib.hid (show Ext w w1 from Below.trans ((HX2.out.drewN _).alloc _) hbel1)
              have HO1 := Lib.hid (show w1.ownsRow w.heap.size 3 1 v1 q1 (X.map (Value.int .i64)) from by rw [HXA.out, HQ1.out]; exact hown1)
              have hc1 := HCw.out _ HX1.out
              rw [Nat.add_zero] at hc1
              clear hown1 hbel1 hc0 e0 HOw hsz
              by_cases hd1 : d = 1
              · subst hd1
                rw [if_pos rfl] at HFr
                go_wp2_with (at_builtin; go_loud (refine app_own eiInt rfl _ _ rfl w.heap.size _ q1 ((X).map (Value.int .i64)) rfl HO1.out _ _ _ rfl (HFr.out.ext HX1.out) (onesI _) ?e121 ?e122 ?e123 ?_))
                case e121 => rw [List.length_map]; have := HAl2.out; omega
                case e122 => rw [List.length_map]; have := HAl2.out; omega
                case e123 => exact HX1.out.size
                intro v' w' hown hbel
                have HO := Lib.hid (HSt.out _ _ _ hown hbel HX1.out)
                clear hown hbel
                go_wp2
                go_roundw
                case rel => exact ⟨0 + 1, by omega, by rw [HHie.out], by go_num, HO⟩
                case measure => simp [intOf]; omega
              · rw [if_neg hd1] at HFr
                go_wp2_with (at_builtin; go_loud (refine app_own eiInt rfl _ _ rfl w.heap.size _ q1 ((X).map (Value.int .i64)) rfl HO1.out _ _ _ rfl (HFr.out.ext HX1.out) (onesI _) ?e131 ?e132 ?e133 ?_))
                case e131 => rw [List.length_map]; have := HAl2.out; omega
                case e132 => rw [List.length_map]; have := HAl2.out; omega
                case e133 => exact HX1.out.size
                intro v' w' hown hbel
                have HO := Lib.hid (HSt.out _ _ _ hown hbel HX1.out)
                clear hown hbel
                go_wp2
                go_roundw
                case rel => exact ⟨0 + 1, by omega, by rw [HHie.out], by go_num, HO⟩
                case measure => simp [intOf]; omega
            · skip
              obtain ⟨j, rfl⟩ : ∃ j, k = j + 1 := ⟨k - 1, by omega⟩
              obtain ⟨b', o', a', p', d', hbo, hc1, hp', hi'⟩ := HR.out j (by omega)
              obtain ⟨rfl, rfl⟩ : b = b' ∧ o = o' := by simpa using hbo
              replace hc1 := H.out.2.cell hc1
              have hq' := HPos.out j (by omega)
              have hpb' := HP.out j (by omega)
              rw [← hp'] at hq' hpb'
              obtain ⟨b3, o3, rfl, hd1⟩ := hi'.at hq'
              have e1 := H.out.2.cell (hd1 (p' - 1) (by omega))
              have hms := anyM_succ rows (k := j + 1) (by omega)
              rw [Nat.add_sub_cancel] at hms
              have hmm : mism rows j = decide (gi (ri rows (j + 1)) 0 ≠ gi (ri rows j) (p' - 1)) := by unfold mism; rw [hp']
              obtain ⟨A, hA⟩ : ∃ A, A = gi (ri rows (j + 1)) 0 := ⟨_, rfl⟩
              obtain ⟨Z, hZ⟩ : ∃ Z, Z = gi (ri rows j) (p' - 1) := ⟨_, rfl⟩
              rw [← hA] at e0 e00 hmm; rw [← hZ] at e1 hmm
              have hal : al rows (j + 1 + 1) = al rows (j + 1) ++ (ri rows (j + 1)).drop 1 := by rw [al, if_neg (by omega)]
              have hll := HAl.out (j + 1) (by omega)
              obtain ⟨X, hX⟩ : ∃ X, X = al rows (j + 1) := ⟨_, rfl⟩
              obtain ⟨q1, hq1⟩ : ∃ q1 : Nat, q1 = X.length := ⟨_, rfl⟩
              have HSt := Lib.hid (show ∀ w1 l' w2, w2.ownsRow w.heap.size 3 1 l' (q1 + D.length) (X.map (Value.int .i64) ++ D.map (Value.int .i64)) → Below w.heap.size w1 w2 → Ext w w1 → (w2.ownsRow w.heap.size 3 1 l' (al rows (j + 1 + 1)).length ((al rows (j + 1 + 1)).map (Value.int .i64)) ∧ Ext w w2) from fun w1 l' w2 ho hb hx => by
                rw [hal, ← HD.out, List.length_append, List.map_append, ← hX, ← hq1]; exact ⟨ho, Below.trans hx hb⟩)
              have HAl2 := Lib.hid (show q1 ≤ 200 by rw [hq1, hX]; omega)
              have HO1 := Lib.hid (show wr.ownsRow w.heap.size 3 1 _ q1 (X.map (Value.int .i64)) from by rw [hq1, hX]; exact H.out.1)
              have HX1 := Lib.hid H.out.2
              have HMm := Lib.hid hmm; have HMs := Lib.hid hms
              obtain ⟨E, hE⟩ : ∃ E, E = ifM (anyM rows (j + 1)) := ⟨_, rfl⟩
              rw [← hE]
              have t0 : (E != 1) = true := by rw [hE]; unfold ifM; split <;> rfl
              have HE := Lib.hid hE
              have t1' : (0 : Int) ≤ (j : Int) + 1 := by omega
              have t2 : ((j : Int) + 1).toNat = j + 1 := by omega
              have t3 : (j : Int) + 1 < n := by omega
              have t4 : IntKind.i64.wrap ((j : Int) + 1 - 1) = (j : Int) := by rw [show (j : Int) + 1 - 1 = j by omega]; exact IntWalk.i64_in _ ⟨by omega, by omega⟩
              have t5 : (j : Int) < n := by omega
              have t6 : (0 : Int) ≤ (j : Int) := by omega
              have t7 : IntKind.i64.wrap ((p' : Int) - 1) = (p' : Int) - 1 := IntWalk.i64_in _ ⟨by omega, by omega⟩
              have t8 : (0 : Int) ≤ (p' : Int) - 1 := by omega
              have t9 : ((p' : Int) - 1).toNat = p' - 1 := by omega
              have ta : (p' : Int) - 1 < p' := by omega
              have tb : (1 : Int) ≤ p' := by omega
              have td : IntKind.i64.wrap (j : Int) = (j : Int) := IntWalk.i64_in _ ⟨by omega, by omega⟩
              have te : (0 : Int) < (j : Int) + 1 := by omega
              have tf : (((j : Int) + 1) == 0) = false := beq_eq_false_iff_ne.2 (by omega)
              clear hp' hi' hd1 hA hZ hmm hms hbo hal hll hX hq1 hE H
              go_wp2
              go_quiet (fail)
              have HO1 := Lib.hid (own_ext HO1.out (show Ext wr (wr.drewN nq) from (Ext.refl wr).drewN nq))
              have HX1 := Lib.hid (HX1.out.drewN nq)
              clear e0 e1 e00 hc1
              by_cases hAZ : A = Z
              · have tq : (A != Z) = false := by rw [hAZ]; simp
                have HQ := Lib.hid (show ifM (anyM rows (j + 1 + 1)) = E by rw [HMs.out, HMm.out, hAZ, HE.out]; simp)
                clear hAZ
                by_cases hd1 : d = 1
                · subst hd1
                  rw [if_pos rfl] at HFr
                  go_wp2_with (at_builtin; go_loud (refine app_own eiInt rfl _ _ rfl w.heap.size _ q1 ((X).map (Value.int .i64)) rfl HO1.out _ _ _ rfl (HFr.out.ext HX1.out) (onesI _) ?e141 ?e142 ?e143 ?_))
                  case e141 => rw [List.length_map]; have := HAl2.out; omega
                  case e142 => rw [List.length_map]; have := HAl2.out; omega
                  case e143 => exact HX1.out.size
                  intro v' w' hown hbel
                  have HO := Lib.hid (HSt.out _ _ _ hown hbel HX1.out)
                  clear hown hbel
                  go_wp2
                  go_roundw
                  case rel => exact ⟨(j + 1) + 1, by omega, by rw [HQ.out], by go_num, HO⟩
                  case measure => simp [intOf]; omega
                · rw [if_neg hd1] at HFr
                  go_wp2_with (at_builtin; go_loud (refine app_own eiInt rfl _ _ rfl w.heap.size _ q1 ((X).map (Value.int .i64)) rfl HO1.out _ _ _ rfl (HFr.out.ext HX1.out) (onesI _) ?e151 ?e152 ?e153 ?_))
                  case e151 => rw [List.length_map]; have := HAl2.out; omega
                  case e152 => rw [List.length_map]; have := HAl2.out; omega
                  case e153 => exact HX1.out.size
                  intro v' w' hown hbel
                  have HO := Lib.hid (HSt.out _ _ _ hown hbel HX1.out)
                  clear hown hbel
                  go_wp2
                  go_roundw
                  case rel => exact ⟨(j + 1) + 1, by omega, by rw [HQ.out], by go_num, HO⟩
                  case measure => simp [intOf]; omega
              · have tq : (A != Z) = true := by rw [bne, beq_eq_false_iff_ne.2 hAZ]; rfl
                have HQ := Lib.hid (show ifM (anyM rows (j + 1 + 1)) = 14 by rw [HMs.out, HMm.out, decide_eq_true hAZ]; simp [ifM])
                clear hAZ
                by_cases hd1 : d = 1
                · subst hd1
                  rw [if_pos rfl] at HFr
                  go_wp2_with (at_builtin; go_loud (refine app_own eiInt rfl _ _ rfl w.heap.size _ q1 ((X).map (Value.int .i64)) rfl HO1.out _ _ _ rfl (HFr.out.ext HX1.out) (onesI _) ?e161 ?e162 ?e163 ?_))
                  case e161 => rw [List.length_map]; have := HAl2.out; omega
                  case e162 => rw [List.length_map]; have := HAl2.out; omega
                  case e163 => exact HX1.out.size
                  intro v' w' hown hbel
                  have HO := Lib.hid (HSt.out _ _ _ hown hbel HX1.out)
                  clear hown hbel
                  go_wp2
                  go_roundw
                  case rel => exact ⟨(j + 1) + 1, by omega, by rw [HQ.out], by go_num, HO⟩
                  case measure => simp [intOf]; omega
                · rw [if_neg hd1] at HFr
                  go_wp2_with (at_builtin; go_loud (refine app_own eiInt rfl _ _ rfl w.heap.size _ q1 ((X).map (Value.int .i64)) rfl HO1.out _ _ _ rfl (HFr.out.ext HX1.out) (onesI _) ?e171 ?e172 ?e173 ?_))
                  case e171 => rw [List.length_map]; have := HAl2.out; omega
                  case e172 => rw [List.length_map]; have := HAl2.out; omega
                  case e173 => exact HX1.out.size
                  intro v' w' hown hbel
                  have HO := Lib.hid (HSt.out _ _ _ hown hbel HX1.out)
                  clear hown hbel
                  go_wp2
                  go_roundw
                  case rel => exact ⟨(j + 1) + 1, by omega, by rw [HQ.out], by go_num, HO⟩
                  case measure => simp [intOf]; omega
          · skip
            obtain rfl : n = k := by omega
            obtain ⟨cA, hI⟩ := IS.of_own (k := .i64) H.out.1
            obtain ⟨aA, nA, cA', rfl, hnA, rfl, hI2⟩ := hI.out
            have HX2 := Lib.hid H.out.2
            have hje := HJe.out
            have hJ := HJ2.out
            have hnl : nA = (jlist rows).length := by rw [hnA, HAll.out]
            have tl : ¬ ((n : Int) < n) := by omega
            have hI3 := hI2
            rw [HAll.out] at hI3
            have HI3 := Lib.hid hI3
            clear hI hI2 hI3 hnA H hlt
            cases hM : anyM rows n
            · rw [hM] at hje
              simp only [Bool.false_eq_true, if_false] at hje
              have hie : ifM false = 0 := rfl
              rw [hie]
              by_cases h32 : 32 < nA
              · have t32 : (32 : Int) < nA := by omega
                rw [← hnl, if_pos h32] at hje
                have hr : jres rows = [] := by unfold jres; rw [if_neg (by omega)]
                rw [hje, hr] at hJ
                replace HJ2 := Lib.hid hJ
                clear hJ hje hr hnl h32
                go_wp2_with fail
                refine (HJ2.out _ HX2.out).mono ?_
                rintro e w2 ⟨v2, rfl, i2, x2⟩
                obtain ⟨a2, n2, c2, rfl, rfl, rfl, q2⟩ := i2.out
                have X2 := Lib.hid (HX2.out.trans x2)
                clear i2 x2 q2 HJ2
                go_wp2_with fail
                refine (HL.out _ X2.out).mono ?_
                rintro e w3 ⟨rfl, x3⟩
                have X3 := Lib.hid (X2.out.trans x3)
                clear x3 HL
                go_wp2
                go_ret
                exact ⟨rfl, X3.out⟩
              · have t32 : ¬ (32 : Int) < nA := by omega
                rw [← hnl, if_neg h32] at hje
                have hr : jres rows = jlist rows := by unfold jres; rw [if_pos hje]
                rw [hje, hr] at hJ
                replace HJ2 := Lib.hid hJ
                have Hnl := Lib.hid hnl
                clear hJ hje hr h32 hnl
                go_wp2_with fail
                refine (HJ2.out _ HX2.out).mono ?_
                rintro e w2 ⟨v2, rfl, i2, x2⟩
                have q := same_calls v2 _ _ _ _ _ w2 i2 (HI3.out.ext x2)
                rw [show sm (jlist rows) (jlist rows) = 0 from if_pos rfl] at q
                obtain ⟨a2, n2, c2, rfl, hn2, hc2, q2⟩ := i2.out
                rw [← Hnl.out] at hn2 hc2
                subst hn2; subst hc2
                have X2 := Lib.hid (HX2.out.trans x2); have Q := Lib.hid q
                clear i2 x2 q2 HJ2 q
                go_wp2_with fail
                refine Q.out.mono ?_
                rintro e w3 ⟨rfl, x3⟩
                have X3 := Lib.hid (X2.out.trans x3)
                clear x3 Q
                go_wp2_with fail
                refine (HL.out _ X3.out).mono ?_
                rintro e w4 ⟨rfl, x4⟩
                have X4 := Lib.hid (X3.out.trans x4)
                clear x4 HL
                go_wp2
                go_ret
                exact ⟨rfl, X4.out⟩
            · rw [hM] at hje
              simp only [if_true] at hje
              have hie : ifM true = 14 := rfl
              rw [hie]
              have hr : jres rows = [] := by unfold jres; rw [if_neg (by omega)]
              rw [hje, hr] at hJ
              replace HJ2 := Lib.hid hJ
              clear hJ hje hr hnl
              go_wp2_with fail
              refine (HJ2.out _ HX2.out).mono ?_
              rintro e w2 ⟨v2, rfl, i2, x2⟩
              obtain ⟨a2, n2, c2, rfl, rfl, rfl, q2⟩ := i2.out
              have X2 := Lib.hid (HX2.out.trans x2)
              clear i2 x2 q2 HJ2
              go_wp2_with fail
              refine (HL.out _ X2.out).mono ?_
              rintro e w3 ⟨rfl, x3⟩
              have X3 := Lib.hid (X2.out.trans x3)
              clear x3 HL
              go_wp2
              go_ret
              exact ⟨rfl, X3.out⟩
end Go.Proofs.YtinijapkipeamaaDoor
