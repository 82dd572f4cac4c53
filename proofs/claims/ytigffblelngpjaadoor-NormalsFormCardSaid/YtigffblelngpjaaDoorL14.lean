/- Texts of this claim in one file: libraries and walks. -/
import Derived.Deep.RegionHeld3
import Derived.RegionTactic
import Derived.Deep.CutBlock
import Derived.Test.YtigffblelngpjaaDoorL0
import Derived.Test.YtigffblelngpjaaDoorL10
import Derived.Test.YtigffblelngpjaaDoorL13
/- Contracts of normals.ends, flip, and of the closure of put that moves letters. -/
namespace Go.Proofs.YtigffblelngpjaaDoor
set_option linter.unusedVariables false
set_option linter.unusedSimpArgs false
set_option maxRecDepth 8000
open Go Go.RowKit

theorem fall_shift {xs ys : List Int} {n k : Nat} (h : ∀ i, i < n → gi ys i = gi xs i - 1) (h1 : 1 ≤ k) (h2 : k < n) : fallB ys k = fallB xs k := by
  unfold fallB
  rw [h k h2, h (k - 1) (by omega)]
  exact decide_eq_decide.2 (by omega)
set_option maxHeartbeats 2000000 in
theorem Ends8_calls (n : Nat) (v : Value) (c : Nat) (xs : List Int) (w : World) (h : IS .u8 w v c xs) (hp : PM n xs) (h1 : 1 ≤ n) (h8 : n ≤ 8) :
    Calls Tryd.prog 56 #[v] w fun e w' => e = .returned (.int .u8 (setN (fallB (invL xs)) (n - 1) : Nat)) ∧ Ext w w' := by
  obtain ⟨_, _, ao, rfl, hao⟩ := h.open
  obtain ⟨b, o, rfl, hx⟩ : ∃ b o, ao = some ⟨b, o, none⟩ ∧ ∀ i, i < xs.length → w.cell? ⟨b, o + i, none⟩ = some (.int .u8 (gi xs i)) := by
    rcases hao with ⟨_, h0, _⟩ | h
    · have := hp.len; omega
    · exact h
  obtain rfl : n = xs.length := hp.len.symm
  have hbd := fun i (hi : i < xs.length) => show 1 ≤ gi xs i ∧ gi xs i ≤ (xs.length : Int) from by have := hp.bd (i := i + 1) (by omega) (by omega); rwa [Nat.add_sub_cancel] at this
  have hfin : ∀ (W : World) (q : Nat), W.rowIs q 93 8 (fun j => .int .u8 (upd (fun k => (gi xs k - 1).toNat) (fun k => (k : Int)) xs.length j)) →
      Calls Tryd.prog 54 #[.slice (some ⟨q, 0, none⟩) xs.length 8] W fun e w' => e = .returned (.int .u8 (setN (fallB (invL xs)) (xs.length - 1) : Nat)) ∧ Ext W w' := fun W q hr => by
    obtain ⟨ys, hys⟩ : ∃ ys : List Int, ys = (List.range xs.length).map (upd (fun k => (gi xs k - 1).toNat) (fun k => (k : Int)) xs.length) := ⟨_, rfl⟩
    have hyl : ys.length = xs.length := by rw [hys]; simp
    have hyg : ∀ i, i < xs.length → gi ys i = upd (fun k => (gi xs k - 1).toNat) (fun k => (k : Int)) xs.length i := fun i hi => by rw [hys, gi_range_map _ hi]
    have his : IS .u8 W (.slice (some ⟨q, 0, none⟩) xs.length 8) 8 ys := IS.mk hyl.symm h8 (by unfold maxLen; omega) fun i hi => by rw [Nat.zero_add, hr.cell (by omega), hyg i hi]
    have hst := Starts8_calls _ 8 ys W his (by omega) (by omega)
    rw [hyl] at hst
    have hshift : ∀ i, i < xs.length → gi ys i = gi (invL xs) i - 1 := fun i hi => by
      obtain ⟨k, hk, e⟩ := pok_hit hp.ok hi
      have e2 := invL_at hp.ok hk
      rw [e, show ((i : Int) + 1 - 1).toNat = i by omega] at e2
      have key : upd (fun k => (gi xs k - 1).toNat) (fun k => (k : Int)) xs.length ((fun k => (gi xs k - 1).toNat) k) = (k : Int) :=
        upd_inj (fun a b hab hb e => by
          have ha1 := hbd a (by omega); have hb1 := hbd b hb
          have := pok_inj hp.ok (i := a + 1) (j := b + 1) (by omega) (by omega) (by omega) (by omega) (by rw [Nat.add_sub_cancel, Nat.add_sub_cancel]; omega)
          omega) hk
      simp only [e, show ((i : Int) + 1 - 1).toNat = i by omega] at key
      rw [hyg i hi, key, e2]; omega
    rw [setN_congr (q := fallB (invL xs)) fun k h1 h2 => fall_shift hshift h1 (by omega)] at hst
    exact hst
  obtain ⟨N, hN⟩ : ∃ N, N = xs.length := ⟨_, rfl⟩
  obtain ⟨R, hR⟩ : ∃ R, R = setN (fallB (invL xs)) (xs.length - 1) := ⟨_, rfl⟩
  rw [← hR] at hfin ⊢
  rw [← hN] at hx h1 h8 hbd hfin
  have HX := Lib.hid hx; have Hbd := Lib.hid hbd; have HF := Lib.hid hfin
  simp only [← hN]
  clear h hx hp hbd hfin hN hR
  go_enter Tryd.func56, Tryd.ntmps56
  go_wp2
  go_loopw [4, 5, 8] (fun _ _ i wr => ∃ k : Nat, k ≤ N ∧ i = .int .i64 k ∧ Hid (Ext w wr ∧ wr.rowIs w.heap.size 93 8 (fun j => .int .u8 (upd (fun k => (gi xs k - 1).toNat) (fun k => (k : Int)) k j)))) (fun _ _ i _ => N - (intOf i).toNat)
  case atStart => exact ⟨0, Nat.zero_le _, rfl, Lib.hid ⟨(Ext.refl w).alloc _, ⟨_, Deep.blk_alloc_new _ _, rfl, fun i hi => by
    rcases (show i = 0 ∨ i = 1 ∨ i = 2 ∨ i = 3 ∨ i = 4 ∨ i = 5 ∨ i = 6 ∨ i = 7 by omega) with rfl | rfl | rfl | rfl | rfl | rfl | rfl | rfl <;> rfl⟩⟩⟩
  case round =>
    obtain ⟨k, hk, rfl, H⟩ := hrel
    by_cases hlt : k < N
    · have t1 : (k : Int) < N := by omega
      have t1' : (0 : Int) ≤ k := by omega
      have hck := H.out.1.cell (HX.out k hlt)
      have hb := Hbd.out k hlt
      obtain ⟨y, hy⟩ : ∃ y, y = (gi xs k - 1).toNat := ⟨_, rfl⟩
      have hyi : gi xs k - 1 = (y : Int) := by omega
      have hst := H.out.2.cell (i := y) (by omega)
      have hfz := H.out.2.frozen y
      have hset := H.out.2.set y (.int .u8 (k : Int))
      have HN := Lib.hid (show Ext w (wr.setCell ⟨w.heap.size, y, none⟩ (.int .u8 (k : Int))) ∧ (wr.setCell ⟨w.heap.size, y, none⟩ (.int .u8 (k : Int))).rowIs w.heap.size 93 8 (fun j => .int .u8 (upd (fun k => (gi xs k - 1).toNat) (fun k => (k : Int)) (k + 1) j)) from
        ⟨H.out.1.setCell (Nat.le_refl _) _, rowIs_to hset fun i hi => by
          simp only [upd]; rw [← hy]; split <;> rfl⟩)
      obtain ⟨x, hx⟩ : ∃ x, x = gi xs k := ⟨_, rfl⟩
      rw [← hx] at hck hb hyi
      have w1 : IntKind.u8.wrap (x - 1) = (y : Int) := by rw [hyi]; exact IntWalk.u8_in _ ⟨by omega, by omega⟩
      have w1' : (x - 1) % 256 = (y : Int) := by omega
      have w2 : IntKind.u8.wrap (k : Int) = (k : Int) := IntWalk.u8_in _ ⟨by omega, by omega⟩
      have w2' : (k : Int) % 256 = (k : Int) := by omega
      have t2 : (y : Int) < 8 := by omega
      have t3 : (0 : Int) ≤ y := by omega
      clear hset hy hx hb
      go_wp2
      go_roundw
      case rel => exact ⟨k + 1, by omega, by go_num, HN⟩
      case measure => simp [intOf]; omega
    · obtain rfl : k = N := by omega
      have t1 : ¬ (k : Int) < k := by omega
      have t2 : (k : Int) ≤ 8 := by omega
      have t3 : (0 : Int) ≤ k := by omega
      have hst := HF.out wr _ H.out.2
      have HS := Lib.hid hst; have HX2 := Lib.hid H.out.1
      clear hst
      go_wp2_with fail
      refine HS.out.mono ?_
      rintro e w2 ⟨rfl, x2⟩
      have X2 := Lib.hid (HX2.out.trans x2)
      clear x2 HS
      go_wp2
      go_ret
      exact ⟨rfl, X2.out⟩

/-- permutations.Flip gives a block of its own. -/
theorem Flip_own (v : Value) (c : Nat) (xs : List Int) (w : World) (h : IS .u8 w v c xs) (hb : U8L xs) (h0 : pcheck xs = 0) :
    Calls Tryd.prog 24 #[v] w fun e w' => ∃ b, e = .returned (.tuple #[.slice (some ⟨b, 0, none⟩) xs.length xs.length, .int .i64 0]) ∧ OB w' b (flipL xs) ∧ w.heap.size ≤ b ∧ Ext w w' := by
  have hP := Pcheck_calls _ _ _ _ h hb
  rw [h0] at hP
  obtain ⟨h1, h2, ao, rfl, hao⟩ := h.open
  obtain ⟨hl1, hl, hok⟩ := pcheck_zero h0
  have hb := pok_inR hok
  have hfin : ∀ w1 wr, URow w1 wr xs.length (fun k => xs.length - 1 - k) (fun k => (xs.length : Int) + 1 - gi xs k) xs.length → OB wr w1.heap.size (flipL xs) := fun w1 wr hu => by
    obtain ⟨_, f, h2, h3⟩ := hu
    unfold OB; rw [flipL_len]
    exact rowIs_to h2 fun i hi => by unfold flipL; rw [h3 i, updL_gi hi]
  obtain ⟨L, hL⟩ : ∃ L, L = flipL xs := ⟨_, rfl⟩
  rw [← hL] at hfin ⊢
  have hb' : ∀ i, i < xs.length → 1 ≤ gi xs i ∧ gi xs i ≤ (xs.length : Int) := hb
  obtain ⟨N, hN⟩ : ∃ N, N = xs.length := ⟨_, rfl⟩
  rw [← hN] at hP hao h1 hl hb' hfin hl1 ⊢
  have Hb := Lib.hid hb'; have HF := Lib.hid hfin; have HP := Lib.hid hP
  clear hN hb hb' hfin h hP h0 hok hL
  unfold maxLen at h2
  have hmk := run_make_row' (P := Tryd.prog) 22 5 (.int .u8 0) 1 Tryd.underlying22 (by kernel_rfl) rfl .i64 .i64 N (by omega) (by omega)
  go_enter Tryd.func24, Tryd.ntmps24
  go_wp2_with fail
  refine HP.out.mono ?_
  rintro e w1 ⟨rfl, hx⟩
  have HX := Lib.hid hx; clear hx
  go_wp2
  go_loopw [20] (fun i wr => ∃ k : Nat, k ≤ N ∧ i = .int .i64 k ∧ Hid (URow w1 wr N (fun k => N - 1 - k) (fun k => (N : Int) + 1 - gi xs k) k)) (fun i _ => N - (intOf i).toNat)
  case atStart => exact ⟨0, Nat.zero_le _, rfl, Lib.hid (URow.start w1 N _ _)⟩
  case round =>
    obtain ⟨k, hk, rfl, H⟩ := hrel
    by_cases hlt : k < N
    · obtain ⟨b, o, rfl, hc⟩ : ∃ b o, ao = some ⟨b, o, none⟩ ∧ ∀ i, i < N → w.cell? ⟨b, o + i, none⟩ = some (.int .u8 (gi xs i)) := by
        rcases hao with ⟨_, h0, _⟩ | h
        · omega
        · exact h
      have hck := H.out.1.cell (HX.out.cell (hc k hlt))
      obtain ⟨b1, b2⟩ := Hb.out k hlt
      have hnx := H.out.next
      obtain ⟨_, f, hrow, hf⟩ := H.out
      obtain ⟨y, hy⟩ : ∃ y, y = N - 1 - k := ⟨_, rfl⟩
      have hyi : (N : Int) - 1 - (k : Int) = (y : Int) := by omega
      have hst := hrow.cell (i := y) (by omega)
      have hfz := hrow.frozen y
      rw [hf y] at hst
      obtain ⟨x, hx⟩ : ∃ x, x = gi xs k := ⟨_, rfl⟩
      simp only [← hx, ← hy] at hck b1 b2 hnx
      have hyN : y < N := by omega
      have HNX := Lib.hid hnx
      clear hx hnx hc hao hrow hf hy
      go_wp2
      go_roundw
      case rel => exact ⟨k + 1, by omega, by go_num, HNX.out⟩
      case measure => simp [intOf]; omega
    · obtain rfl : k = N := by omega
      go_wp2
      go_ret2
      exact ⟨_, rfl, HF.out _ _ H.out, HX.out.size, HX.out.trans H.out.1⟩
theorem bits_par (p : Int) : bits .and .i64 p 1 = p % 2 := by
  show IntKind.i64.wrap ((BitVec.ofInt 64 p &&& BitVec.ofInt 64 1).toNat : Int) = _
  rw [BitVec.toNat_and, show (BitVec.ofInt 64 1).toNat = 1 from rfl, Nat.and_one_is_mod, BitVec.toNat_ofInt]
  rw [IntWalk.i64_in _ ⟨by omega, by omega⟩]; omega
def flT (p : Int) (xs : List Int) : List Int := if p % 2 = 0 then xs else flipL xs
theorem flT_len (p : Int) (xs : List Int) : (flT p xs).length = xs.length := by unfold flT; split; rfl; rw [flipL_len]
theorem PM.u8l {n : Nat} {xs : List Int} (h : PM n xs) (h8 : n ≤ 8) : U8L xs := pok_u8 h.ok (by rw [h.len]; exact h8)
theorem PM.chk {n : Nat} {xs : List Int} (h : PM n xs) (h1 : 1 ≤ n) (h8 : n ≤ 8) : pcheck xs = 0 := pcheck_ok (by have := h.len; omega) (by have := h.len; omega) h.ok
theorem FlipT_calls (n : Nat) (p : Int) (v : Value) (c : Nat) (xs : List Int) (w : World) (h : IS .u8 w v c xs) (hp : PM n xs) (h1 : 1 ≤ n) (h8 : n ≤ 8) :
    Calls Tryd.prog 32 #[v, .int .i64 p] w (RetB w (flT p xs)) := by
  have hcl := Clone_calls v c xs w h (by rw [hp.len]; exact h1) (by rw [hp.len]; exact h8)
  have hfl := Flip_own v c xs w h (hp.u8l h8) (hp.chk h1 h8)
  have hpar := bits_par p
  have HC := Lib.hid hcl; have HF := Lib.hid hfl
  obtain ⟨_, _, ao, rfl, _⟩ := h.open
  obtain ⟨N, hN⟩ : ∃ N, N = xs.length := ⟨_, rfl⟩
  have hNl : (flT p xs).length = N := by rw [flT_len, hN]
  unfold RetB
  rw [hNl]
  unfold RetB at HC
  rw [← hN] at HC HF ⊢
  have HFT := Lib.hid (show flT p xs = if p % 2 = 0 then xs else flipL xs from rfl)
  obtain ⟨L, hL⟩ : ∃ L, L = flT p xs := ⟨_, rfl⟩
  rw [← hL] at HFT ⊢
  obtain ⟨F, hF⟩ : ∃ F, F = flipL xs := ⟨_, rfl⟩
  rw [← hF] at HFT HF
  clear h hp hcl hfl hN hNl hL hF h1 h8
  go_enter Tryd.func32, Tryd.ntmps32
  rcases Int.emod_two_eq p with e | e
  · have t1 : bits BinOp.and IntKind.i64 p 1 = 0 := hpar.trans e
    have HL := Lib.hid (show L = xs by rw [HFT.out, if_pos e])
    clear hpar e
    go_wp2_with fail
    refine HC.out.mono ?_
    rintro e w1 ⟨b, rfl, h1, h2, h3⟩
    have H := Lib.hid (And.intro h1 (And.intro h2 h3))
    clear h1 h2 h3 t1
    go_wp2
    go_ret
    exact ⟨b, rfl, by rw [HL.out]; exact H.out⟩
  · have t1 : bits BinOp.and IntKind.i64 p 1 = 1 := hpar.trans e
    have HL := Lib.hid (show L = F by rw [HFT.out, if_neg (by omega)])
    clear hpar e
    go_wp2_with fail
    refine HF.out.mono ?_
    rintro e w1 ⟨b, rfl, h1, h2, h3⟩
    have H := Lib.hid (And.intro h1 (And.intro h2 h3))
    clear h1 h2 h3 t1
    go_wp2
    go_ret
    exact ⟨b, rfl, by rw [HL.out]; exact H.out⟩
end Go.Proofs.YtigffblelngpjaaDoor
/- Contract of the closure of put that moves letters from a permutation to the one before it. -/
namespace Go.Proofs.YtigffblelngpjaaDoor
set_option linter.unusedVariables false
set_option linter.unusedSimpArgs false
set_option maxRecDepth 8000
open Go Go.RowKit

/-- Nothing but two blocks may have changed. -/
def But2 (p q : Nat) (w w' : World) : Prop := w'.os = w.os ∧ w'.tape = w.tape ∧ w'.output = w.output ∧ w.heap.size ≤ w'.heap.size ∧ ∀ b, b < w.heap.size → b ≠ p → b ≠ q → w'.heap[b]? = w.heap[b]?
theorem But2.refl (p q : Nat) (w : World) : But2 p q w w := ⟨rfl, rfl, rfl, Nat.le_refl _, fun _ _ _ _ => rfl⟩
theorem But2.of_ext {p q : Nat} {w w' : World} (x : Ext w w') : But2 p q w w' := ⟨x.os, x.tape, x.output, x.size, fun b hb _ _ => Below.block x b hb⟩
theorem But2.left {p q : Nat} {w w' : World} (h : But p w w') : But2 p q w w' := ⟨h.1, h.2.1, h.2.2.1, h.2.2.2.1, fun b hb h1 _ => h.2.2.2.2 b hb h1⟩
theorem But2.right {p q : Nat} {w w' : World} (h : But q w w') : But2 p q w w' := ⟨h.1, h.2.1, h.2.2.1, h.2.2.2.1, fun b hb _ h1 => h.2.2.2.2 b hb h1⟩
theorem But2.trans {p q : Nat} {a b c : World} (h : But2 p q a b) (k : But2 p q b c) : But2 p q a c :=
  ⟨k.1.trans h.1, k.2.1.trans h.2.1, k.2.2.1.trans h.2.2.1, Nat.le_trans h.2.2.2.1 k.2.2.2.1, fun x hx h1 h2 => (k.2.2.2.2 x (Nat.lt_of_lt_of_le hx h.2.2.2.1) h1 h2).trans (h.2.2.2.2 x hx h1 h2)⟩
theorem But2.ext {p q : Nat} {w0 w w' : World} (h : But2 p q w w') (x : Ext w0 w) (hp : w0.heap.size ≤ p) (hq : w0.heap.size ≤ q) : Ext w0 w' :=
  ⟨h.1.trans x.os, h.2.1.trans x.tape, h.2.2.1.trans x.output, Nat.le_trans x.size h.2.2.2.1, fun b hb => (h.2.2.2.2 b (Nat.lt_of_lt_of_le hb x.size) (by omega) (by omega)).trans (Below.block x b hb)⟩
theorem OB.but2 {w w' : World} {b p q : Nat} {xs : List Int} (h : OB w b xs) (x : But2 p q w w') (hp : b ≠ p) (hq : b ≠ q) : OB w' b xs := by
  obtain ⟨c, h1, h2⟩ := h
  exact ⟨c, by rw [x.2.2.2.2 b (Array.getElem?_eq_some_iff.1 h1).1 hp hq]; exact h1, h2⟩
/-- The bytes of a block. -/
def rdB (w : World) (b : Nat) : List Int := match w.heap[b]? with
  | some (.cells c _ _) => c.toList.map intOf
  | _ => []
theorem OB.rd {w : World} {b : Nat} {xs : List Int} (h : OB w b xs) : rdB w b = xs := by
  obtain ⟨c, h1, h2, h3⟩ := h
  unfold rdB
  rw [h1]
  refine List.ext_getElem (by simp [h2]) fun i hi hj => ?_
  have := h3 i hj
  rw [Array.getElem?_eq_getElem (by omega)] at this
  simp only [List.getElem_map, Array.getElem_toList, Option.some.inj this, intOf]
  rw [gi_of_lt hj]
/-- What moving letters does. -/
structure MvS (n : Nat) (w wr : World) (b1 b2 : Nat) (xs ys xs' ys' : List Int) (mv : Bool) : Prop where
  o1 : OB wr b1 xs'
  o2 : OB wr b2 ys'
  p1 : PM n xs'
  p2 : PM n ys'
  bt : But2 b1 b2 w wr
  st : Star Mv [pm n xs, pm n ys] [pm n xs', pm n ys']
  no : mv = false → xs' = xs ∧ ys' = ys
  yes : mv = true → phi n [pm n xs', pm n ys'] < phi n [pm n xs, pm n ys]
/-- The letters that can be moved. -/
def canB (xs ys : List Int) (k : Nat) : Bool := fallB ys k && !fallB (invL xs) k
theorem canB_iff {n k : Nat} {xs ys : List Int} (hx : PM n xs) (hy : PM n ys) (h1 : 1 ≤ k) (h2 : k < n) : canB xs ys k = true ↔ (pm n ys).St k ∧ ¬ (pm n xs).En k := by
  rw [hx.En h1 h2, hy.St h1 h2]
  unfold canB fallB
  simp
theorem MvS.step {n : Nat} (h8 : n ≤ 8) {w wr wn : World} {b1 b2 k : Nat} {xs ys xs' ys' : List Int} {mv : Bool} (h : MvS n w wr b1 b2 xs ys xs' ys' mv) (hk1 : 1 ≤ k) (hk2 : k < n) (hc : canB xs' ys' k = true)
    (hX : PM n xs) (hY : PM n ys) (h1 : OB wn b1 (vsw xs' k)) (h2 : OB wn b2 (swL ys' k)) (hb : But2 b1 b2 wr wn) : MvS n w wn b1 b2 xs ys (vsw xs' k) (swL ys' k) true ∧ wt (pm n (vsw xs' k)) n < wt (pm n xs') n := by
  obtain ⟨hs, he⟩ := (canB_iff h.p1 h.p2 hk1 hk2).1 hc
  obtain ⟨a1, a2⟩ := h.p1.vsw hk1 hk2
  obtain ⟨c1, c2⟩ := h.p2.swL hk1 hk2
  have hm : Mv [pm n xs', pm n ys'] [pm n (vsw xs' k), pm n (swL ys' k)] := by rw [a2, c2]; exact .here _ _ _ _ hs he
  have hS : SptL n [pm n xs', pm n ys'] := SptL.cons h.p1.spt (SptL.one h.p2.spt)
  have hphi := phi_mv h8 hS hm
  refine ⟨⟨h1, h2, a1, c1, h.bt.trans hb, h.st.trans (.one hm), (by simp), fun _ => ?_⟩, by rw [a2]; exact wt_lt he n (by omega)⟩
  cases mv with
  | true => have := h.yes rfl; omega
  | false => obtain ⟨e1, e2⟩ := h.no rfl; rw [← e1, ← e2]; exact hphi
theorem MvS.done {n : Nat} {w wr : World} {b1 b2 : Nat} {xs ys xs' ys' : List Int} {mv : Bool} (h : MvS n w wr b1 b2 xs ys xs' ys' mv) (hz : setN (canB xs' ys') (n - 1) = 0) : ∀ k, (pm n ys').St k → (pm n xs').En k := fun k hk => by
  have hb := h.p2.spt.St hk
  refine Classical.byContradiction fun he => ?_
  have := setN_zero.1 hz k hb.1 (by omega)
  rw [(canB_iff h.p1 h.p2 hb.1 hb.2).2 ⟨hk, he⟩] at this
  cases this
set_option maxHeartbeats 4000000 in
theorem Move_calls (n b1 b2 : Nat) (xs ys : List Int) (w : World) (h1 : OB w b1 xs) (h2 : OB w b2 ys) (hne : b1 ≠ b2) (hX : PM n xs) (hY : PM n ys) (hn1 : 1 ≤ n) (h8 : n ≤ 8) :
    Calls Tryd.prog 81 #[.slice (some ⟨b1, 0, none⟩) n n, .slice (some ⟨b2, 0, none⟩) n n] w fun e w' =>
      ∃ (mv : Bool) (xs' ys' : List Int), e = .returned (.bool mv) ∧ MvS n w w' b1 b2 xs ys xs' ys' mv ∧ ∀ k, (pm n ys').St k → (pm n xs').En k := by
  have hst := fun (W : World) (b : Nat) (zs : List Int) (hz : PM n zs) (ho : OB W b zs) => show Calls Tryd.prog 54 #[.slice (some ⟨b, 0, none⟩) n n] W fun e w' => e = .returned (.int .u8 (setN (fallB zs) (n - 1) : Nat)) ∧ Ext W w' from by
    have his := ho.is (by rw [hz.len]; omega)
    rw [hz.len] at his
    have := Starts8_calls _ _ zs W his (by rw [hz.len]; exact hn1) (by rw [hz.len]; exact h8)
    rwa [hz.len] at this
  have hen := fun (W : World) (b : Nat) (zs : List Int) (hz : PM n zs) (ho : OB W b zs) => show Calls Tryd.prog 56 #[.slice (some ⟨b, 0, none⟩) n n] W fun e w' => e = .returned (.int .u8 (setN (fallB (invL zs)) (n - 1) : Nat)) ∧ Ext W w' from by
    have his := ho.is (by rw [hz.len]; omega)
    rw [hz.len] at his
    exact Ends8_calls n _ _ zs W his hz hn1 h8
  have hex := fun (W : World) (zs : List Int) (k : Nat) (hz : PM n zs) (ho : OB W b1 zs) (k1 : 1 ≤ k) (k2 : k < n) => show Calls Tryd.prog 33 #[.slice (some ⟨b1, 0, none⟩) n n, .int .i64 k] W fun e w' => e = .returned (.slice (some ⟨b1, 0, none⟩) n n) ∧ OB w' b1 (vsw zs k) ∧ But b1 W w' from by
    have := Exchange_calls b1 k zs W ho (by rw [hz.len]; exact h8) (by rw [hz.len]; exact ⟨k1, k2⟩) (fun i hi => by
      rw [hz.len] at hi
      have := hz.bd (i := i + 1) (by omega) (by omega)
      rw [Nat.add_sub_cancel] at this; omega)
    rwa [hz.len] at this
  have hand := fun (zs us : List Int) => show bits .andNot .u8 ((setN (fallB us) (n - 1) : Nat) : Int) ((setN (fallB (invL zs)) (n - 1) : Nat) : Int) = ((setN (canB zs us) (n - 1) : Nat) : Int) from setN_andNot (by omega)
  have H0 := Lib.hid (show MvS n w w b1 b2 xs ys xs ys false from ⟨h1, h2, hX, hY, But2.refl _ _ _, .refl _, fun _ => ⟨rfl, rfl⟩, fun h => by cases h⟩)
  have HSt := Lib.hid hst; have HEn := Lib.hid hen; have HEx := Lib.hid hex; have HAn := Lib.hid hand; have HX := Lib.hid hX; have HY := Lib.hid hY; have Hne := Lib.hid hne
  clear h1 h2 hst hen hex hand hX hY hne
  go_enter Tryd.func81, Tryd.ntmps81
  go_wp2_with fail
  refine (HSt.out _ _ ys HY.out H0.out.o2).mono ?_
  rintro e wa ⟨rfl, xa⟩
  have XA := Lib.hid xa; clear xa
  go_wp2_with fail
  refine (HEn.out _ _ xs HX.out (H0.out.o1.ext XA.out)).mono ?_
  rintro e wb ⟨rfl, xb⟩
  have XB := Lib.hid (XA.out.trans xb); clear xb
  have HS0 := Lib.hid (show MvS n w wb b1 b2 xs ys xs ys false from ⟨H0.out.o1.ext XB.out, H0.out.o2.ext XB.out, HX.out, HY.out, But2.of_ext XB.out, .refl _, fun _ => ⟨rfl, rfl⟩, fun h => by cases h⟩)
  have ha0 := HAn.out xs ys
  go_wp2
  clear ha0
  go_loopw [5, 6, 7] (fun mvv sv _ wr => ∃ (mv : Bool) (xs' ys' : List Int), mvv = .bool mv ∧ sv = .int .u8 (setN (canB xs' ys') (n - 1) : Nat) ∧ Hid (MvS n w wr b1 b2 xs ys xs' ys' mv)) (fun _ _ _ wr => wt (pm n (rdB wr b1)) n)
  case atStart => exact ⟨false, xs, ys, rfl, rfl, HS0⟩
  case round =>
    obtain ⟨mv, xs', ys', rfl, rfl, H⟩ := hrel
    by_cases hz : setN (canB xs' ys') (n - 1) = 0
    · have HD := Lib.hid (H.out.done hz)
      rw [hz]
      have t1 : (((0 : Nat) : Int) != 0) = false := rfl
      clear hz
      go_wp2
      go_ret
      exact ⟨mv, xs', ys', rfl, H.out, HD.out⟩
    · obtain ⟨k, k1, k2, hck, htz⟩ := setN_tz (show n - 1 ≤ 7 by omega) hz
      have hmeas := H.out.o1.rd
      have hlt := setN_128 (canB xs' ys') (show n - 1 ≤ 7 by omega)
      obtain ⟨S, hS⟩ : ∃ S, S = setN (canB xs' ys') (n - 1) := ⟨_, rfl⟩
      rw [← hS] at htz hz hlt ⊢
      have hcall := fun W => Tryd.bits_TrailingZeros8 (S : Int) W (by omega) (by omega)
      rw [Int.toNat_natCast] at hcall
      have t1 : ((S : Int) != 0) = true := bne_iff_ne.2 (by omega)
      have HC := Lib.hid hcall; have Hck := Lib.hid hck
      obtain ⟨z, hzz⟩ : ∃ z, z = Lib.trailingZeros8 S := ⟨_, rfl⟩
      rw [← hzz] at HC htz
      have hkz : (z : Int) + 1 = (k : Int) := by omega
      have w1 : IntKind.i64.wrap ((z : Int) + 1) = (k : Int) := by rw [hkz]; exact IntWalk.i64_in _ ⟨by omega, by omega⟩
      have hkn : k < n := by omega
      clear hS hz hlt hcall hzz htz hck
      go_wp2_with fail
      refine (HC.out _).mono ?_
      rintro e wc ⟨rfl, rfl⟩
      clear HC
      go_wp2_with fail
      refine (HEx.out _ xs' k H.out.p1 H.out.o1 k1 hkn).mono ?_
      rintro e wd ⟨rfl, o1, bt1⟩
      have HO1 := Lib.hid o1; have HB1 := Lib.hid bt1
      have ho2 := H.out.o2.but bt1 (fun e => Hne.out e.symm)
      obtain ⟨j, rfl⟩ : ∃ j, k = j + 1 := ⟨k - 1, by omega⟩
      have t2 : ((j + 1 : Nat) : Int) - 1 = (j : Int) := by omega
      have w2 : IntKind.i64.wrap (((j + 1 : Nat) : Int) - 1) = (j : Int) := by rw [t2]; exact IntWalk.i64_in _ ⟨by omega, by omega⟩
      have t3 : (0 : Int) ≤ j := by omega
      have t4 : (j : Int) < n := by omega
      have t5 : ((j + 1 : Nat) : Int) < n := by omega
      have t6 : (0 : Int) ≤ ((j + 1 : Nat) : Int) := by omega
      have hlen : ys'.length = n := H.out.p2.len
      have hrow : wd.rowIs b2 5 n (fun i => .int .u8 (gi ys' i)) := by have := ho2; unfold OB at this; rwa [hlen] at this
      have q1 := hrow.cell (i := j) (by omega); have q2 := hrow.cell (i := j + 1) hkn
      have f1 := hrow.frozen j; have f2 := hrow.frozen (j + 1)
      have HR := Lib.hid hrow
      have HNx := Lib.hid (show ∀ W : World, OB W b2 (swL ys' (j + 1)) → OB W b1 (vsw xs' (j + 1)) → But2 b1 b2 wc W → MvS n w W b1 b2 xs ys (vsw xs' (j + 1)) (swL ys' (j + 1)) true ∧ wt (pm n (vsw xs' (j + 1))) n < wt (pm n xs') n from fun W a b c => H.out.step h8 k1 hkn Hck.out HX.out HY.out b a c)
      have HSw := Lib.hid (fun i => swL_gi (l := ys') (k := j + 1) k1 (by rw [hlen]; exact hkn) i)
      have hswl : (swL ys' (j + 1)).length = n := by rw [swL_len, hlen]
      have HSl := Lib.hid hswl
      obtain ⟨x, hx⟩ : ∃ x, x = gi ys' j := ⟨_, rfl⟩
      obtain ⟨y, hy⟩ : ∃ y, y = gi ys' (j + 1) := ⟨_, rfl⟩
      rw [← hx] at q1; rw [← hy] at q2
      have Hx := Lib.hid hx; have Hy := Lib.hid hy
      clear o1 bt1 ho2 hlen hrow hswl hx hy hkz
      go_wp2
      go_region
      obtain ⟨WN, hWN⟩ : ∃ WN, WN = ((wd.setCell ⟨b2, j, none⟩ (.int .u8 y)).setCell ⟨b2, j + 1, none⟩ (.int .u8 x)).drew := ⟨_, rfl⟩
      have hr2 : OB WN b2 (swL ys' (j + 1)) := by
        unfold OB
        rw [HSl.out, hWN]
        refine rowIs_to (show World.rowIs _ _ _ _ _ from (HR.out.set j (.int .u8 y)).set (j + 1) (.int .u8 x)) fun i hi => ?_
        rw [HSw.out i, Nat.add_sub_cancel]
        by_cases e1 : i = j + 1
        · rw [if_pos e1, if_pos e1, Hx.out]
        · rw [if_neg e1, if_neg e1]
          by_cases e2 : i = j
          · rw [if_pos e2, if_pos e2, Hy.out]
          · rw [if_neg e2, if_neg e2]
      have hbt : But2 b1 b2 wc WN := by
        rw [hWN]
        exact (But2.left HB1.out).trans (But2.right (((But.refl b2 wd).set _).set _).drew)
      have ho1 : OB WN b1 (vsw xs' (j + 1)) := by
        rw [hWN]
        exact HO1.out.but (((But.refl b2 wd).set _).set _).drew Hne.out
      obtain ⟨hms, hwt⟩ := HNx.out WN hr2 ho1 hbt
      have HMs := Lib.hid hms; have HWt := Lib.hid hwt; have HWN := Lib.hid hWN
      clear hr2 hbt ho1 hms hwt hWN q1 q2 f1 f2
      try rw [← HWN.out]
      go_wp2_with fail
      try rw [← HWN.out]
      refine (HSt.out _ _ (swL ys' (j + 1)) HMs.out.p2 HMs.out.o2).mono ?_
      rintro e we ⟨rfl, xe⟩
      have XE := Lib.hid xe; clear xe
      go_wp2_with fail
      refine (HEn.out _ _ (vsw xs' (j + 1)) HMs.out.p1 (HMs.out.o1.ext XE.out)).mono ?_
      rintro e wf ⟨rfl, xf⟩
      have XF := Lib.hid (XE.out.trans xf); clear xf
      have HM2 := Lib.hid (show MvS n w wf b1 b2 xs ys (vsw xs' (j + 1)) (swL ys' (j + 1)) true from ⟨HMs.out.o1.ext XF.out, HMs.out.o2.ext XF.out, HMs.out.p1, HMs.out.p2, HMs.out.bt.trans (But2.of_ext XF.out), HMs.out.st, HMs.out.no, HMs.out.yes⟩)
      have ha2 := HAn.out (vsw xs' (j + 1)) (swL ys' (j + 1))
      have hrd := HM2.out.o1.rd
      have HRd := Lib.hid hrd
      clear hrd
      go_wp2
      go_roundw
      case rel => exact ⟨true, _, _, rfl, rfl, HM2⟩
      case measure => rw [HRd.out, hmeas]; exact HWt.out
end Go.Proofs.YtigffblelngpjaaDoor
/- Lists of factors in memory: a row of slices, each a block of its own. -/
namespace Go.Proofs.YtigffblelngpjaaDoor
set_option linter.unusedVariables false
set_option linter.unusedSimpArgs false
set_option maxRecDepth 8000
open Go Go.RowKit

theorem own_but {w w' : World} {B m : Nat} {v : Value} {vs : List Value} (h : w.ownsRow B 22 1 v m vs) {p q : Nat} {xs ys : List Int} (h1 : OB w p xs) (h2 : OB w q ys) (hb : But2 p q w w') : w'.ownsRow B 22 1 v m vs := by
  obtain ⟨e, hv | ⟨g, cap, cur, hv, hB, hc, hr⟩⟩ := h
  · exact ⟨e, .inl hv⟩
  · refine ⟨e, .inr ⟨g, cap, cur, hv, hB, ?_, hr⟩⟩
    rw [hb.2.2.2.2 g (Array.getElem?_eq_some_iff.1 hc).1 (fun e => ?_) (fun e => ?_)]
    · exact hc
    · obtain ⟨c, hc1, _⟩ := h1
      rw [← e, hc] at hc1
      simp only [Option.some.injEq, Obj.cells.injEq] at hc1
      exact absurd hc1.2.1 (by decide)
    · obtain ⟨c, hc1, _⟩ := h2
      rw [← e, hc] at hc1
      simp only [Option.some.injEq, Obj.cells.injEq] at hc1
      exact absurd hc1.2.1 (by decide)
/-- The blocks hold the lists. -/
def OBs (w : World) : List Nat → List (List Int) → Prop
  | [], [] => True
  | b :: bs, x :: ls => OB w b x ∧ OBs w bs ls
  | _, _ => False
theorem OBs.len {w : World} : ∀ {bs : List Nat} {ls : List (List Int)}, OBs w bs ls → bs.length = ls.length
  | [], [], _ => rfl
  | b :: bs, x :: ls, h => by simp [OBs.len h.2]
  | [], _ :: _, h => h.elim
  | _ :: _, [], h => h.elim
theorem OBs.map {w w' : World} : ∀ {bs : List Nat} {ls : List (List Int)}, OBs w bs ls → (∀ b ∈ bs, ∀ x, OB w b x → OB w' b x) → OBs w' bs ls
  | [], [], _, _ => trivial
  | b :: bs, x :: ls, h, k => ⟨k b (by simp) x h.1, OBs.map h.2 fun b hb => k b (by simp [hb])⟩
  | [], _ :: _, h, _ => h.elim
  | _ :: _, [], h, _ => h.elim
theorem OBs.app {w : World} : ∀ {bs cs : List Nat} {ls ms : List (List Int)}, OBs w bs ls → OBs w cs ms → OBs w (bs ++ cs) (ls ++ ms)
  | [], _, [], _, _, k => k
  | b :: bs, cs, x :: ls, ms, h, k => ⟨h.1, OBs.app h.2 k⟩
  | [], _, _ :: _, _, h, _ => h.elim
  | _ :: _, _, [], _, h, _ => h.elim
theorem OBs.split {w : World} : ∀ {bs cs : List Nat} {ls ms : List (List Int)}, bs.length = ls.length → OBs w (bs ++ cs) (ls ++ ms) → OBs w bs ls ∧ OBs w cs ms
  | [], _, [], _, _, h => ⟨trivial, h⟩
  | b :: bs, cs, x :: ls, ms, e, h => by
    obtain ⟨h1, h2⟩ := OBs.split (bs := bs) (ls := ls) (by simpa using e) h.2
    exact ⟨⟨h.1, h1⟩, h2⟩
  | [], _, _ :: _, _, e, _ => by simp at e
  | _ :: _, _, [], _, e, _ => by simp at e
theorem OBs.mem {w : World} : ∀ {bs : List Nat} {ls : List (List Int)}, OBs w bs ls → ∀ b ∈ bs, ∃ x, OB w b x
  | b :: bs, x :: ls, h, c, hc => by
    rcases List.mem_cons.1 hc with e | e
    · rw [e]; exact ⟨x, h.1⟩
    · exact OBs.mem h.2 c e
  | [], _, _, c, hc => by cases hc
  | _ :: _, [], h, _, _ => h.elim
def slc (n b : Nat) : Value := .slice (some ⟨b, 0, none⟩) n n
/-- The row v of the call's own has the blocks bs, which hold the permutations ls. -/
structure FL (n : Nat) (wb : World) (Bo : Nat) (wr : World) (v : Value) (bs : List Nat) (ls : List (List Int)) : Prop where
  x : Ext wb wr
  lb : wb.heap.size ≤ Bo
  hb : Bo ≤ wr.heap.size
  own : wr.ownsRow Bo 22 1 v bs.length (bs.map (slc n))
  ob : OBs wr bs ls
  nd : bs.Nodup
  lo : ∀ b ∈ bs, wb.heap.size ≤ b
  pl : PML n ls
theorem FL.nil {n Bo : Nat} {wb wr : World} (x : Ext wb wr) (h1 : wb.heap.size ≤ Bo) (h2 : Bo ≤ wr.heap.size) : FL n wb Bo wr (.slice Option.none 0 0) [] [] := ⟨x, h1, h2, World.ownsRow_nil _ _ _ _, trivial, List.nodup_nil, fun b hb => by (cases hb), fun b hb => by (cases hb)⟩
theorem FL.ext {n Bo : Nat} {wb wr w' : World} {v : Value} {bs : List Nat} {ls : List (List Int)} (h : FL n wb Bo wr v bs ls) (x : Ext wr w') : FL n wb Bo w' v bs ls :=
  ⟨h.x.trans x, h.lb, Nat.le_trans h.hb x.size, own_ext h.own x, h.ob.map fun b _ y hy => hy.ext x, h.nd, h.lo, h.pl⟩
theorem two_split {α : Type} {l : List α} {i : Nat} (h : i + 1 < l.length) : ∃ A x y B, l = A ++ x :: y :: B ∧ A.length = i := by
  refine ⟨l.take i, l[i], l[i + 1], l.drop (i + 2), ?_, by simp; omega⟩
  conv => lhs; rw [← List.take_append_drop i l]
  rw [List.drop_eq_getElem_cons (by omega), List.drop_eq_getElem_cons (by omega)]
/-- Letters moved between two factors that lie side by side. -/
theorem FL.move {n Bo : Nat} {wb wr w' : World} {v : Value} {A C : List Nat} {b1 b2 : Nat} {L M : List (List Int)} {x y x' y' : List Int} {mv : Bool}
    (hl : A.length = L.length) (h : FL n wb Bo wr v (A ++ b1 :: b2 :: C) (L ++ x :: y :: M)) (m : MvS n wr w' b1 b2 x y x' y' mv) :
    FL n wb Bo w' v (A ++ b1 :: b2 :: C) (L ++ x' :: y' :: M) ∧ Star Mv (pms n (L ++ x :: y :: M)) (pms n (L ++ x' :: y' :: M)) := by
  obtain ⟨o1, o2⟩ := OBs.split hl h.ob
  obtain ⟨ob1, ob2, o3⟩ := o2
  have hnd := h.nd
  rw [List.nodup_append] at hnd
  obtain ⟨n1, n2, n3⟩ := hnd
  rw [List.nodup_cons, List.nodup_cons] at n2
  have keep : ∀ b, (b ∈ A ∨ b ∈ C) → ∀ z, OB wr b z → OB w' b z := fun b hb z hz => by
    refine hz.but2 m.bt (fun e => ?_) (fun e => ?_)
    · rcases hb with hb | hb
      · exact n3 b hb b1 (by simp) e
      · exact n2.1 (by rw [← e]; simp [hb])
    · rcases hb with hb | hb
      · exact n3 b hb b2 (by simp) e
      · exact n2.2.1 (by rw [← e]; exact hb)
  refine ⟨⟨m.bt.ext h.x (h.lo b1 (by simp)) (h.lo b2 (by simp)), h.lb, Nat.le_trans h.hb m.bt.2.2.2.1, own_but h.own ob1 ob2 m.bt, ?_, h.nd, h.lo, ?_⟩, ?_⟩
  · exact (o1.map fun b hb => keep b (.inl hb)).app ⟨m.o1, m.o2, o3.map fun b hb => keep b (.inr hb)⟩
  · intro z hz
    rcases List.mem_append.1 hz with hz | hz
    · exact h.pl z (List.mem_append_left _ hz)
    · rcases List.mem_cons.1 hz with e | hz
      · rw [e]; exact m.p1
      · rcases List.mem_cons.1 hz with e | hz
        · rw [e]; exact m.p2
        · exact h.pl z (by simp [hz])
  · unfold pms
    rw [List.map_append, List.map_append]
    exact (Star.app m.st (M.map (pm n))).pre (L.map (pm n))
/-- What lies elsewhere stays: blocks of bytes that are not named, and whatever lies below Bo. -/
def Keep (Bo : Nat) (bs : List Nat) (w w' : World) : Prop := w.heap.size ≤ w'.heap.size ∧ (∀ q zs, q ∉ bs → OB w q zs → OB w' q zs) ∧ ∀ q, q < Bo → q < w.heap.size → q ∉ bs → w'.heap[q]? = w.heap[q]?
theorem Keep.refl (Bo : Nat) (bs : List Nat) (w : World) : Keep Bo bs w w := ⟨Nat.le_refl _, fun _ _ _ h => h, fun _ _ _ _ => rfl⟩
theorem Keep.trans {Bo : Nat} {bs : List Nat} {a b c : World} (h : Keep Bo bs a b) (k : Keep Bo bs b c) : Keep Bo bs a c :=
  ⟨Nat.le_trans h.1 k.1, fun q zs hq ho => k.2.1 q zs hq (h.2.1 q zs hq ho), fun q h1 h2 h3 => (k.2.2 q h1 (Nat.lt_of_lt_of_le h2 h.1) h3).trans (h.2.2 q h1 h2 h3)⟩
theorem Keep.of_ext {Bo : Nat} {bs : List Nat} {a b : World} (x : Ext a b) : Keep Bo bs a b := ⟨x.size, fun q zs _ ho => ho.ext x, fun q _ h2 _ => Below.block x q h2⟩
theorem Keep.of_move {Bo : Nat} {bs : List Nat} {p q : Nat} {a b : World} (h : But2 p q a b) (hp : p ∈ bs) (hq : q ∈ bs) : Keep Bo bs a b :=
  ⟨h.2.2.2.1, fun r zs hr ho => ho.but2 h (fun e => hr (e ▸ hp)) (fun e => hr (e ▸ hq)), fun r _ h2 hr => h.2.2.2.2 r h2 (fun e => hr (e ▸ hp)) (fun e => hr (e ▸ hq))⟩
theorem Keep.sub {Bo : Nat} {bs cs : List Nat} {a b : World} (h : Keep Bo bs a b) (hs : ∀ x ∈ bs, x ∈ cs) : Keep Bo cs a b :=
  ⟨h.1, fun q zs hq ho => h.2.1 q zs (fun e => hq (hs q e)) ho, fun q h1 h2 hq => h.2.2 q h1 h2 (fun e => hq (hs q e))⟩
/-- The measure, read from memory. -/
noncomputable def phiW (n : Nat) (w : World) (bs : List Nat) : Nat := phi n (bs.map fun b => pm n (rdB w b))
theorem OBs.phi {n : Nat} {w : World} : ∀ {bs : List Nat} {ls : List (List Int)}, OBs w bs ls → bs.map (fun b => pm n (rdB w b)) = pms n ls
  | [], [], _ => rfl
  | b :: bs, x :: ls, h => by
    have := OBs.phi (n := n) h.2
    unfold pms at *
    rw [List.map_cons, List.map_cons, this, h.1.rd]
  | [], _ :: _, h => h.elim
  | _ :: _, [], h => h.elim
theorem FL.phi {n Bo : Nat} {wb wr : World} {v : Value} {bs : List Nat} {ls : List (List Int)} (h : FL n wb Bo wr v bs ls) : phiW n wr bs = Go.Proofs.YtigffblelngpjaaDoor.phi n (pms n ls) := by
  unfold phiW; rw [h.ob.phi]
/-- All pairs of neighbours from place i on are in order. -/
def Okp (n : Nat) (ls : List (List Int)) (i : Nat) : Prop := ∀ (A : List (List Int)) (x y : List Int) (B : List (List Int)), ls = A ++ x :: y :: B → i ≤ A.length → ∀ k, (pm n y).St k → (pm n x).En k
theorem Okp.nf {n : Nat} : ∀ {ls : List (List Int)}, Okp n ls 0 → Nf (pms n ls)
  | [], _ => trivial
  | [_], _ => trivial
  | x :: y :: B, h => ⟨h [] x y B rfl (Nat.zero_le _), Okp.nf (ls := y :: B) fun A a b C e _ => h (x :: A) a b C (by rw [e]; rfl) (Nat.zero_le _)⟩
end Go.Proofs.YtigffblelngpjaaDoor
/- Appending to a row of the call's own, with all that is known of the new world. -/
namespace Go.Proofs.YtigffblelngpjaaDoor
set_option linter.unusedVariables false
set_option linter.unusedSimpArgs false
set_option maxRecDepth 8000
open Go Go.RowKit

/-- 'append(s, x...)', s the call's own, x any slice: with all that is known of the new world. -/
theorem app_own_g {P : Program} {t e : TypeId} {z : Value} {bytes : Nat} (ei : EI P t e z bytes) {w : World} {ops : Array Oper} {rest : List Oper} {o : Oper} {a : Act} {Q : Exit → Act → World → Prop}
    (hg : o.guard = none) (s x : Operand) (hop : o.op = Op.call { callee := Callee.builtin Builtin.append, args := #[s, x], argTypes := #[t, t] })
    (B : Nat) (v : Value) (n : Nat) (xs : List Value) (hs : a.eval s = v) (hown : w.ownsRow B e 1 v n xs)
    (y : Value) (c : Nat) (ys : List Value) (hx : a.eval x = y) (hy : VS w y c ys) (h1 : ∀ u ∈ ys, u.oneCell' = true)
    (hbytes : (n + ys.length) * bytes ≤ 140737488355328) (hlen : n + ys.length ≤ 140737488355328) (hB : B ≤ w.heap.size)
    (hK : ∀ v' w', w'.ownsRow B e 1 v' (n + ys.length) (xs ++ ys) → w.grownBy w' v.ownBlock → wpList P ops Q rest (a.put o.dst v') w') :
    wpList P ops Q (o :: rest) a w := by
  obtain ⟨i, hi, hz0, hz1, hz2⟩ := info_parts ei.info
  obtain ⟨ao, rfl, hl, hm, hno, hc⟩ := hy
  have hzs : z.cells.size = 1 := by rw [ei.cell]; rfl
  cases ao with
  | none =>
    have hc0 := hno rfl
    have hys : ys = [] := List.eq_nil_of_length_eq_zero (by omega)
    subst hys
    subst hc0
    exact wpList_append_own_none hg s x t hop B e i 1 ei.und hi v n xs hs hown hx (hK v w (by simpa using hown) (World.grownBy.refl _ _))
  | some ad =>
    refine wpList_append_own w hg s x t hop B e i z 1 bytes ei.und hi hz0 hz1 hz2 hzs (by decide) v n xs hs hown ad ys.length c ys hx (by simp) (VS.cells hl hc ad rfl) h1 (by unfold maxLen; omega) hbytes hB ?_
    intro v' w' h2 h3 _
    exact hK v' w' h2 h3

/-- A block of another type is no row of the call's own. -/
theorem own_ne {w : World} {B n : Nat} {e t : TypeId} {v : Value} {xs : List Value} {z : Nat} (ho : w.ownsRow B e z v n xs) {b : Nat} {cs : Array Value} {q : Nat × Nat} (hb : w.heap[b]? = some (.cells cs t q)) (ht : t ≠ e) : v.ownBlock ≠ some b := by
  intro he
  obtain ⟨_, ⟨hv, _⟩ | ⟨g, cap, cur, hv, hB, hb2, _⟩⟩ := ho
  · rw [hv] at he; cases he
  · rw [hv] at he
    have : g = b := by simpa [Value.ownBlock] using he
    subst this
    rw [hb2] at hb
    simp only [Option.some.injEq, Obj.cells.injEq] at hb
    exact ht hb.2.1.symm
theorem blk_grown {w w' : World} {B n : Nat} {e t : TypeId} {v : Value} {xs : List Value} {z : Nat} (ho : w.ownsRow B e z v n xs) (hg : w.grownBy w' v.ownBlock) {b : Nat} {cs : Array Value} {q : Nat × Nat} (hb : w.heap[b]? = some (.cells cs t q)) (ht : t ≠ e) : w'.heap[b]? = some (.cells cs t q) := by
  have hlt : b < w.heap.size := (Array.getElem?_eq_some_iff.1 hb).1
  rw [hg.block b hlt (fun e => own_ne ho hb ht e.symm)]; exact hb
/-- A store elsewhere keeps a row of the call's own. -/
theorem own_setOther {w : World} {B n : Nat} {e : TypeId} {v u : Value} {xs : List Value} {z : Nat} (ho : w.ownsRow B e z v n xs) {a : Addr} (hne : v.ownBlock ≠ some a.block) : (w.setCell a u).ownsRow B e z v n xs := by
  obtain ⟨h1, ⟨hv, h2⟩ | ⟨g, cap, cur, hv, hB, hb2, h3⟩⟩ := ho
  · exact ⟨h1, .inl ⟨hv, h2⟩⟩
  · refine ⟨h1, .inr ⟨g, cap, cur, hv, hB, ?_, h3⟩⟩
    rw [Deep.blk_setCell_other _ _ _ _ (fun e => hne (by rw [hv, ← e]; rfl))]; exact hb2
theorem run_make_lc {P : Program} {t e : TypeId} {z : Value} {bytes : Nat} (ei : EI P t e z bytes) (kl kc : IntKind) (m n : Nat) (hmn : m ≤ n) (hbytes : bytes * n ≤ 281474976710656) (h63 : n ≤ 9223372036854775807) (w : World) :
    (Instr.makeSlice t (.int kl (m : Int)) (.int kc (n : Int))).run P w = .ok (.slice (some ⟨w.heap.size, 0, none⟩) m n) (w.alloc (.cells (madeCells #[z] n) e)) := by
  obtain ⟨i, hi, hz0, hz1, hz2⟩ := info_parts ei.info
  have hb' : (i.bytes : Int) * (n : Int) ≤ 281474976710656 := by
    have h : ((i.bytes * n : Nat) : Int) ≤ 281474976710656 := by rw [hz2]; omega
    rwa [Int.natCast_mul] at h
  have hr := run_make (P := P) w t e i z ei.und hi hz0 kl kc m n (by omega) (by omega) hb' (by omega)
  simp only [Int.toNat_natCast, hz1, Nat.mul_one, ei.cell] at hr
  exact hr
end Go.Proofs.YtigffblelngpjaaDoor
/- Contract of normals.put. -/
namespace Go.Proofs.YtigffblelngpjaaDoor
set_option linter.unusedVariables false
set_option linter.unusedSimpArgs false
set_option maxRecDepth 8000
open Go Go.RowKit

theorem eiFs : EI Tryd.prog 28 22 (.slice Option.none 0 0) 24 := ⟨Tryd.underlying28, by kernel_rfl, rfl⟩
theorem OB.grown {w w' : World} {b : Nat} {xs : List Int} (h : OB w b xs) {B n : Nat} {v : Value} {vs : List Value} (ho : w.ownsRow B 22 1 v n vs) (hg : w.grownBy w' v.ownBlock) : OB w' b xs := by
  obtain ⟨c, h1, h2⟩ := h
  exact ⟨c, blk_grown ho hg h1 (by decide), h2⟩
/-- A factor is appended. -/
theorem app_f {n Bo : Nat} {w : World} {ops : Array Oper} {rest : List Oper} {o : Oper} {a : Act} {Q : Exit → Act → World → Prop}
    (hg : o.guard = Option.none) (s x : Operand) (hop : o.op = Op.call { callee := Callee.builtin Builtin.append, args := #[s, x], argTypes := #[28, 28] })
    (wb : World) (v : Value) (bs : List Nat) (ls : List (List Int)) (hs : a.eval s = v) (hco : FL n wb Bo w v bs ls) (b : Nat) (fs : List Int) (hb : OB w b fs) (hf : PM n fs) (hnb : b ∉ bs) (hlo : wb.heap.size ≤ b)
    (g : Nat) (hx : a.eval x = .slice (some ⟨g, 0, Option.none⟩) 1 1) (hgw : g = w.heap.size) (hlen : bs.length ≤ 100000)
    (hK : ∀ v' w', FL n wb Bo w' v' (bs ++ [b]) (ls ++ [fs]) → Keep Bo [] w w' → wpList Tryd.prog ops Q rest (a.put o.dst v') w') :
    wpList Tryd.prog ops Q (o :: rest) a (w.alloc (.cells #[slc n b] 22)) := by
  subst hgw
  have xa : Ext w (w.alloc (.cells #[slc n b] 22)) := (Ext.refl w).alloc _
  refine app_own_g eiFs hg s x hop Bo v bs.length (bs.map (slc n)) hs (own_ext hco.own xa) _ 1 [slc n b] hx (VS.one _ _ _) (fun y hy => by obtain rfl := List.mem_singleton.1 hy; rfl) (by simp; omega) (by simp; omega) (Nat.le_trans hco.hb xa.size) ?_
  intro v' w' ho hgr
  have hown := own_ext hco.own xa
  refine hK v' w' ⟨?_, hco.lb, Nat.le_trans hco.hb (Nat.le_trans xa.size hgr.size), by simpa using ho, ?_, ?_, ?_, ?_⟩ ⟨Nat.le_trans xa.size hgr.size, fun q zs _ hq => (hq.ext xa).grown hown hgr, fun q h1 h2 _ => by
    rw [hgr.block q (Nat.lt_of_lt_of_le h2 xa.size) (fun e => ?_)]
    · exact Below.block xa q h2
    · obtain ⟨_, ⟨hv, _⟩ | ⟨g', cap, cur, hv, hBg, _⟩⟩ := hco.own
      · rw [hv] at e; cases e
      · rw [hv] at e; have : g' = q := by simpa [Value.ownBlock] using e.symm
        omega⟩
  · refine (hco.x.trans xa).grown hgr fun k hk => ?_
    obtain ⟨_, ⟨hv, _⟩ | ⟨g', cap, cur, hv, hBg, _⟩⟩ := hco.own
    · rw [hv] at hk; cases hk
    · rw [hv] at hk; have : g' = k := by simpa [Value.ownBlock] using hk
      have := hco.lb
      omega
  · exact (hco.ob.map fun c _ y hy => (hy.ext xa).grown hown hgr).app ⟨(hb.ext xa).grown hown hgr, trivial⟩
  · rw [List.nodup_append]
    exact ⟨hco.nd, by simp, fun c hc d hd e => by rw [List.mem_singleton.1 hd] at e; exact hnb (e ▸ hc)⟩
  · intro c hc
    rcases List.mem_append.1 hc with hc | hc
    · exact hco.lo c hc
    · rw [List.mem_singleton.1 hc]; exact hlo
  · intro z hz
    rcases List.mem_append.1 hz with hz | hz
    · exact hco.pl z hz
    · rw [List.mem_singleton.1 hz]; exact hf
/-- The last factor is dropped. -/
theorem own_drop {w : World} {B m : Nat} {a : Option Addr} {k c : Nat} {vs : List Value} {u : Value} (h : w.ownsRow B 22 1 (.slice a k c) (m + 1) (vs ++ [u])) : w.ownsRow B 22 1 (.slice a m c) m vs ∧ k = m + 1 := by
  obtain ⟨e, ⟨hv, h0⟩ | ⟨g, cap, cur, hv, hB, hc, h1, h2, h3, h4⟩⟩ := h
  · omega
  · simp only [Value.slice.injEq] at hv
    obtain ⟨rfl, rfl, rfl⟩ := hv
    rw [List.length_append, List.length_singleton] at e
    refine ⟨⟨by omega, .inr ⟨g, _, cur, rfl, hB, hc, by omega, h2, h3, ?_⟩⟩, rfl⟩
    have := congrArg (List.take m) h4
    rw [List.take_take, List.take_append_of_le_length (by omega)] at this
    rw [show m * 1 = min m ((m + 1) * 1) by omega]
    rw [this, List.take_of_length_le (by omega)]
theorem FL.drop {n Bo : Nat} {wb wr : World} {a : Option Addr} {k c : Nat} {bs : List Nat} {b : Nat} {ls : List (List Int)} {x : List Int} (h : FL n wb Bo wr (.slice a k c) (bs ++ [b]) (ls ++ [x])) : FL n wb Bo wr (.slice a bs.length c) bs ls := by
  have hl : bs.length = ls.length := by have := h.ob.len; simpa using this
  have hown := h.own
  rw [List.map_append, List.map_singleton, List.length_append, List.length_singleton] at hown
  refine ⟨h.x, h.lb, h.hb, (own_drop hown).1, (OBs.split hl h.ob).1, ?_, fun b hb => h.lo b (List.mem_append_left _ hb), fun z hz => h.pl z (List.mem_append_left _ hz)⟩
  have := h.nd
  rw [List.nodup_append] at this
  exact this.1
theorem FL.form {n Bo : Nat} {wb wr : World} {v : Value} {bs : List Nat} {ls : List (List Int)} (h : FL n wb Bo wr v bs ls) : ∃ a c, v = .slice a bs.length c := by
  obtain ⟨_, ⟨hv, hn⟩ | ⟨g, cap, cur, hv, _⟩⟩ := h.own
  · exact ⟨_, _, by rw [hv, hn]⟩
  · exact ⟨_, _, hv⟩
/-- Where a factor lies. -/
theorem FL.at {n Bo : Nat} {wb wr : World} {a : Option Addr} {k c : Nat} {bs : List Nat} {ls : List (List Int)} (h : FL n wb Bo wr (.slice a k c) bs ls) (h0 : bs ≠ []) : ∃ g, a = some ⟨g, 0, none⟩ ∧ Bo ≤ g ∧ ∀ i b, bs[i]? = some b → wr.cell? ⟨g, i, none⟩ = some (slc n b) := by
  obtain ⟨e, ⟨hv, hn⟩ | ⟨g, cap, cur, hv, hB, hc, h1, h2, h3, h4⟩⟩ := h.own
  · rw [List.length_eq_zero_iff] at hn; exact absurd hn h0
  · simp only [Value.slice.injEq] at hv
    refine ⟨g, hv.1, hB, fun i b hi => ?_⟩
    have hlt : i < bs.length := (List.getElem?_eq_some_iff.1 hi).1
    simp only [World.cell?, hc]
    have : (cur.toList.take (bs.length * 1))[i]? = some (slc n b) := by rw [h4, List.getElem?_map, hi]; rfl
    rw [List.getElem?_take, if_pos (by omega), Array.getElem?_toList] at this
    simpa using this
theorem phi_star {n : Nat} (h8 : n ≤ 8) {a b : List Pm} (hs : SptL n a) (h : Star Mv a b) : a = b ∨ Go.Proofs.YtigffblelngpjaaDoor.phi n b < Go.Proofs.YtigffblelngpjaaDoor.phi n a := by
  induction h with
  | refl => exact .inl rfl
  | step h1 _ ih =>
    have h2 := phi_mv h8 hs h1
    rcases ih (hs.mv h1) with e | e
    · rw [← e]; exact .inr h2
    · exact .inr (Nat.lt_trans e h2)
/-- One more pair is in order. -/
theorem Okp.step {n j : Nat} {L M : List (List Int)} {x y : List Int} (hL : L.length = j) (h : Okp n (L ++ x :: y :: M) (j + 1)) (hp : ∀ k, (pm n y).St k → (pm n x).En k) : Okp n (L ++ x :: y :: M) j := fun A p q B e hj => by
  rcases Nat.lt_or_ge j A.length with e1 | e1
  · exact h A p q B e (by omega)
  · obtain ⟨e2, e3⟩ := List.append_inj e (by omega)
    simp only [List.cons.injEq] at e3
    rw [← e3.1, ← e3.2.1]; exact hp
theorem last_split {α : Type} {l : List α} {m : Nat} (h : l.length = m + 1) : ∃ A x, l = A ++ [x] ∧ A.length = m := by
  have hne : l ≠ [] := fun e => by rw [e] at h; simp at h
  exact ⟨l.dropLast, l.getLast hne, (List.dropLast_concat_getLast hne).symm, by simp [h]⟩
/-- What put gives. -/
def RetPut (n : Nat) (wb : World) (Bo : Nat) (w : World) (bs : List Nat) (b : Nat) (ls : List (List Int)) (fs : List Int) (e : Ending) (w' : World) : Prop :=
  ∃ v' bs' ls' k, e = .returned v' ∧ FL n wb Bo w' v' bs' ls' ∧ bs ++ [b] = bs' ++ k ∧ Keep Bo (bs ++ [b]) w w' ∧ Nf (pms n ls') ∧ Lst (pms n ls') ∧ ∃ m, Star Mv (pms n (ls ++ [fs])) (pms n ls' ++ ones m)
end Go.Proofs.YtigffblelngpjaaDoor
