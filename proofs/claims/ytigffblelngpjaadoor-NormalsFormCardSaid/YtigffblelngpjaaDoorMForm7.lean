/- Texts of this claim in one file: libraries and walks. -/
import Derived.Test.YtigffblelngpjaaDoorMForm6
/- Contract of normals.Word: the walk (printed by gen_hs.py). -/
namespace Go.Proofs.YtigffblelngpjaaDoor
set_option linter.unusedVariables false
set_option linter.unusedSimpArgs false
set_option maxRecDepth 8000
open Go Go.RowKit

theorem ISX.ati {w : World} {g n c : Nat} {ls : List (List Int)} (h : ISX .i64 w (.slice (some ⟨g, 0, none⟩) n c) c ls) (hn : n = ls.length) : ∃ vs : Nat → Value, (∀ i, i < n → w.cell? ⟨g, i, none⟩ = some (vs i)) ∧ ∀ i, i < n → IS .i64 w (vs i) (ri ls i).length (ri ls i) := by
  obtain ⟨vs, h⟩ := h
  obtain ⟨_, _, ao, e, hao⟩ := h.open
  simp only [Value.slice.injEq, and_true] at e
  obtain ⟨rfl, e2⟩ := e
  subst hn
  refine ⟨vs, fun i hi => ?_, h.2⟩
  rcases hao with ⟨_, h0, _⟩ | ⟨b, o, e3, hc⟩
  · omega
  · simp only [Option.some.injEq, Addr.mk.injEq, and_true] at e3
    obtain ⟨rfl, rfl⟩ := e3
    have := hc i hi
    rwa [Nat.zero_add] at this
theorem szs_mono {T d : Nat} {ls : List (List Int)} {i j : Nat} (h : i ≤ j) : szs T d ls i ≤ szs T d ls j := by
  induction j with
  | zero => have : i = 0 := by omega
            subst this; exact Nat.le_refl _
  | succ j ih =>
    rcases Nat.lt_or_ge i (j + 1) with h1 | h1
    · have := ih (by omega); rw [szs]; omega
    · have : i = j + 1 := by omega
      subst this; exact Nat.le_refl _
theorem rep_flat_len (x : List Int) (a : Nat) : ((List.replicate a x).flatten).length = a * x.length := by
  have := rep_len x a
  have h2 : ((a * x.length : Nat) : Int) = (a : Int) * (x.length : Int) := Int.natCast_mul _ _
  omega
theorem mono_own {w : World} {B B' n : Nat} {e : TypeId} {v : Value} {xs : List Value} (h : w.ownsRow B e 1 v n xs) (hb : B' ≤ B) : w.ownsRow B' e 1 v n xs := Joins.ownsRow_le h hb
set_option maxHeartbeats 32000000 in
theorem NWord_calls (v : Value) (n : Nat) (q : Int) (ls : List (List Int)) (w : World) (h : NX w v n q ls) (ho : NFo n q ls) :
    Calls Tryd.prog 28 #[v] w (RetWd w (wordN n q ls)) := by
  have n1 := ho.n1; have n8 := ho.n8; have hlb := ho.lb; have hqb := ho.qb
  have hck := fun w' (x : Ext w w') => NCheck_calls v n q ls w' (h.ext x) ho
  obtain ⟨a, rfl, hX⟩ := h
  obtain ⟨W, hW⟩ : ∃ W, W = w.alloc (.cells #[.int .i64 (n : Int), .int .i64 q, .slice a ls.length ls.length] 30) := ⟨_, rfl⟩
  have xW : Ext w W := by rw [hW]; exact (Ext.refl w).alloc _
  have b1 : B3 W w.heap.size (.int .i64 (n : Int)) (.int .i64 q) (.slice a ls.length ls.length) 30 := by rw [hW]; exact B3.new w _ _ _ _
  obtain ⟨vs, bx⟩ := BX.mk' hX ho.pl xW b1
  have hPH := (PM.halfL n).1
  have hdl := dlt_len n q
  have hd28 : (dlt n q).length ≤ 28 := by
    have h1 := wordL_le n8 hPH; have h2 := wordL_len (halfL n); omega
  have hwl : (wordL (halfL n)).length = (dlt n q).length := by have h2 := wordL_len (halfL n); omega
  have hck2 : wcheck n (wordL (halfL n)) = 0 := wcheck_val (by omega) (by omega) (by omega) (wordL_val hPH)
  have hbd2 : ∀ i, i < (wordL (halfL n)).length → -100 ≤ gi (wordL (halfL n)) i ∧ gi (wordL (halfL n)) i ≤ 100 := val_bd (by omega) (by omega) (wordL_val hPH)
  have hIn := fun v c w' (hi : IS .i64 w' v c (wordL (halfL n))) => show Calls Tryd.prog 21 #[.int .i64 (n : Int), v] w' (RetIE .i64 w' (wordL (halfL n)).length (winvL (wordL (halfL n))) 0) from by
    have := WInverse_calls n v c (wordL (halfL n)) w' hi hck2 hbd2 (by omega)
    rwa [show (wordL (halfL n)).reverse.map (fun x => -x) = winvL (wordL (halfL n)) from rfl] at this
  have hLw := fun w1 (x : Ext W w1) => list_word n w.heap.size ls.length q ls a vs w1 (bx.ext x) ho.pl n1 n8 rfl (by omega)
  have hPw := fun w1 g (hh : OB w1 g (halfL n)) => PWord_calls n (.slice (some ⟨g, 0, none⟩) n n) n (halfL n) w1 (by have := hh.is (by rw [halfL_len]; omega); rwa [halfL_len] at this) hPH n1 n8
  obtain ⟨T, hT⟩ : ∃ T, T = q.natAbs := ⟨_, rfl⟩
  obtain ⟨D, hD⟩ : ∃ D, D = dlt n q := ⟨_, rfl⟩
  obtain ⟨d, hd⟩ : ∃ d, d = (dlt n q).length := ⟨_, rfl⟩
  obtain ⟨m, hm⟩ : ∃ m, m = ls.length := ⟨_, rfl⟩
  have hTd : T * d ≤ 1024 * 28 := Nat.mul_le_mul (by omega) (by omega)
  have hS0 : szs T d ls 0 = T * d := rfl
  have hSs : ∀ k, szs T d ls (k + 1) = szs T d ls k + (wordL (ri ls k)).length := fun k => rfl
  have hSb : ∀ k, k ≤ m → szs T d ls k ≤ 1024 * 28 + 28 * 256 := fun k hk => by have := szs_le (T := T) (d := d) n8 ho.pl k (by omega); omega
  have hSm : ∀ i j, i ≤ j → szs T d ls i ≤ szs T d ls j := fun i j hij => szs_mono hij
  have hSl : ∀ k, k ≤ m → szs T d ls k = ((List.replicate T D).flatten ++ ((ls.map wordL).take k).flatten).length := fun k hk => by rw [hT, hD, hd]; exact szs_len (n := n) k (by omega)
  have hF : ∀ t, (List.replicate t D).flatten.length = t * d := fun t => by rw [rep_flat_len, hD, hd]
  have hFs : ∀ t, (List.replicate (t + 1) D).flatten = (List.replicate t D).flatten ++ D := fun t => by rw [List.replicate_succ', List.flatten_append]; simp
  have hFd : ∀ t, t < T → t * d + d ≤ T * d := fun t ht => by have := Nat.mul_le_mul_right d (show t + 1 ≤ T by omega); rw [Nat.add_mul, Nat.one_mul] at this; exact this
  have hR : ∀ k, k < m → ((ls.map wordL).take (k + 1)).flatten = ((ls.map wordL).take k).flatten ++ wordL (ri ls k) := fun k hk => by rw [take_flat (by simp; omega), ri_map _ (by omega)]
  have hWN : wordN n q ls = (List.replicate T D).flatten ++ ((ls.map wordL).take m).flatten := by
    unfold wordN
    rw [hT, hD, List.take_of_length_le (by simp; omega)]
  have hWl : (wordN n q ls).length = szs T d ls m := by rw [hWN, hSl m (Nat.le_refl _)]
  have hDl : D.length = d := by rw [hD, hd]
  have hri : ∀ i, i < m → ri (ls.map wordL) i = wordL (ri ls i) := fun i hi => ri_map _ (by omega)
  have hml : (ls.map wordL).length = m := by simp [hm]
  obtain ⟨Z, hZ⟩ : ∃ Z, Z = wordN n q ls := ⟨_, rfl⟩
  rw [← hZ] at hWN hWl ⊢
  rw [← hm] at hck hLw hW b1 hlb ⊢
  have hwd : (wordL (halfL n)).length = d := by rw [hwl, hd]
  have HCk := Lib.hid (hck W xW); have HW := Lib.hid hW; have XW := Lib.hid xW; have HB := Lib.hid b1; have HIn := Lib.hid hIn; have HLw := Lib.hid hLw; have HPw := Lib.hid hPw
  have HTd := Lib.hid hTd; have HS0 := Lib.hid hS0; have HSs := Lib.hid hSs; have HSb := Lib.hid hSb; have HSm := Lib.hid hSm; have HSl := Lib.hid hSl; have HF := Lib.hid hF; have HFs := Lib.hid hFs; have HFd := Lib.hid hFd; have HR := Lib.hid hR; have HWN := Lib.hid hWN; have HWl := Lib.hid hWl; have HDl := Lib.hid hDl; have Hri := Lib.hid hri; have Hml := Lib.hid hml; have Hwd := Lib.hid hwd
  have HT := Lib.hid hT
  have HDn := Lib.hid (show q < 0 → D = winvL (wordL (halfL n)) from fun hq => by rw [hD]; exact if_pos hq); have HDp := Lib.hid (show ¬ q < 0 → D = wordL (halfL n) from fun hq => by rw [hD]; exact if_neg hq)
  have hd28' : d ≤ 28 := by omega
  have hT24 : T ≤ 1024 := by omega
  generalize hsz : szs T d ls = SZ at HS0 HSs HSb HSm HSl HWl
  have c0 := b1.c0; have c1 := b1.c1; have c2 := b1.c2
  rw [hW] at c0 c1 c2
  clear hck hIn hLw hPw hW xW b1 hTd hS0 hSs hSb hSm hSl hF hFs hFd hR hWN hWl hDl hri hml hwd hT hD hd hm bx hX ho hdl hd28 hwl hck2 hbd2 hZ hsz hPH
  go_enter Tryd.func28, Tryd.ntmps28
  go_wp2_with fail
  rw [← HW.out]
  refine HCk.out.mono ?_
  rintro e w1 ⟨rfl, x1⟩
  have X1 := Lib.hid x1
  clear c0 c1 c2 x1
  have c0 := X1.out.cell HB.out.c0; have c1 := X1.out.cell HB.out.c1; have c2 := X1.out.cell HB.out.c2
  go_wp2_with fail
  refine (Half2_calls n _ n8).mono ?_
  rintro e w2 ⟨g0, rfl, ob, lo, x2⟩
  have X2 := Lib.hid (X1.out.trans x2)
  have HPw2 := Lib.hid (HPw.out w2 g0 ob)
  clear c0 c1 c2 ob lo x2
  go_wp2_with fail
  refine HPw2.out.mono ?_
  rintro e w3 ⟨a3, m3, rfl, hm3, h3, x3⟩
  rw [Hwd.out] at hm3
  rw [hm3] at h3 ⊢
  clear hm3
  have X3 := Lib.hid (X2.out.trans x3)
  have H3 := Lib.hid h3
  clear h3 x3 HPw2
  have c0 := X3.out.cell HB.out.c0; have c1 := X3.out.cell HB.out.c1; have c2 := X3.out.cell HB.out.c2
  by_cases hq : q < 0
  · have e0 : IntKind.i64.wrap (-q) = (T : Int) := by have := HT.out; rw [show -q = (T : Int) by omega]; exact IntWalk.i64_in _ ⟨by omega, by omega⟩
    have Hd := Lib.hid (HDn.out (by omega))
    go_wp2_with fail
    refine (HIn.out _ _ _ H3.out).mono ?_
    intro e w4 hr
    obtain ⟨v4, rfl, h4, x4⟩ := hr
    obtain ⟨a4, m4, k4, rfl, hm4, hk4, h4⟩ := h4.out
    rw [Hwd.out] at hk4
    have hm5 : m4 = d := by rw [hm4, show (winvL (wordL (halfL n))).length = (wordL (halfL n)).length by unfold winvL; simp, Hwd.out]
    rw [hm5, hk4] at h4 ⊢
    have H4 : Hid (IS .i64 w4 (.slice a4 d d) d D) := Lib.hid (by rw [Hd.out]; exact h4)
    have X4 := Lib.hid (X3.out.trans x4)
    clear hm4 h4 x4 c0 c1 c2 hq hk4
    have c1 := X4.out.cell HB.out.c1; have c2 := X4.out.cell HB.out.c2
    go_wp2_with fail
    refine (HLw.out w4 X4.out).mono ?_
    rintro e w5 ⟨g5, rfl, hI5, x5⟩
    obtain ⟨us, hus, hUs⟩ := hI5.ati Hml.out.symm
    have X5 := Lib.hid (X4.out.trans x5)
    have H5 := Lib.hid (H4.out.ext x5)
    have Hus := Lib.hid hus
    have HUs := Lib.hid (show ∀ i, i < m → ∃ av, us i = .slice av (wordL (ri ls i)).length (wordL (ri ls i)).length ∧ IS .i64 w5 (us i) (wordL (ri ls i)).length (wordL (ri ls i)) from fun i hi => by
      have hh := hUs i hi
      rw [Hri.out i hi] at hh
      obtain ⟨_, _, av, e, _⟩ := hh.open
      exact ⟨av, e, hh⟩)
    have s0 : IntKind.i64.wrap ((T : Int) * (d : Int)) = ((SZ 0 : Nat) : Int) := by
      rw [HS0.out, Int.natCast_mul]
      have h0 : ((T * d : Nat) : Int) = (T : Int) * (d : Int) := Int.natCast_mul _ _
      have := HTd.out
      exact IntWalk.i64_in _ ⟨by omega, by omega⟩
    clear hI5 hus hUs x5
    go_wp2
    go_loopw [9, 11, 51] (fun z _ i wr => ∃ k : Nat, k ≤ m ∧ i = .int .i64 k ∧ z = .int .i64 ((SZ k : Nat) : Int) ∧ wr = w5) (fun _ _ i _ => m - (intOf i).toNat)
    case atStart => exact ⟨0, Nat.zero_le _, rfl, rfl, rfl⟩
    case round =>
      obtain ⟨k, hk, rfl, rfl, rfl⟩ := hrel
      by_cases hlt : k < m
      · have t1 : (k : Int) < m := by omega
        have t2 : (0 : Int) ≤ k := by omega
        obtain ⟨av, hav, _⟩ := HUs.out k hlt
        have hck := Hus.out k hlt
        rw [hav] at hck
        have hs := HSs.out k
        have hb1 := HSb.out (k + 1) (by omega)
        obtain ⟨L, hL⟩ : ∃ L, L = (wordL (ri ls k)).length := ⟨_, rfl⟩
        rw [← hL] at hck hs
        have t3 : IntKind.i64.wrap (((SZ k : Nat) : Int) + (L : Int)) = ((SZ (k + 1) : Nat) : Int) := by rw [show ((SZ k : Nat) : Int) + (L : Int) = ((SZ (k + 1) : Nat) : Int) by omega]; exact IntWalk.i64_in _ ⟨by omega, by omega⟩
        clear hav hs hb1 hL
        go_wp2
        go_roundw
        case rel => exact ⟨k + 1, by omega, by go_num, rfl, by first | rfl | trivial⟩
        case measure => simp [intOf]; omega
      · obtain rfl : k = m := by omega
        by_cases hbig : 64 < SZ k
        · have e1 : (64 : Int) < ((SZ k : Nat) : Int) := by omega
          have HZ := Lib.hid (show 64 < Z.length by rw [HWl.out]; exact hbig)
          clear hbig
          go_wp2
          go_ret2
          exact .inl ⟨HZ.out, rfl, XW.out.trans X5.out⟩
        · have e1 : ¬ (64 : Int) < ((SZ k : Nat) : Int) := by omega
          have HZ := Lib.hid (show Z.length ≤ 64 by rw [HWl.out]; omega)
          have Hbig := Lib.hid hbig
          obtain ⟨S, hS⟩ : ∃ S, S = SZ k := ⟨_, rfl⟩
          have hS64 : S ≤ 64 := by omega
          have HSk := Lib.hid hS
          have hmk := run_make_cap (P := Tryd.prog) weiInt .i64 .i64 S (by omega) (by omega)
          rw [← hS] at e1 ⊢
          clear hbig hS
          obtain ⟨w6, hw6⟩ : ∃ w6, w6 = wr.alloc (.cells (madeCells #[.int .i64 0] S) 3) := ⟨_, rfl⟩
          have ho6 : w6.ownsRow wr.heap.size 3 1 (.slice (some ⟨wr.heap.size, 0, none⟩) 0 S) 0 [] := by
            rw [hw6]; exact World.ownsRow_made wr (madeCells #[.int .i64 0] S) S (Nat.le_refl _) (by unfold maxLen; omega) (by simp [size_madeCells])
          have x6 : Ext wr w6 := by rw [hw6]; exact (Ext.refl wr).alloc _
          have H6 := Lib.hid ho6; have X6 := Lib.hid x6; have HW6 := Lib.hid hw6
          clear hw6 ho6 x6
          obtain ⟨g, hg⟩ : ∃ g, g = wr.heap.size := ⟨_, rfl⟩
          have hmid : ∀ (w7 : World) (t1 : Value), True := fun _ _ => trivial
          by_cases hd0 : d = 0
          · have e2 : ¬ (0 : Int) < (d : Int) := by omega
            have e3 : d = 0 := hd0
            have HRow : Hid (Ext wr w6 ∧ w6.ownsRow wr.heap.size 3 1 (.slice (some ⟨wr.heap.size, 0, none⟩) (SZ 0) S) (SZ 0) (((List.replicate T D).flatten ++ ((ls.map wordL).take 0).flatten).map (Value.int .i64))) := Lib.hid ⟨X6.out, by
              have h0 : SZ 0 = 0 := by rw [HS0.out, hd0, Nat.mul_zero]
              have hl := HSl.out 0 (Nat.zero_le _)
              rw [h0] at hl
              rw [List.eq_nil_of_length_eq_zero hl.symm, h0]; exact H6.out⟩
            have z0 : SZ 0 = 0 := by rw [HS0.out, hd0, Nat.mul_zero]
            have Z0 := Lib.hid z0
            clear hd0 e3 z0 hmid
            go_wp2
            rw [← HW6.out]
            have HRow2 : Hid (Ext wr w6 ∧ w6.ownsRow wr.heap.size 3 1 (.slice (some ⟨wr.heap.size, 0, none⟩) 0 S) 0 (((List.replicate T D).flatten ++ ((ls.map wordL).take 0).flatten).map (Value.int .i64))) := Lib.hid (by have := HRow.out; rwa [Z0.out] at this)
            obtain ⟨wo, hwo⟩ : ∃ wo, wo = wr := ⟨_, rfl⟩
            subst hwo
            go_loopw [12, 14, 76] (fun wv _ i wq => ∃ j : Nat, j ≤ k ∧ i = .int .i64 j ∧ wv = .slice (some ⟨wo.heap.size, 0, none⟩) (SZ j) S ∧ Hid (Ext wo wq ∧ wq.ownsRow wo.heap.size 3 1 (.slice (some ⟨wo.heap.size, 0, none⟩) (SZ j) S) (SZ j) (((List.replicate T D).flatten ++ ((ls.map wordL).take j).flatten).map (Value.int .i64)))) (fun _ _ i _ => k - (intOf i).toNat)
            case atStart => exact ⟨0, Nat.zero_le _, rfl, by rw [Z0.out], Lib.hid (by rw [Z0.out]; exact HRow2.out)⟩
            case round =>
              obtain ⟨j, hj, rfl, rfl, G⟩ := hrel
              by_cases hjt : j < k
              · have f1 : (j : Int) < k := by omega
                have f2 : (0 : Int) ≤ j := by omega
                obtain ⟨av, hav, hI⟩ := HUs.out j hjt
                have hcj := G.out.1.cell (Hus.out j hjt)
                rw [hav] at hcj hI
                have hs := HSs.out j
                have hle := HSm.out (j + 1) k (by omega)
                rw [← HSk.out] at hle
                have Hs := Lib.hid hs; have Hle := Lib.hid hle; have HI := Lib.hid hI
                have HRj := Lib.hid (HR.out j hjt)
                obtain ⟨U, hU⟩ : ∃ U, U = wordL (ri ls j) := ⟨_, rfl⟩
                rw [← hU] at hcj Hs HI HRj
                obtain ⟨L, hL⟩ : ∃ L, L = U.length := ⟨_, rfl⟩
                rw [← hL] at hcj Hs HI
                have HL := Lib.hid hL
                clear hav hI hs hle hU hL
                obtain ⟨XS, hXS⟩ : ∃ XS, XS = ((List.replicate T D).flatten ++ ((ls.map wordL).take j).flatten).map (Value.int .i64) := ⟨_, rfl⟩
                obtain ⟨YS, hYS⟩ : ∃ YS, YS = U.map (Value.int .i64) := ⟨_, rfl⟩
                rw [← hXS] at G
                have hvs : VS wo (.slice av L L) L YS := by rw [hYS]; exact HI.out
                have hone : ∀ u ∈ YS, u.oneCell' = true := by rw [hYS]; exact onesI _
                have hyl : YS.length = L := by rw [hYS, List.length_map, HL.out]
                have Hvs := Lib.hid hvs; have Hone := Lib.hid hone; have Hyl := Lib.hid hyl
                have Hmap := Lib.hid (show ((List.replicate T D).flatten ++ ((ls.map wordL).take (j + 1)).flatten).map (Value.int .i64) = XS ++ YS by rw [HRj.out, ← List.append_assoc, List.map_append, hXS, hYS])
                clear hXS hYS hvs hone hyl
                go_wp2_with (at_builtin; refine app_fits weiInt rfl _ _ rfl wo.heap.size wo.heap.size (SZ j) S _ rfl G.out.2 _ _ _ rfl (VS.ext Hvs.out G.out.1) Hone.out ?f1 ?f2 ?_)
                case f1 => rw [Hyl.out]; have := Hs.out; have := Hle.out; omega
                case f2 => exact G.out.1.size
                intro w7 hown7 hb7
                rw [Hyl.out, ← Hs.out] at hown7
                rw [Hyl.out, ← Hs.out]
                have HN := Lib.hid (show Ext wo w7 ∧ w7.ownsRow wo.heap.size 3 1 (.slice (some ⟨wo.heap.size, 0, none⟩) (SZ (j + 1)) S) (SZ (j + 1)) (((List.replicate T D).flatten ++ ((ls.map wordL).take (j + 1)).flatten).map (Value.int .i64)) from ⟨Below.trans G.out.1 hb7, by
                  rw [Hmap.out]; exact hown7⟩)
                clear hown7 hb7
                go_wp2
                go_roundw
                case rel => exact ⟨j + 1, by omega, by go_num, rfl, HN⟩
                case measure => simp [intOf]; omega
              · obtain rfl : j = k := by omega
                have hown := G.out.2
                rw [← HWN.out, ← HSk.out] at hown
                have his := IS.of_ownx hown (by rw [HWl.out, ← HSk.out])
                have HIs := Lib.hid his
                have HZl := Lib.hid (show S = Z.length by rw [HWl.out, ← HSk.out])
                rw [← HSk.out]
                clear hown his
                go_wp2
                go_ret2
                exact .inr ⟨HZ.out, _, S, HZl.out, rfl, HIs.out, (XW.out.trans X5.out).trans G.out.1⟩
          · have e2 : (0 : Int) < (d : Int) := by omega
            have e2' : 0 < d := by omega
            clear hd0 hmid
            go_wp2
            rw [← HW6.out]
            obtain ⟨wo, hwo⟩ : ∃ wo, wo = wr := ⟨_, rfl⟩
            subst hwo
            go_loopw [12, 68] (fun wv i wq => ∃ t : Nat, t ≤ T ∧ i = .int .i64 t ∧ wv = .slice (some ⟨wo.heap.size, 0, none⟩) (t * d) S ∧ Hid (Ext wo wq ∧ wq.ownsRow wo.heap.size 3 1 (.slice (some ⟨wo.heap.size, 0, none⟩) (t * d) S) (t * d) ((List.replicate t D).flatten.map (Value.int .i64)))) (fun _ i _ => T - (intOf i).toNat)
            case atStart => exact ⟨0, Nat.zero_le _, rfl, by rw [Nat.zero_mul], Lib.hid ⟨X6.out, by rw [Nat.zero_mul]; exact H6.out⟩⟩
            case round =>
              obtain ⟨t, htT, rfl, rfl, G⟩ := hrel
              by_cases htt : t < T
              · have f1 : (t : Int) < T := by omega
                have hf : t * d + d ≤ S := by have h1 := HFd.out t htt; have h2 := HSm.out 0 k (Nat.zero_le _); rw [HS0.out, ← HSk.out] at h2; omega
                have Hf := Lib.hid hf
                have hts : (t + 1) * d = t * d + d := by rw [Nat.add_mul, Nat.one_mul]
                have Hts := Lib.hid hts
                obtain ⟨nt, hnt⟩ : ∃ nt, nt = t * d := ⟨_, rfl⟩
                rw [← hnt] at G Hf Hts ⊢
                have Hnt := Lib.hid hnt
                clear hf hts hnt
                obtain ⟨XS, hXS⟩ : ∃ XS, XS = (List.replicate t D).flatten.map (Value.int .i64) := ⟨_, rfl⟩
                obtain ⟨YS, hYS⟩ : ∃ YS, YS = D.map (Value.int .i64) := ⟨_, rfl⟩
                rw [← hXS] at G
                have hvs : VS wo (.slice a4 d d) d YS := by rw [hYS]; exact H5.out
                have hone : ∀ u ∈ YS, u.oneCell' = true := by rw [hYS]; exact onesI _
                have hyl : YS.length = d := by rw [hYS, List.length_map, HDl.out]
                have Hvs := Lib.hid hvs; have Hone := Lib.hid hone; have Hyl := Lib.hid hyl
                have Hmap := Lib.hid (show (List.replicate (t + 1) D).flatten.map (Value.int .i64) = XS ++ YS by rw [HFs.out, List.map_append, hXS, hYS])
                clear hXS hYS hvs hone hyl
                go_wp2_with (at_builtin; refine app_fits weiInt rfl _ _ rfl wo.heap.size wo.heap.size nt S _ rfl G.out.2 _ _ _ rfl (VS.ext Hvs.out G.out.1) Hone.out ?d1 ?d2 ?_)
                case d1 => rw [Hyl.out]; exact Hf.out
                case d2 => exact G.out.1.size
                intro w7 hown7 hb7
                rw [Hyl.out] at hown7 ⊢
                have hown8 : w7.ownsRow wo.heap.size 3 1 (.slice (some ⟨wo.heap.size, 0, none⟩) ((t + 1) * d) S) ((t + 1) * d) ((List.replicate (t + 1) D).flatten.map (Value.int .i64)) := by
                  rw [Hmap.out, Hts.out]
                  exact hown7
                have HN := Lib.hid (show Ext wo w7 ∧ w7.ownsRow wo.heap.size 3 1 (.slice (some ⟨wo.heap.size, 0, none⟩) ((t + 1) * d) S) ((t + 1) * d) ((List.replicate (t + 1) D).flatten.map (Value.int .i64)) from ⟨Below.trans G.out.1 hb7, hown8⟩)
                clear hown7 hown8 hb7
                go_wp2
                go_roundw
                case rel => exact ⟨t + 1, by omega, by go_num, by rw [Hts.out], HN⟩
                case measure => simp [intOf]; omega
              · obtain rfl : t = T := by omega
                have HRow2 : Hid (Ext wo wr ∧ wr.ownsRow wo.heap.size 3 1 (.slice (some ⟨wo.heap.size, 0, none⟩) (t * d) S) (t * d) (((List.replicate t D).flatten ++ ((ls.map wordL).take 0).flatten).map (Value.int .i64))) := Lib.hid (by have := G.out; rw [List.take_zero, List.flatten_nil, List.append_nil]; exact this)
                have hz0 := HS0.out
                obtain ⟨td, htd⟩ : ∃ td, td = t * d := ⟨_, rfl⟩
                rw [← htd] at HRow2 hz0 ⊢
                have Z0 := Lib.hid hz0
                clear hz0 htd G
                go_wp2
                go_loopw [12, 14, 76] (fun wv _ i wq => ∃ j : Nat, j ≤ k ∧ i = .int .i64 j ∧ wv = .slice (some ⟨wo.heap.size, 0, none⟩) (SZ j) S ∧ Hid (Ext wo wq ∧ wq.ownsRow wo.heap.size 3 1 (.slice (some ⟨wo.heap.size, 0, none⟩) (SZ j) S) (SZ j) (((List.replicate t D).flatten ++ ((ls.map wordL).take j).flatten).map (Value.int .i64)))) (fun _ _ i _ => k - (intOf i).toNat)
                case atStart => exact ⟨0, Nat.zero_le _, rfl, by rw [Z0.out], Lib.hid (by rw [Z0.out]; exact HRow2.out)⟩
                case round =>
                  obtain ⟨j, hj, rfl, rfl, G⟩ := hrel
                  by_cases hjt : j < k
                  · have f1 : (j : Int) < k := by omega
                    have f2 : (0 : Int) ≤ j := by omega
                    obtain ⟨av, hav, hI⟩ := HUs.out j hjt
                    have hcj := G.out.1.cell (Hus.out j hjt)
                    rw [hav] at hcj hI
                    have hs := HSs.out j
                    have hle := HSm.out (j + 1) k (by omega)
                    rw [← HSk.out] at hle
                    have Hs := Lib.hid hs; have Hle := Lib.hid hle; have HI := Lib.hid hI
                    have HRj := Lib.hid (HR.out j hjt)
                    obtain ⟨U, hU⟩ : ∃ U, U = wordL (ri ls j) := ⟨_, rfl⟩
                    rw [← hU] at hcj Hs HI HRj
                    obtain ⟨L, hL⟩ : ∃ L, L = U.length := ⟨_, rfl⟩
                    rw [← hL] at hcj Hs HI
                    have HL := Lib.hid hL
                    clear hav hI hs hle hU hL
                    obtain ⟨XS, hXS⟩ : ∃ XS, XS = ((List.replicate t D).flatten ++ ((ls.map wordL).take j).flatten).map (Value.int .i64) := ⟨_, rfl⟩
                    obtain ⟨YS, hYS⟩ : ∃ YS, YS = U.map (Value.int .i64) := ⟨_, rfl⟩
                    rw [← hXS] at G
                    have hvs : VS wo (.slice av L L) L YS := by rw [hYS]; exact HI.out
                    have hone : ∀ u ∈ YS, u.oneCell' = true := by rw [hYS]; exact onesI _
                    have hyl : YS.length = L := by rw [hYS, List.length_map, HL.out]
                    have Hvs := Lib.hid hvs; have Hone := Lib.hid hone; have Hyl := Lib.hid hyl
                    have Hmap := Lib.hid (show ((List.replicate t D).flatten ++ ((ls.map wordL).take (j + 1)).flatten).map (Value.int .i64) = XS ++ YS by rw [HRj.out, ← List.append_assoc, List.map_append, hXS, hYS])
                    clear hXS hYS hvs hone hyl
                    go_wp2_with (at_builtin; refine app_fits weiInt rfl _ _ rfl wo.heap.size wo.heap.size (SZ j) S _ rfl G.out.2 _ _ _ rfl (VS.ext Hvs.out G.out.1) Hone.out ?f1 ?f2 ?_)
                    case f1 => rw [Hyl.out]; have := Hs.out; have := Hle.out; omega
                    case f2 => exact G.out.1.size
                    intro w7 hown7 hb7
                    rw [Hyl.out, ← Hs.out] at hown7
                    rw [Hyl.out, ← Hs.out]
                    have HN := Lib.hid (show Ext wo w7 ∧ w7.ownsRow wo.heap.size 3 1 (.slice (some ⟨wo.heap.size, 0, none⟩) (SZ (j + 1)) S) (SZ (j + 1)) (((List.replicate t D).flatten ++ ((ls.map wordL).take (j + 1)).flatten).map (Value.int .i64)) from ⟨Below.trans G.out.1 hb7, by
                      rw [Hmap.out]; exact hown7⟩)
                    clear hown7 hb7
                    go_wp2
                    go_roundw
                    case rel => exact ⟨j + 1, by omega, by go_num, rfl, HN⟩
                    case measure => simp [intOf]; omega
                  · obtain rfl : j = k := by omega
                    have hown := G.out.2
                    rw [← HWN.out, ← HSk.out] at hown
                    have his := IS.of_ownx hown (by rw [HWl.out, ← HSk.out])
                    have HIs := Lib.hid his
                    have HZl := Lib.hid (show S = Z.length by rw [HWl.out, ← HSk.out])
                    rw [← HSk.out]
                    clear hown his
                    go_wp2
                    go_ret2
                    exact .inr ⟨HZ.out, _, S, HZl.out, rfl, HIs.out, (XW.out.trans X5.out).trans G.out.1⟩
  · have hqT : q = (T : Int) := by have := HT.out; omega
    have Hd := Lib.hid (HDp.out (by omega))
    subst hqT
    have H4 : Hid (IS .i64 w3 (.slice a3 d d) d D) := Lib.hid (by rw [Hd.out]; exact H3.out)
    obtain ⟨w4, hw4⟩ : ∃ w4, w4 = w3 := ⟨_, rfl⟩
    subst hw4
    have X4 := X3
    have e0 : ¬ (T : Int) < 0 := hq
    have e0' : decide ((T : Int) < 0) = false := decide_eq_false hq
    clear hq
    go_wp2_with fail
    refine (HLw.out w4 X4.out).mono ?_
    rintro e w5 ⟨g5, rfl, hI5, x5⟩
    obtain ⟨us, hus, hUs⟩ := hI5.ati Hml.out.symm
    have X5 := Lib.hid (X4.out.trans x5)
    have H5 := Lib.hid (H4.out.ext x5)
    have Hus := Lib.hid hus
    have HUs := Lib.hid (show ∀ i, i < m → ∃ av, us i = .slice av (wordL (ri ls i)).length (wordL (ri ls i)).length ∧ IS .i64 w5 (us i) (wordL (ri ls i)).length (wordL (ri ls i)) from fun i hi => by
      have hh := hUs i hi
      rw [Hri.out i hi] at hh
      obtain ⟨_, _, av, e, _⟩ := hh.open
      exact ⟨av, e, hh⟩)
    have s0 : IntKind.i64.wrap ((T : Int) * (d : Int)) = ((SZ 0 : Nat) : Int) := by
      rw [HS0.out, Int.natCast_mul]
      have h0 : ((T * d : Nat) : Int) = (T : Int) * (d : Int) := Int.natCast_mul _ _
      have := HTd.out
      exact IntWalk.i64_in _ ⟨by omega, by omega⟩
    clear hI5 hus hUs x5
    go_wp2
    go_loopw [9, 11, 51] (fun z _ i wr => ∃ k : Nat, k ≤ m ∧ i = .int .i64 k ∧ z = .int .i64 ((SZ k : Nat) : Int) ∧ wr = w5) (fun _ _ i _ => m - (intOf i).toNat)
    case atStart => exact ⟨0, Nat.zero_le _, rfl, rfl, rfl⟩
    case round =>
      obtain ⟨k, hk, rfl, rfl, rfl⟩ := hrel
      by_cases hlt : k < m
      · have t1 : (k : Int) < m := by omega
        have t2 : (0 : Int) ≤ k := by omega
        obtain ⟨av, hav, _⟩ := HUs.out k hlt
        have hck := Hus.out k hlt
        rw [hav] at hck
        have hs := HSs.out k
        have hb1 := HSb.out (k + 1) (by omega)
        obtain ⟨L, hL⟩ : ∃ L, L = (wordL (ri ls k)).length := ⟨_, rfl⟩
        rw [← hL] at hck hs
        have t3 : IntKind.i64.wrap (((SZ k : Nat) : Int) + (L : Int)) = ((SZ (k + 1) : Nat) : Int) := by rw [show ((SZ k : Nat) : Int) + (L : Int) = ((SZ (k + 1) : Nat) : Int) by omega]; exact IntWalk.i64_in _ ⟨by omega, by omega⟩
        clear hav hs hb1 hL
        go_wp2
        go_roundw
        case rel => exact ⟨k + 1, by omega, by go_num, rfl, by first | rfl | trivial⟩
        case measure => simp [intOf]; omega
      · obtain rfl : k = m := by omega
        by_cases hbig : 64 < SZ k
        · have e1 : (64 : Int) < ((SZ k : Nat) : Int) := by omega
          have HZ := Lib.hid (show 64 < Z.length by rw [HWl.out]; exact hbig)
          clear hbig
          go_wp2
          go_ret2
          exact .inl ⟨HZ.out, rfl, XW.out.trans X5.out⟩
        · have e1 : ¬ (64 : Int) < ((SZ k : Nat) : Int) := by omega
          have HZ := Lib.hid (show Z.length ≤ 64 by rw [HWl.out]; omega)
          have Hbig := Lib.hid hbig
          obtain ⟨S, hS⟩ : ∃ S, S = SZ k := ⟨_, rfl⟩
          have hS64 : S ≤ 64 := by omega
          have HSk := Lib.hid hS
          have hmk := run_make_cap (P := Tryd.prog) weiInt .i64 .i64 S (by omega) (by omega)
          rw [← hS] at e1 ⊢
          clear hbig hS
          obtain ⟨w6, hw6⟩ : ∃ w6, w6 = wr.alloc (.cells (madeCells #[.int .i64 0] S) 3) := ⟨_, rfl⟩
          have ho6 : w6.ownsRow wr.heap.size 3 1 (.slice (some ⟨wr.heap.size, 0, none⟩) 0 S) 0 [] := by
            rw [hw6]; exact World.ownsRow_made wr (madeCells #[.int .i64 0] S) S (Nat.le_refl _) (by unfold maxLen; omega) (by simp [size_madeCells])
          have x6 : Ext wr w6 := by rw [hw6]; exact (Ext.refl wr).alloc _
          have H6 := Lib.hid ho6; have X6 := Lib.hid x6; have HW6 := Lib.hid hw6
          clear hw6 ho6 x6
          obtain ⟨g, hg⟩ : ∃ g, g = wr.heap.size := ⟨_, rfl⟩
          have hmid : ∀ (w7 : World) (t1 : Value), True := fun _ _ => trivial
          by_cases hd0 : d = 0
          · have e2 : ¬ (0 : Int) < (d : Int) := by omega
            have e3 : d = 0 := hd0
            have HRow : Hid (Ext wr w6 ∧ w6.ownsRow wr.heap.size 3 1 (.slice (some ⟨wr.heap.size, 0, none⟩) (SZ 0) S) (SZ 0) (((List.replicate T D).flatten ++ ((ls.map wordL).take 0).flatten).map (Value.int .i64))) := Lib.hid ⟨X6.out, by
              have h0 : SZ 0 = 0 := by rw [HS0.out, hd0, Nat.mul_zero]
              have hl := HSl.out 0 (Nat.zero_le _)
              rw [h0] at hl
              rw [List.eq_nil_of_length_eq_zero hl.symm, h0]; exact H6.out⟩
            have z0 : SZ 0 = 0 := by rw [HS0.out, hd0, Nat.mul_zero]
            have Z0 := Lib.hid z0
            clear hd0 e3 z0 hmid
            go_wp2
            rw [← HW6.out]
            have HRow2 : Hid (Ext wr w6 ∧ w6.ownsRow wr.heap.size 3 1 (.slice (some ⟨wr.heap.size, 0, none⟩) 0 S) 0 (((List.replicate T D).flatten ++ ((ls.map wordL).take 0).flatten).map (Value.int .i64))) := Lib.hid (by have := HRow.out; rwa [Z0.out] at this)
            obtain ⟨wo, hwo⟩ : ∃ wo, wo = wr := ⟨_, rfl⟩
            subst hwo
            go_loopw [12, 14, 76] (fun wv _ i wq => ∃ j : Nat, j ≤ k ∧ i = .int .i64 j ∧ wv = .slice (some ⟨wo.heap.size, 0, none⟩) (SZ j) S ∧ Hid (Ext wo wq ∧ wq.ownsRow wo.heap.size 3 1 (.slice (some ⟨wo.heap.size, 0, none⟩) (SZ j) S) (SZ j) (((List.replicate T D).flatten ++ ((ls.map wordL).take j).flatten).map (Value.int .i64)))) (fun _ _ i _ => k - (intOf i).toNat)
            case atStart => exact ⟨0, Nat.zero_le _, rfl, by rw [Z0.out], Lib.hid (by rw [Z0.out]; exact HRow2.out)⟩
            case round =>
              obtain ⟨j, hj, rfl, rfl, G⟩ := hrel
              by_cases hjt : j < k
              · have f1 : (j : Int) < k := by omega
                have f2 : (0 : Int) ≤ j := by omega
                obtain ⟨av, hav, hI⟩ := HUs.out j hjt
                have hcj := G.out.1.cell (Hus.out j hjt)
                rw [hav] at hcj hI
                have hs := HSs.out j
                have hle := HSm.out (j + 1) k (by omega)
                rw [← HSk.out] at hle
                have Hs := Lib.hid hs; have Hle := Lib.hid hle; have HI := Lib.hid hI
                have HRj := Lib.hid (HR.out j hjt)
                obtain ⟨U, hU⟩ : ∃ U, U = wordL (ri ls j) := ⟨_, rfl⟩
                rw [← hU] at hcj Hs HI HRj
                obtain ⟨L, hL⟩ : ∃ L, L = U.length := ⟨_, rfl⟩
                rw [← hL] at hcj Hs HI
                have HL := Lib.hid hL
                clear hav hI hs hle hU hL
                obtain ⟨XS, hXS⟩ : ∃ XS, XS = ((List.replicate T D).flatten ++ ((ls.map wordL).take j).flatten).map (Value.int .i64) := ⟨_, rfl⟩
                obtain ⟨YS, hYS⟩ : ∃ YS, YS = U.map (Value.int .i64) := ⟨_, rfl⟩
                rw [← hXS] at G
                have hvs : VS wo (.slice av L L) L YS := by rw [hYS]; exact HI.out
                have hone : ∀ u ∈ YS, u.oneCell' = true := by rw [hYS]; exact onesI _
                have hyl : YS.length = L := by rw [hYS, List.length_map, HL.out]
                have Hvs := Lib.hid hvs; have Hone := Lib.hid hone; have Hyl := Lib.hid hyl
                have Hmap := Lib.hid (show ((List.replicate T D).flatten ++ ((ls.map wordL).take (j + 1)).flatten).map (Value.int .i64) = XS ++ YS by rw [HRj.out, ← List.append_assoc, List.map_append, hXS, hYS])
                clear hXS hYS hvs hone hyl
                go_wp2_with (at_builtin; refine app_fits weiInt rfl _ _ rfl wo.heap.size wo.heap.size (SZ j) S _ rfl G.out.2 _ _ _ rfl (VS.ext Hvs.out G.out.1) Hone.out ?f1 ?f2 ?_)
                case f1 => rw [Hyl.out]; have := Hs.out; have := Hle.out; omega
                case f2 => exact G.out.1.size
                intro w7 hown7 hb7
                rw [Hyl.out, ← Hs.out] at hown7
                rw [Hyl.out, ← Hs.out]
                have HN := Lib.hid (show Ext wo w7 ∧ w7.ownsRow wo.heap.size 3 1 (.slice (some ⟨wo.heap.size, 0, none⟩) (SZ (j + 1)) S) (SZ (j + 1)) (((List.replicate T D).flatten ++ ((ls.map wordL).take (j + 1)).flatten).map (Value.int .i64)) from ⟨Below.trans G.out.1 hb7, by
                  rw [Hmap.out]; exact hown7⟩)
                clear hown7 hb7
                go_wp2
                go_roundw
                case rel => exact ⟨j + 1, by omega, by go_num, rfl, HN⟩
                case measure => simp [intOf]; omega
              · obtain rfl : j = k := by omega
                have hown := G.out.2
                rw [← HWN.out, ← HSk.out] at hown
                have his := IS.of_ownx hown (by rw [HWl.out, ← HSk.out])
                have HIs := Lib.hid his
                have HZl := Lib.hid (show S = Z.length by rw [HWl.out, ← HSk.out])
                rw [← HSk.out]
                clear hown his
                go_wp2
                go_ret2
                exact .inr ⟨HZ.out, _, S, HZl.out, rfl, HIs.out, (XW.out.trans X5.out).trans G.out.1⟩
          · have e2 : (0 : Int) < (d : Int) := by omega
            have e2' : 0 < d := by omega
            clear hd0 hmid
            go_wp2
            rw [← HW6.out]
            obtain ⟨wo, hwo⟩ : ∃ wo, wo = wr := ⟨_, rfl⟩
            subst hwo
            go_loopw [12, 68] (fun wv i wq => ∃ t : Nat, t ≤ T ∧ i = .int .i64 t ∧ wv = .slice (some ⟨wo.heap.size, 0, none⟩) (t * d) S ∧ Hid (Ext wo wq ∧ wq.ownsRow wo.heap.size 3 1 (.slice (some ⟨wo.heap.size, 0, none⟩) (t * d) S) (t * d) ((List.replicate t D).flatten.map (Value.int .i64)))) (fun _ i _ => T - (intOf i).toNat)
            case atStart => exact ⟨0, Nat.zero_le _, rfl, by rw [Nat.zero_mul], Lib.hid ⟨X6.out, by rw [Nat.zero_mul]; exact H6.out⟩⟩
            case round =>
              obtain ⟨t, htT, rfl, rfl, G⟩ := hrel
              by_cases htt : t < T
              · have f1 : (t : Int) < T := by omega
                have hf : t * d + d ≤ S := by have h1 := HFd.out t htt; have h2 := HSm.out 0 k (Nat.zero_le _); rw [HS0.out, ← HSk.out] at h2; omega
                have Hf := Lib.hid hf
                have hts : (t + 1) * d = t * d + d := by rw [Nat.add_mul, Nat.one_mul]
                have Hts := Lib.hid hts
                obtain ⟨nt, hnt⟩ : ∃ nt, nt = t * d := ⟨_, rfl⟩
                rw [← hnt] at G Hf Hts ⊢
                have Hnt := Lib.hid hnt
                clear hf hts hnt
                obtain ⟨XS, hXS⟩ : ∃ XS, XS = (List.replicate t D).flatten.map (Value.int .i64) := ⟨_, rfl⟩
                obtain ⟨YS, hYS⟩ : ∃ YS, YS = D.map (Value.int .i64) := ⟨_, rfl⟩
                rw [← hXS] at G
                have hvs : VS wo (.slice a3 d d) d YS := by rw [hYS]; exact H5.out
                have hone : ∀ u ∈ YS, u.oneCell' = true := by rw [hYS]; exact onesI _
                have hyl : YS.length = d := by rw [hYS, List.length_map, HDl.out]
                have Hvs := Lib.hid hvs; have Hone := Lib.hid hone; have Hyl := Lib.hid hyl
                have Hmap := Lib.hid (show (List.replicate (t + 1) D).flatten.map (Value.int .i64) = XS ++ YS by rw [HFs.out, List.map_append, hXS, hYS])
                clear hXS hYS hvs hone hyl
                go_wp2_with (at_builtin; refine app_fits weiInt rfl _ _ rfl wo.heap.size wo.heap.size nt S _ rfl G.out.2 _ _ _ rfl (VS.ext Hvs.out G.out.1) Hone.out ?d1 ?d2 ?_)
                case d1 => rw [Hyl.out]; exact Hf.out
                case d2 => exact G.out.1.size
                intro w7 hown7 hb7
                rw [Hyl.out] at hown7 ⊢
                have hown8 : w7.ownsRow wo.heap.size 3 1 (.slice (some ⟨wo.heap.size, 0, none⟩) ((t + 1) * d) S) ((t + 1) * d) ((List.replicate (t + 1) D).flatten.map (Value.int .i64)) := by
                  rw [Hmap.out, Hts.out]
                  exact hown7
                have HN := Lib.hid (show Ext wo w7 ∧ w7.ownsRow wo.heap.size 3 1 (.slice (some ⟨wo.heap.size, 0, none⟩) ((t + 1) * d) S) ((t + 1) * d) ((List.replicate (t + 1) D).flatten.map (Value.int .i64)) from ⟨Below.trans G.out.1 hb7, hown8⟩)
                clear hown7 hown8 hb7
                go_wp2
                go_roundw
                case rel => exact ⟨t + 1, by omega, by go_num, by rw [Hts.out], HN⟩
                case measure => simp [intOf]; omega
              · obtain rfl : t = T := by omega
                have HRow2 : Hid (Ext wo wr ∧ wr.ownsRow wo.heap.size 3 1 (.slice (some ⟨wo.heap.size, 0, none⟩) (t * d) S) (t * d) (((List.replicate t D).flatten ++ ((ls.map wordL).take 0).flatten).map (Value.int .i64))) := Lib.hid (by have := G.out; rw [List.take_zero, List.flatten_nil, List.append_nil]; exact this)
                have hz0 := HS0.out
                obtain ⟨td, htd⟩ : ∃ td, td = t * d := ⟨_, rfl⟩
                rw [← htd] at HRow2 hz0 ⊢
                have Z0 := Lib.hid hz0
                clear hz0 htd G
                go_wp2
                go_loopw [12, 14, 76] (fun wv _ i wq => ∃ j : Nat, j ≤ k ∧ i = .int .i64 j ∧ wv = .slice (some ⟨wo.heap.size, 0, none⟩) (SZ j) S ∧ Hid (Ext wo wq ∧ wq.ownsRow wo.heap.size 3 1 (.slice (some ⟨wo.heap.size, 0, none⟩) (SZ j) S) (SZ j) (((List.replicate t D).flatten ++ ((ls.map wordL).take j).flatten).map (Value.int .i64)))) (fun _ _ i _ => k - (intOf i).toNat)
                case atStart => exact ⟨0, Nat.zero_le _, rfl, by rw [Z0.out], Lib.hid (by rw [Z0.out]; exact HRow2.out)⟩
                case round =>
                  obtain ⟨j, hj, rfl, rfl, G⟩ := hrel
                  by_cases hjt : j < k
                  · have f1 : (j : Int) < k := by omega
                    have f2 : (0 : Int) ≤ j := by omega
                    obtain ⟨av, hav, hI⟩ := HUs.out j hjt
                    have hcj := G.out.1.cell (Hus.out j hjt)
                    rw [hav] at hcj hI
                    have hs := HSs.out j
                    have hle := HSm.out (j + 1) k (by omega)
                    rw [← HSk.out] at hle
                    have Hs := Lib.hid hs; have Hle := Lib.hid hle; have HI := Lib.hid hI
                    have HRj := Lib.hid (HR.out j hjt)
                    obtain ⟨U, hU⟩ : ∃ U, U = wordL (ri ls j) := ⟨_, rfl⟩
                    rw [← hU] at hcj Hs HI HRj
                    obtain ⟨L, hL⟩ : ∃ L, L = U.length := ⟨_, rfl⟩
                    rw [← hL] at hcj Hs HI
                    have HL := Lib.hid hL
                    clear hav hI hs hle hU hL
                    obtain ⟨XS, hXS⟩ : ∃ XS, XS = ((List.replicate t D).flatten ++ ((ls.map wordL).take j).flatten).map (Value.int .i64) := ⟨_, rfl⟩
                    obtain ⟨YS, hYS⟩ : ∃ YS, YS = U.map (Value.int .i64) := ⟨_, rfl⟩
                    rw [← hXS] at G
                    have hvs : VS wo (.slice av L L) L YS := by rw [hYS]; exact HI.out
                    have hone : ∀ u ∈ YS, u.oneCell' = true := by rw [hYS]; exact onesI _
                    have hyl : YS.length = L := by rw [hYS, List.length_map, HL.out]
                    have Hvs := Lib.hid hvs; have Hone := Lib.hid hone; have Hyl := Lib.hid hyl
                    have Hmap := Lib.hid (show ((List.replicate t D).flatten ++ ((ls.map wordL).take (j + 1)).flatten).map (Value.int .i64) = XS ++ YS by rw [HRj.out, ← List.append_assoc, List.map_append, hXS, hYS])
                    clear hXS hYS hvs hone hyl
                    go_wp2_with (at_builtin; refine app_fits weiInt rfl _ _ rfl wo.heap.size wo.heap.size (SZ j) S _ rfl G.out.2 _ _ _ rfl (VS.ext Hvs.out G.out.1) Hone.out ?f1 ?f2 ?_)
                    case f1 => rw [Hyl.out]; have := Hs.out; have := Hle.out; omega
                    case f2 => exact G.out.1.size
                    intro w7 hown7 hb7
                    rw [Hyl.out, ← Hs.out] at hown7
                    rw [Hyl.out, ← Hs.out]
                    have HN := Lib.hid (show Ext wo w7 ∧ w7.ownsRow wo.heap.size 3 1 (.slice (some ⟨wo.heap.size, 0, none⟩) (SZ (j + 1)) S) (SZ (j + 1)) (((List.replicate t D).flatten ++ ((ls.map wordL).take (j + 1)).flatten).map (Value.int .i64)) from ⟨Below.trans G.out.1 hb7, by
                      rw [Hmap.out]; exact hown7⟩)
                    clear hown7 hb7
                    go_wp2
                    go_roundw
                    case rel => exact ⟨j + 1, by omega, by go_num, rfl, HN⟩
                    case measure => simp [intOf]; omega
                  · obtain rfl : j = k := by omega
                    have hown := G.out.2
                    rw [← HWN.out, ← HSk.out] at hown
                    have his := IS.of_ownx hown (by rw [HWl.out, ← HSk.out])
                    have HIs := Lib.hid his
                    have HZl := Lib.hid (show S = Z.length by rw [HWl.out, ← HSk.out])
                    rw [← HSk.out]
                    clear hown his
                    go_wp2
                    go_ret2
                    exact .inr ⟨HZ.out, _, S, HZl.out, rfl, HIs.out, (XW.out.trans X5.out).trans G.out.1⟩
end Go.Proofs.YtigffblelngpjaaDoor
