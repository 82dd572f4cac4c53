/- The law WordsImages: its walk. -/
import Derived.Test.YtbappfeojdehgaaMj
import Derived.Test.YtbappfeojdehgaaLibc
namespace Go.Proofs.Ytbappfeojdehgaa
open Go Go.RowKit

theorem two_want {eI eR : TypeId} {w wr : World} {want ones : Value} {m : Nat} {q : Nat → Nat} (h : Two eI eR w wr want ones m q) : ∃ c, ISS .i64 wr want c (start m) := by
  obtain ⟨c, hc⟩ := VS.of_own h.hwant
  have el : (start m).length = m := by unfold start; simp
  refine ⟨c, fun j => .slice (some ⟨q j, 0, none⟩) 1 1, fun _ => 1, ⟨by rw [el]; exact hc, fun i hi => ?_⟩⟩
  rw [el] at hi
  have hr : ri (start m) i = [(i : Int) + 1] := by unfold start; rw [ri_range_map _ hi]
  rw [hr]
  refine IS.mk rfl (Nat.le_refl _) (by unfold maxLen; omega) fun j hj => ?_
  obtain rfl : j = 0 := by omega
  have := cell_of_one (h.hrows i hi).1
  simpa [gi_cons_zero] using this
/-- The first rows, one behind the other. -/
def flatK (rows : List (List Int)) (k : Nat) : List Int := (rows.take k).flatten
theorem flat_len {rows : List (List Int)} {M : Nat} (h : ∀ i, (ri rows i).length ≤ M) : ∀ k, k ≤ rows.length → (flatK rows k).length ≤ k * M := by
  unfold flatK
  intro k
  induction k with
  | zero => intro _; simp
  | succ k ih =>
    intro hk
    have e : rows.take (k + 1) = rows.take k ++ [ri rows k] := by rw [ri_lt (by omega)]; exact List.take_succ_eq_append_getElem (by omega)
    have := h k
    have := ih (by omega)
    rw [e, List.flatten_append, List.length_append, Nat.succ_mul]
    simp only [List.flatten_cons, List.flatten_nil, List.append_nil]
    omega
theorem flat_bd {rows : List (List Int)} (h : ∀ i, i < rows.length → ∀ j, j < (ri rows i).length → -100 ≤ gi (ri rows i) j ∧ gi (ri rows i) j ≤ 100) : ∀ i, i < rows.flatten.length → -100 ≤ gi rows.flatten i ∧ gi rows.flatten i ≤ 100 := by
  intro i hi
  obtain ⟨r, hr, hx⟩ := List.mem_flatten.1 (gi_mem hi)
  obtain ⟨q, hq, rfl⟩ := List.getElem_of_mem hr
  rw [← ri_lt hq] at hx
  exact gi_all (P := fun x => -100 ≤ x ∧ x ≤ 100) (h q hq) _ hx
theorem flat_succ {rows : List (List Int)} {k : Nat} (hk : k < rows.length) : flatK rows (k + 1) = flatK rows k ++ ri rows k := by
  unfold flatK
  have e : rows.take (k + 1) = rows.take k ++ [ri rows k] := by rw [ri_lt (by omega)]; exact List.take_succ_eq_append_getElem (by omega)
  rw [e, List.flatten_append]; simp

theorem VS.oneAt {w : World} {g : Nat} (hg : g = w.heap.size) (u : Value) (e : TypeId) : VS (w.alloc (.cells #[u] e)) (.slice (some ⟨g, 0, none⟩) 1 1) 1 [u] := by subst hg; exact VS.one w u e

theorem IS.first {k : IntKind} {w : World} {a : Option Addr} {n c c' : Nat} {xs : List Int} (h : IS k w (.slice a n c) c' xs) {m : Nat} (hm : m ≤ n) : IS k w (.slice a m c) c' (xs.take m) := by
  obtain ⟨rfl, rfl, hc⟩ := h.len
  obtain ⟨ao, hv, h1, h2, h3, h4⟩ := h
  simp only [Value.slice.injEq] at hv
  obtain ⟨rfl, _, _⟩ := hv
  refine ⟨a, by simp [Nat.min_eq_left hm], by simp; omega, h2, h3, fun b hb => ⟨(h4 b hb).1, fun j u hj => (h4 b hb).2 j u ?_⟩⟩
  rw [List.map_take, List.getElem?_take] at hj
  split at hj
  · exact hj
  · cases hj

set_option maxHeartbeats 4000000 in
set_option maxRecDepth 100000 in
theorem WordsImages_walk (n : Int) (v : Value) (c : Nat) (xs : List Int) (w : World) (hn : 0 ≤ n ∧ n ≤ 255) (h : IS .u8 w v c xs) (hb : ∀ i, i < xs.length → 0 ≤ gi xs i ∧ gi xs i ≤ 255) :
    Calls Try.prog 4 #[.int .u8 n, v] w fun e w' => e = .returned (.bool true) ∧ Ext w w' := by
  obtain ⟨m, hm⟩ : ∃ m : Nat, (m : Int) = 1 + n % 6 := ⟨(1 + n % 6).toNat, by omega⟩
  have m1 : 1 ≤ m := by omega
  have m6 : m ≤ 6 := by omega
  have hStr := fun w => Strands_m n m w hn hm
  have hOf := Of_calls m v c xs w h hb ⟨by omega, by omega⟩
  have hmem := wordOf_mem (n := m) (by omega) hb
  have hlen := wordOf_len m xs
  obtain ⟨V, hV⟩ : ∃ V, V = wordOf m xs := ⟨_, rfl⟩
  rw [← hV] at hOf hmem hlen
  obtain ⟨W, hW⟩ : ∃ W, W = V.take 12 := ⟨_, rfl⟩
  have hgood : ∀ i, i < W.length → wbad m (gi W i) = false := fun i hi => (hmem _ (by rw [hW] at hi ⊢; exact List.mem_of_mem_take (gi_mem hi))).1
  have hl12 : W.length ≤ 12 := by rw [hW]; simp; omega
  have hwc : wcheck m W = 0 := wcheck_ok (by omega) (by omega) (by omega) hgood
  have hfit : fits m W := fits12 hgood m1 hl12
  have hall := len12 hgood m1 hl12
  have hrl := act_RL hgood m1 W.length (Nat.le_refl _)
  have hflat := flat_act hgood m1 W.length (Nat.le_refl _)
  rw [List.take_length] at hrl hflat
  have hfb : ∀ i, i < (actRows m W).flatten.length → -100 ≤ gi (actRows m W).flatten i ∧ gi (actRows m W).flatten i ≤ 100 := flat_bd (by
    have := act_okr hgood m1 (by omega) W.length (Nat.le_refl _) (fun j hj => hfit j hj)
    rw [List.take_length] at this
    rw [actRows_len]; exact fun i hi => (this i hi).2)
  have Hfb := Lib.hid hfb; clear hfb
  have himg := fun k hk => act_img hgood m1 (k := k) hk
  have hokr := fun k hk => act_okr hgood m1 (by omega) k hk (fun j hj => hfit j (by omega))
  obtain ⟨L, hL⟩ : ∃ L, L = W.length := ⟨_, rfl⟩
  rw [← hL] at hl12 hgood himg hokr
  obtain ⟨N, hN⟩ : ∃ N, N = V.length := ⟨_, rfl⟩
  have hLN : L = min N 12 := by rw [hL, hN, hW]; simp [Nat.min_comm]
  rw [← hN] at hlen
  have HLN := Lib.hid hLN
  have hLN1 : L ≤ N := by omega
  clear hLN
  have HOf := Lib.hid hOf; have HS := Lib.hid hStr; have HV := Lib.hid hN; have HL := Lib.hid hL; have HW := Lib.hid hW; have Hwc := Lib.hid hwc; have Hfit := Lib.hid hfit; have Hall := Lib.hid hall; have Hflat := Lib.hid hflat; have Himg := Lib.hid himg; have Hokr := Lib.hid hokr; have Hgood := Lib.hid hgood
  clear hOf hStr hN hL hW hwc hfit hall hrl hflat himg hokr hgood hmem hV hm hb h
  go_enter Try.func4, Try.ntmps4
  go_wp2_with fail
  refine (HS.out _).mono ?_
  rintro e w1 ⟨rfl, rfl⟩
  go_wp2_with fail
  refine HOf.out.mono ?_
  intro e w1 hh
  obtain ⟨a1, N', c1, rfl, hl, h1, x1⟩ := hh.open
  obtain rfl : N = N' := by rw [hl, HV.out]
  have hNc : V.length ≤ c1 := h1.len.2.2
  have X1 := Lib.hid x1; have H1 := Lib.hid h1
  clear hh hl h1 x1
  rw [← HV.out] at hNc
  have hmin1 : (if (12 : Int) < (N : Int) then (12 : Int) else (N : Int)) = (L : Int) := by have := HLN.out; split <;> omega
  have e1 : (L : Int) ≤ c1 := by omega
  have e2 : (0 : Int) ≤ (L : Int) := by omega
  have hW1 : IS .i64 w1 (.slice a1 L c1) c1 W := by
    have := H1.out.first (m := L) (by omega)
    have e : V.take L = W := by
      have hLN := HLN.out
      rw [HW.out]
      by_cases h12 : N ≤ 12
      · rw [List.take_of_length_le (by rw [← HV.out]; omega), List.take_of_length_le (by rw [← HV.out]; omega)]
      · rw [show L = 12 by omega]
    rwa [e] at this
  have HW1 := Lib.hid hW1
  clear hW1 H1 HOf HS HV HW
  go_wp2
  have Htwo : Hid (Two 3 25 w1 w1 (.slice none 0 0) (.slice none 0 0) 0 (fun _ => 0)) := ⟨Ext.refl _, World.ownsRow_nil _ _ _ _, World.ownsRow_nil _ _ _ _, fun j hj => by omega⟩
  go_loopw [7, 9, 10] (fun want ones i wr => ∃ (k : Nat) (q : Nat → Nat), k ≤ m ∧ i = .int .i64 ((k : Int) + 1) ∧ Hid (Two 3 25 w1 wr want ones k q)) (fun _ _ i _ => m + 1 - (intOf i).toNat)
  case atStart => exact ⟨0, _, Nat.zero_le _, rfl, Htwo⟩
  case round =>
    clear Htwo
    obtain ⟨k, q, hk, rfl, H2⟩ := hrel
    by_cases hlt : k < m
    · go_wp2_with (at_builtin; refine app_lies eiRow rfl _ _ rfl w1.heap.size _ k _ rfl (own_alloc (own_alloc H2.out.hwant _) _) _ _ _ rfl (VS.oneAt (by simp) _ _) (by intro u hu; simp at hu; subst hu; rfl) ?c1 ?c2 ?c3 ?c4 ?_)
      case c1 => simp; omega
      case c2 => simp; omega
      case c3 => have := H2.out.hext.size; simp; omega
      case c4 => simp
      intro g1 cap1 wx hown1 hgr1 _
      have hones := grown_own (own_alloc (own_alloc H2.out.hones _) _) hgr1 (own_apart H2.out.hones H2.out.hwant (by decide))
      have hsx := hgr1.size
      have Hown1 := Lib.hid hown1; have Hgr1 := Lib.hid hgr1; have Hones := Lib.hid hones
      clear hown1 hgr1 hones
      go_wp2_with (at_builtin; refine app_lies eiInt rfl _ _ rfl w1.heap.size _ k _ rfl (own_alloc Hones.out _) _ _ _ rfl (VS.one _ _ _) (one1 _) ?d1 ?d2 ?d3 ?d4 ?_)
      case d1 => simp; omega
      case d2 => simp; omega
      case d3 => have := H2.out.hext.size; simp at hsx ⊢; omega
      case d4 => simp
      intro g2 cap2 wy hown2 hgr2 hat
      have HT := Lib.hid (Two.step (by decide) H2.out rfl rfl Hown1.out Hgr1.out hown2 hgr2 (by simpa using hat))
      clear hown2 hgr2 hat
      go_wp2
      go_roundw
      case rel => exact ⟨k + 1, _, by omega, by go_num, HT⟩
      case measure => simp [intOf]; omega
    · obtain rfl : m = k := by omega
      have hones : ∃ c, IS .i64 wr u9 c (onesL m) := IS.of_own (by
        have := H2.out.hones
        have e : (onesL m).map (Value.int .i64) = (List.range m).map fun j : Nat => .int .i64 ((j : Int) + 1) := by unfold onesL; simp [Function.comp_def]
        rwa [← e] at this)
      have hwant : ∃ c, ISS .i64 wr u7 c (actRows m (W.take 0)) := by
        have e : actRows m (W.take 0) = start m := by simp [actRows]
        rw [e]; exact two_want H2.out
      obtain ⟨c9, hones⟩ := hones
      obtain ⟨c7, hwant⟩ := hwant
      obtain ⟨wo, rfl⟩ : ∃ wo : World, wo = wr := ⟨_, rfl⟩
      have Xo := Lib.hid (X1.out.trans H2.out.hext)
      have HWo := Lib.hid (HW1.out.ext H2.out.hext)
      have Hones := Lib.hid hones; have Hwant := Lib.hid hwant
      clear hones hwant H2 HW1 X1 hmin1 e1 e2
      go_wp2
      go_loopw [7, 11] (fun want i wr => ∃ (k c : Nat), k ≤ L ∧ i = .int .i64 k ∧ Hid (Ext wo wr) ∧ Hid (ISS .i64 wr want c (actRows m (W.take k)))) (fun _ i _ => L - (intOf i).toNat)
      case atStart => exact ⟨0, c7, Nat.zero_le _, rfl, Ext.refl _, Hwant.out⟩
      case round =>
        clear Hwant
        obtain ⟨k, c7, hk, rfl, Hx, Hw⟩ := hrel
        by_cases hlt : k < L
        · obtain ⟨b1, o1, rfl, hc1⟩ := (HWo.out.ext Hx.out).at hlt
          have hck := hc1 k hlt
          have hcall := image_calls (gi W k) m u7 c7 _ wr Hw.out (actRows_len _ _) (Hgood.out k hlt) m1 (by omega) (Hokr.out k hk)
          rw [Himg.out k hlt] at hcall
          have Hcall := Lib.hid hcall
          clear hcall hc1
          go_wp2_with fail
          refine Hcall.out.mono ?_
          rintro e w2 ⟨v2, c2, rfl, h2, x2⟩
          have Hx2 := Lib.hid (Hx.out.trans x2); have H2 := Lib.hid h2
          clear h2 x2 Hcall
          go_wp2
          go_roundw
          case rel => exact ⟨k + 1, c2, by omega, by go_num, Hx2, H2⟩
          case measure => simp [intOf]; omega
        · obtain rfl : L = k := by omega
          have htk : W.take L = W := by rw [HL.out]; exact List.take_length
          rw [htk] at Hw
          go_wp2_with fail
          refine (Act_calls m _ _ W _ (HWo.out.ext Hx.out) Hwc.out Hfit.out).mono ?_
          rintro e w4 ⟨v4, rfl, ⟨vs, h4⟩, x4⟩
          have hAl := actRows_len m W
          obtain ⟨_, _, a4, rfl, hao⟩ := h4.open
          rw [hAl] at hao h4 ⊢
          have H4 := Lib.hid h4
          have hao2 : ∃ b o, a4 = some ⟨b, o, none⟩ ∧ ∀ i, i < m → w4.cell? ⟨b, o + i, none⟩ = some (vs i) := by
            rcases hao with ⟨_, h0, _⟩ | hh
            · omega
            · exact hh
          obtain ⟨b4, o4, rfl, hc4⟩ := hao2
          have Hc4 := Lib.hid hc4; have HAl := Lib.hid hAl
          have X4 := Lib.hid (Xo.out.trans (Hx.out.trans x4)); have Hw4 := Lib.hid (Hw.out.ext x4); have Hn4 := Lib.hid ((Hones.out.ext Hx.out).ext x4)
          clear hc4 hao h4 x4 hAl Hw Hones Hx Xo HWo Hwc Hfit Hgood Hokr Himg
          go_wp2
          go_loopw [8, 14] (fun p i wr => ∃ k : Nat, k ≤ m ∧ i = .int .i64 k ∧ Hid (Ext w4 wr) ∧ Hid (wr.ownsRow w4.heap.size 3 1 p (flatK (actRows m W) k).length ((flatK (actRows m W) k).map (Value.int .i64)))) (fun _ i _ => m - (intOf i).toNat)
          case atStart => exact ⟨0, Nat.zero_le _, rfl, Ext.refl _, Lib.hid (by simpa [flatK] using World.ownsRow_nil w4 w4.heap.size 3 1)⟩
          case round =>
            obtain ⟨k, hk, rfl, Hx, Hown⟩ := hrel
            by_cases hlt : k < m
            · obtain ⟨ak, lk, ck, hv, hlk, hck, hr⟩ := (H4.out.2 k (by rw [HAl.out]; exact hlt)).out
              have hcv := Hx.out.cell (Hc4.out k hlt)
              rw [hv] at hcv
              have hll : ck = lk := by rw [hck, hlk]
              have hfl := flat_len Hall.out k (by rw [HAl.out]; omega)
              have hal := Hall.out k
              have hl2 : (flatK (actRows m W) k).length ≤ 300000 := by
                have : k * 47321 ≤ 6 * 47321 := Nat.mul_le_mul_right _ (by omega)
                omega
              have hfs := flat_succ (rows := actRows m W) (k := k) (by rw [HAl.out]; exact hlt)
              have Hr := Lib.hid hr; have Hfs := Lib.hid hfs
              subst hll
              have Hlk := Lib.hid hlk
              clear hr hfs hv hck hfl hlk
              go_wp2_with (at_builtin; refine app_own eiInt rfl _ _ rfl w4.heap.size _ _ _ rfl Hown.out _ _ _ rfl (Hr.out.ext Hx.out) (onesI _) ?c1 ?c2 ?c3 ?_)
              case c1 => simp only [List.length_map]; omega
              case c2 => simp only [List.length_map]; omega
              case c3 => exact Hx.out.size
              intro v5 w5 hown5 hb5
              have x5 : Ext w4 w5 := Below.trans Hx.out hb5
              have hown6 : w5.ownsRow w4.heap.size 3 1 v5 (flatK (actRows m W) (k + 1)).length ((flatK (actRows m W) (k + 1)).map (Value.int .i64)) := by
                have := hown5
                rw [Hfs.out, List.map_append, List.length_append]
                exact this
              have hcv5 : w5.cell? ⟨b4, o4 + k, none⟩ = some (.slice ak ck ck) := by
                have h0 := Hc4.out k hlt
                have h1 := Hx.out.cell h0
                rw [hcv] at h1
                rw [Option.some.inj h1]
                exact x5.cell h0
              have X5 := Lib.hid x5; have Hown5 := Lib.hid hown6
              clear hown5 hb5 x5 hown6 hcv Hown
              have e1 : (k : Int) < m := by omega
              have e2 : (0 : Int) ≤ (k : Int) := by omega
              go_wp2
              go_quiet (fail)
              go_wp2
              go_roundw
              case rel => exact ⟨k + 1, by omega, by go_num, X5.out.drewN _, Hown5.out⟩
              case measure => simp [intOf]; omega
            · obtain rfl : m = k := by omega
              have htk : flatK (actRows m W) m = (actRows m W).flatten := by unfold flatK; rw [List.take_of_length_le (by rw [HAl.out]; omega)]
              rw [htk] at Hown
              obtain ⟨c8, h8⟩ := IS.of_own Hown.out
              have hfl := flat_len Hall.out m (by rw [HAl.out]; omega)
              rw [htk] at hfl
              have hl3 : (actRows m W).flatten.length ≤ 300000 := by
                have : m * 47321 ≤ 6 * 47321 := Nat.mul_le_mul_right _ (by omega)
                omega
              have H8 := Lib.hid h8
              have hab : allB (actRows m W) (actRows m W) = true := allB_eq _
              have hsb : sameB (onesL m) (onesL m) = true := sameB_eq _
              obtain ⟨wp, rfl⟩ : ∃ wp : World, wp = wr := ⟨_, rfl⟩
              clear h8 hfl Hown htk
              go_wp2_with fail
              refine (all_ext _ _ _ _ _ _ _ (ISX.iss ⟨vs, H4.out.ext Hx.out⟩) (Hw4.out.ext Hx.out)).mono ?_
              rintro e wa ⟨rfl, xa⟩
              have Xa := Lib.hid xa
              clear xa
              go_wp2_with fail
              refine (reduced_calls _ _ _ _ (H8.out.ext Xa.out) (by omega) Hfb.out).mono ?_
              intro e wb hh
              obtain ⟨ab, nb, cb, rfl, hnb, hb', xb⟩ := hh.open
              rw [Hflat.out] at hb'
              have Xb := Lib.hid (Xa.out.trans xb); have Hb := Lib.hid hb'
              clear hh hnb hb' xb
              go_wp2_with fail
              refine (same_ext _ _ _ _ _ _ _ Hb.out ((Hn4.out.ext Hx.out).ext Xb.out)).mono ?_
              rintro e wc ⟨rfl, xc⟩
              have Xc := Lib.hid (Xb.out.trans xc)
              clear xc
              go_wp2_with fail
              refine (lives_calls _).mono ?_
              rintro e wd ⟨rfl, xd⟩
              go_wp2
              go_ret
              exact ⟨rfl, X4.out.trans (Hx.out.trans (Xc.out.trans xd))⟩
end Go.Proofs.Ytbappfeojdehgaa
