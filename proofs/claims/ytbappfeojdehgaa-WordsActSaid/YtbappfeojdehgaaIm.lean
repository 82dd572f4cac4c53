/- Contracts of the law's back and image. -/
import Derived.Test.YtbappfeojdehgaaWv
import Derived.Test.YtbappfeojdehgaaLibb
namespace Go.Proofs.Ytbappfeojdehgaa
set_option linter.unusedVariables false
set_option linter.unusedSimpArgs false
open Go Go.RowKit

theorem invL_len (a : List Int) : (invL a).length = a.length := by unfold invL; simp
theorem invL_gi {a : List Int} {i : Nat} (h : i < a.length) : gi (invL a) i = - gi a (a.length - 1 - i) := by unfold invL; exact negs_gi h

theorem back_calls (v : Value) (c : Nat) (xs : List Int) (w : World) (h : IS .i64 w v c xs) (hl : xs.length ≤ 1000000) (hb : ∀ i, i < xs.length → -100 ≤ gi xs i ∧ gi xs i ≤ 100) :
    Calls Try.prog 32 #[v] w (RetO 3 w (invL xs)) := by
  obtain ⟨a, n, c', rfl, hn, rfl, h1⟩ := h.out
  obtain ⟨_, _, hcap⟩ := h1.len
  have hcm : c' ≤ maxLen := by obtain ⟨_, h2, _⟩ := h1.open; exact h2
  unfold maxLen at hcm
  have hst : ∀ k, k < n → (invL xs).take (k + 1) = (invL xs).take k ++ [- gi xs (n - 1 - k)] := fun k hk => by
    rw [take_succ_gi (by rw [invL_len]; omega), invL_gi (by omega), hn]
  have hend : ∀ v w', w'.ownsRow w.heap.size 3 1 v n (((invL xs).take n).map (Value.int .i64)) → Ext w w' → RetO 3 w (invL xs) (.returned v) w' := fun v w' ho hx => by
    rw [List.take_of_length_le (by rw [invL_len]; omega)] at ho
    exact ⟨v, rfl, by rw [invL_len, ← hn]; exact ho, hx⟩
  rw [← hn] at hl hcap hb
  have H1 := Lib.hid h1; have Hb := Lib.hid hb; have Hst := Lib.hid hst; have Hend := Lib.hid hend; have Hn := Lib.hid hn
  clear h h1 hb hst hend hn
  go_enter Try.func32, Try.ntmps32
  go_wp2
  go_loopw [3, 4] (fun o i wr => ∃ k : Nat, k ≤ n ∧ i = .int .i64 ((n : Int) - 1 - (k : Int)) ∧ Hid (Ext w wr) ∧ Hid (wr.ownsRow w.heap.size 3 1 o k (((invL xs).take k).map (Value.int .i64)))) (fun _ i _ => (intOf i + 1).toNat)
  case atStart => exact ⟨0, Nat.zero_le _, by go_num, Ext.refl w, Lib.hid (by simpa using World.ownsRow_nil w _ _ _)⟩
  case round =>
    obtain ⟨k, hk, rfl, Hx, Hown⟩ := hrel
    by_cases hlt : k < n
    · obtain ⟨b, o, rfl, hc⟩ := H1.out.at hlt
      obtain ⟨p, hp⟩ : ∃ p : Nat, (n : Int) - 1 - (k : Int) = p := ⟨n - 1 - k, by omega⟩
      have hp2 : n - 1 - k = p := by omega
      have hcp := Hx.out.cell (hc p (by omega))
      obtain ⟨g1, g2⟩ := Hb.out p (by omega)
      have hs := Hst.out k hlt
      rw [hp2] at hs
      generalize gi xs p = x at hcp g1 g2 hs
      have Hs := Lib.hid hs
      rw [hp]
      clear hc hs
      go_wp2_with (at_builtin; refine app_own eiInt rfl _ _ rfl w.heap.size _ k _ rfl (World.ownsRow.alloc Hown.out _) _ _ _ rfl (VS.one _ _ _) (one1 _) ?c1 ?c2 ?c3 ?_)
      case c1 => simp; omega
      case c2 => simp; omega
      case c3 => have := Hx.out.size; simp; omega
      intro v1 w1 hown hb1
      go_wp2
      go_roundw
      case rel => exact ⟨k + 1, by omega, by go_num, Below.trans (Hx.out.alloc _) hb1, by rw [Hs.out, List.map_append, List.map_take]; exact hown⟩
      case measure => simp [intOf]
    · obtain rfl : k = n := by omega
      have hd : decide ((0 : Int) ≤ (k : Int) - 1 - (k : Int)) = false := by simp; omega
      go_wp2
      go_ret
      exact Hend.out _ _ Hown.out Hx.out

/-- What the law's definition makes of images. -/
def imgRows (rows : List (List Int)) (k : Int) : List (List Int) :=
  if 0 < k then
    let i := (k - 1).toNat
    (rows.set i (red (ri rows i ++ ri rows (i + 1) ++ invL (ri rows i)))).set (i + 1) (ri rows i)
  else
    let i := (-k - 1).toNat
    (rows.set i (ri rows (i + 1))).set (i + 1) (red (invL (ri rows (i + 1)) ++ ri rows i ++ ri rows (i + 1)))
theorem imgRows_pos (rows : List (List Int)) (i : Nat) : imgRows rows ((i : Int) + 1) = (rows.set i (red (ri rows i ++ ri rows (i + 1) ++ invL (ri rows i)))).set (i + 1) (ri rows i) := by
  unfold imgRows
  rw [if_pos (by omega), show ((i : Int) + 1 - 1).toNat = i from by omega]
theorem imgRows_neg (rows : List (List Int)) (i : Nat) : imgRows rows (-((i : Int) + 1)) = (rows.set i (ri rows (i + 1))).set (i + 1) (red (invL (ri rows (i + 1)) ++ ri rows i ++ ri rows (i + 1))) := by
  unfold imgRows
  rw [if_neg (by omega), show (-(-((i : Int) + 1)) - 1).toNat = i from by omega]
theorem imgRows_len (rows : List (List Int)) (k : Int) : (imgRows rows k).length = rows.length := by unfold imgRows; split <;> simp

theorem okr_app {m m' : Nat} {a b : List Int} (ha : Okr m a) (hb : Okr m' b) : Okr (m + m') (a ++ b) := by
  refine ⟨by simp; have := ha.1; have := hb.1; omega, fun i hi => ?_⟩
  by_cases e : i < a.length
  · rw [gi_append_left e]; exact ha.2 i e
  · rw [gi_append_right (by omega)]; exact hb.2 _ (by simp at hi; omega)

theorem eiRow : EI Try.prog 34 25 (.slice none 0 0) 24 := ⟨Try.underlying34, by kernel_rfl, rfl⟩
theorem oneVs {k : IntKind} {w : World} {v : Value} {c : Nat} {vs : Nat → Value} {caps : Nat → Nat} {rows : List (List Int)} (h : ISV k w v c vs caps rows) : ∀ u ∈ (List.range rows.length).map vs, u.oneCell' = true := by
  intro u hu
  obtain ⟨i, hi, rfl⟩ := List.mem_map.1 hu
  obtain ⟨a, n, c', hv, _⟩ := (h.2 i (by simpa using hi)).out
  rw [hv]; rfl

theorem image_pos (i : Nat) (n : Nat) (v : Value) (c : Nat) (rows : List (List Int)) (w : World) (h : ISS .i64 w v c rows) (hl : rows.length = n) (hi : i + 1 < n) (h8 : n ≤ 8) (hb : ∀ j, j < n → Okr 262144 (ri rows j)) :
    Calls Try.prog 17 #[v, .int .i64 ((i : Int) + 1)] w (RetSS w ((rows.set i (red (ri rows i ++ ri rows (i + 1) ++ invL (ri rows i)))).set (i + 1) (ri rows i))) := by
  obtain ⟨RR, hRR⟩ : ∃ RR, RR = (rows.set i (red (ri rows i ++ ri rows (i + 1) ++ invL (ri rows i)))).set (i + 1) (ri rows i) := ⟨_, rfl⟩
  rw [← hRR]
  have HRR := Lib.hid hRR; clear hRR
  obtain ⟨vs, caps, h⟩ := h
  have hone := oneVs h
  obtain ⟨h1, h2, ao, rfl, hao⟩ := h.open
  rw [hl] at hao hone h1 h ⊢
  obtain ⟨b, o, rfl, hc⟩ : ∃ b o, ao = some ⟨b, o, none⟩ ∧ ∀ i, i < n → w.cell? ⟨b, o + i, none⟩ = some (vs i) := by
    rcases hao with ⟨_, h0, _⟩ | hh
    · omega
    · exact hh
  have c1 := hc i (by omega)
  have c2 := hc (i + 1) (by omega)
  obtain ⟨aa, la, ca, hva, hla, hca, ha⟩ := (h.2 i (by omega)).out
  obtain ⟨ab, lb, cb, hvb, hlb, hcb, hb'⟩ := (h.2 (i + 1) (by omega)).out
  rw [hva] at c1
  rw [hvb] at c2
  have oa := hb i (by omega)
  have ob := hb (i + 1) (by omega)
  have Hv := Lib.hid h; have Hl := Lib.hid hl; have Hone := Lib.hid hone
  have Ha := Lib.hid ha; have Hb := Lib.hid hb'; have Oa := Lib.hid oa; have Ob := Lib.hid ob
  have Hva := Lib.hid hva; have Hvb := Lib.hid hvb
  have la6 : la ≤ 262144 := by rw [hla]; exact oa.1
  have lb6 : lb ≤ 262144 := by rw [hlb]; exact ob.1
  have Hla := Lib.hid hla; have Hlb := Lib.hid hlb
  clear h ha hb' oa ob hb hva hvb hla hlb hc hao hl hone hca hcb
  have e0 : (0 : Int) < (i : Int) + 1 := by omega
  have e1 : (i : Int) + 1 < n := by omega
  have e2 : (i : Int) < n := by omega
  have e3 : (0 : Int) ≤ (i : Int) := by omega
  have e4 : (0 : Int) ≤ (i : Int) + 1 := by omega
  have e5 : IntKind.i64.wrap (i : Int) = (i : Int) := IntWalk.i64_in _ ⟨by omega, by omega⟩
  have e6 : ((i : Int) + 1).toNat = i + 1 := by omega
  go_enter Try.func17, Try.ntmps17
  go_wp2_with (at_builtin; refine app_own eiRow rfl _ _ rfl w.heap.size _ 0 [] rfl (World.ownsRow_made w #[] 0 (Nat.le_refl _) (by unfold maxLen; omega) rfl) _ _ _ rfl (Hv.out.1.ext ((Ext.refl w).alloc _)) (by rw [Hl.out]; exact Hone.out) ?c1 ?c2 ?c3 ?_)
  case c1 => simp [Hl.out]; omega
  case c2 => simp [Hl.out]; omega
  case c3 => simp
  intro v1 w1 hown hb1
  have x1 : Ext w w1 := Below.trans ((Ext.refl w).alloc _) hb1
  obtain ⟨g, cap, f, rfl, hBg, hg, hnc, hcm, hrow, hf⟩ := own_open hown (by simp [Hl.out]; omega)
  rw [Hl.out] at hnc ⊢
  have hfv : ∀ j, j < n → f j = vs j := fun j hj => hf j _ (by simp [Hl.out, hj])
  have X1 := Lib.hid x1; have Hrow := Lib.hid hrow; have Hfv := Lib.hid hfv
  replace c1 := x1.cell c1; replace c2 := x1.cell c2
  clear hown hb1 hf hrow hfv x1
  go_wp2
  go_quiet (fail)
  go_wp2_with (at_builtin; refine app_own eiInt rfl _ _ rfl w1.heap.size _ 0 [] rfl (World.ownsRow_made (w1.drewN _) #[] 0 (Nat.le_refl _) (by unfold maxLen; omega) rfl) _ _ _ rfl (Ha.out.ext (X1.out.trans (((Ext.refl w1).drewN _).alloc _))) (onesI _) ?d1 ?d2 ?d3 ?_)
  case d1 => have := Hla.out; simp; omega
  case d2 => have := Hla.out; simp; omega
  case d3 => simp
  intro v2 w2 hown2 hb2
  have x2 : Ext w1 w2 := Below.trans (((Ext.refl w1).drewN _).alloc _) hb2
  have X2 := Lib.hid x2; have O2 := Lib.hid hown2
  clear hown2 hb2 x2
  go_wp2_with (at_builtin; refine app_own eiInt rfl _ _ rfl w1.heap.size v2 _ _ rfl O2.out _ _ _ rfl (Hb.out.ext (X1.out.trans X2.out)) (onesI _) ?f1 ?f2 ?f3 ?_)
  case f1 => have := Hla.out; have := Hlb.out; simp; omega
  case f2 => have := Hla.out; have := Hlb.out; simp; omega
  case f3 => exact X2.out.size
  intro v3 w3 hown3 hb3
  have X3 := Lib.hid (show Ext w1 w3 from Below.trans X2.out hb3); have O3 := Lib.hid hown3
  clear hown3 hb3 O2
  go_wp2_with fail
  refine (back_calls _ _ (ri rows i) _ (Ha.out.ext (X1.out.trans X3.out)) (by have := Oa.out.1; omega) Oa.out.2).mono ?_
  rintro e w4 ⟨v4, rfl, hown4, x4⟩
  obtain ⟨c4, h4⟩ := IS.of_own hown4
  have X4 := Lib.hid (X3.out.trans x4); have O4 := Lib.hid (own_ext O3.out x4); have H4 := Lib.hid h4
  have L4 := Lib.hid (invL_len (ri rows i))
  clear hown4 x4 O3 h4
  go_wp2_with (at_builtin; refine app_own eiInt rfl _ _ rfl w1.heap.size v3 _ _ rfl O4.out _ _ _ rfl H4.out (onesI _) ?g1 ?g2 ?g3 ?_)
  case g1 => have := Hla.out; have := Hlb.out; have := L4.out; simp; omega
  case g2 => have := Hla.out; have := Hlb.out; have := L4.out; simp; omega
  case g3 => exact X4.out.size
  intro v5 w5 hown5 hb5
  have X5 := Lib.hid (show Ext w1 w5 from Below.trans X4.out hb5)
  have hown5' : w5.ownsRow w1.heap.size 3 1 v5 (ri rows i ++ ri rows (i + 1) ++ invL (ri rows i)).length ((ri rows i ++ ri rows (i + 1) ++ invL (ri rows i)).map (Value.int .i64)) := by
    simpa [List.append_assoc, Nat.add_assoc] using hown5
  obtain ⟨c5, h5⟩ := IS.of_own hown5'
  have H5 := Lib.hid h5
  clear hown5 hown5' hb5 h5 H4 O4
  have hok := okr_app (okr_app Oa.out Ob.out) (okr_inv Oa.out)
  have Hok := Lib.hid hok
  clear hok
  go_wp2_with fail
  refine (reduced_calls _ _ _ _ H5.out (by have := Hok.out.1; omega) Hok.out.2).mono ?_
  intro e w6 hh
  obtain ⟨a6, n6, c6, rfl, hn6, h6, x6⟩ := hh.open
  have X6 := Lib.hid (X5.out.trans x6); have H6 := Lib.hid h6
  have s1 : w6.cell? ⟨g, i, none⟩ = some (f i) := (X6.out.row Hrow.out).cell (by omega)
  have s2 : w6.cell? ⟨g, i + 1, none⟩ = some (f (i + 1)) := (X6.out.row Hrow.out).cell (by omega)
  have s3 : w6.frozen? ⟨g, i, none⟩ = false := (X6.out.row Hrow.out).frozen _
  have s4 : w6.frozen? ⟨g, i + 1, none⟩ = false := (X6.out.row Hrow.out).frozen _
  clear hh h6 x6 hn6 X2 X3 X4 X5 c1 c2
  go_wp2
  go_ret
  have hnf1 : w6.cell? ⟨g, i, none⟩ = some (.slice aa la ca) := by rw [s1, Hfv.out i (by omega), Hva.out]
  have hnf2 : w6.cell? ⟨g, i + 1, none⟩ = some (.slice ab lb cb) := by rw [s2, Hfv.out (i + 1) (by omega), Hvb.out]
  have hne : (⟨g, i, none⟩ : Addr) ≠ ⟨g, i + 1, none⟩ := by simp
  obtain ⟨w7, hw7⟩ : ∃ w7, w7 = w6.setCell ⟨g, i, none⟩ (.slice a6 n6 c6) := ⟨_, rfl⟩
  have hnf3 : w7.cell? ⟨g, i + 1, none⟩ = some (.slice ab lb cb) := by rw [hw7, World.cell?_setCell_other (h := hne)]; exact hnf2
  rw [← hw7]
  have hx : Ext w (w7.setCell ⟨g, i + 1, none⟩ (.slice aa la ca)) := by
    rw [hw7]
    exact ((X1.out.trans X6.out).setCell (p := ⟨g, i, none⟩) hBg _).setCell (p := ⟨g, i + 1, none⟩) hBg _
  have hr := (((X6.out.row Hrow.out).set i (.slice a6 n6 c6)).set (i + 1) (.slice aa la ca))
  have h66 : IS .i64 (w7.setCell ⟨g, i + 1, none⟩ (.slice aa la ca)) (.slice a6 n6 c6) c6 (red (ri rows i ++ ri rows (i + 1) ++ invL (ri rows i))) := by
    refine IS.setAt ?_ hnf3 _
    rw [hw7]
    exact IS.setAt H6.out hnf1 _
  rw [← hw7] at hr
  refine ⟨_, cap, rfl, ⟨fun j => if j = i + 1 then .slice aa la ca else if j = i then .slice a6 n6 c6 else vs j, fun j => if j = i + 1 then ca else if j = i then c6 else caps j, ?_⟩, hx⟩
  rw [HRR.out]
  refine ISV.mk' (by simp [Hl.out]) hnc hcm (fun j hj => ?_) (fun j hj => ?_)
  · rw [Nat.zero_add, hr.cell (by omega), Hfv.out j hj]
  · rw [ri_set _ _ _ _ (by simp [Hl.out]; omega), ri_set _ _ _ _ (by simp [Hl.out]; omega)]
    by_cases e : j = i + 1
    · simp only [e, if_true]; exact Ha.out.ext hx
    · by_cases e' : j = i
      · simp only [e', if_neg (show ¬ i = i + 1 by omega), if_true]; exact h66
      · simp only [if_neg e, if_neg e']; exact (Hv.out.2 j (by rw [Hl.out]; exact hj)).ext hx
theorem image_neg (i : Nat) (n : Nat) (v : Value) (c : Nat) (rows : List (List Int)) (w : World) (h : ISS .i64 w v c rows) (hl : rows.length = n) (hi : i + 1 < n) (h8 : n ≤ 8) (hb : ∀ j, j < n → Okr 262144 (ri rows j)) :
    Calls Try.prog 17 #[v, .int .i64 (-((i : Int) + 1))] w (RetSS w ((rows.set i (ri rows (i + 1))).set (i + 1) (red (invL (ri rows (i + 1)) ++ ri rows i ++ ri rows (i + 1))))) := by
  obtain ⟨RR, hRR⟩ : ∃ RR, RR = (rows.set i (ri rows (i + 1))).set (i + 1) (red (invL (ri rows (i + 1)) ++ ri rows i ++ ri rows (i + 1))) := ⟨_, rfl⟩
  rw [← hRR]
  have HRR := Lib.hid hRR; clear hRR
  obtain ⟨vs, caps, h⟩ := h
  have hone := oneVs h
  obtain ⟨h1, h2, ao, rfl, hao⟩ := h.open
  rw [hl] at hao hone h1 h ⊢
  obtain ⟨b, o, rfl, hc⟩ : ∃ b o, ao = some ⟨b, o, none⟩ ∧ ∀ i, i < n → w.cell? ⟨b, o + i, none⟩ = some (vs i) := by
    rcases hao with ⟨_, h0, _⟩ | hh
    · omega
    · exact hh
  have c1 := hc i (by omega)
  have c2 := hc (i + 1) (by omega)
  obtain ⟨aa, la, ca, hva, hla, hca, ha⟩ := (h.2 i (by omega)).out
  obtain ⟨ab, lb, cb, hvb, hlb, hcb, hb'⟩ := (h.2 (i + 1) (by omega)).out
  rw [hva] at c1
  rw [hvb] at c2
  have oa := hb i (by omega)
  have ob := hb (i + 1) (by omega)
  have Hv := Lib.hid h; have Hl := Lib.hid hl; have Hone := Lib.hid hone
  have Ha := Lib.hid ha; have Hb := Lib.hid hb'; have Oa := Lib.hid oa; have Ob := Lib.hid ob
  have Hva := Lib.hid hva; have Hvb := Lib.hid hvb
  have la6 : la ≤ 262144 := by rw [hla]; exact oa.1
  have lb6 : lb ≤ 262144 := by rw [hlb]; exact ob.1
  have Hla := Lib.hid hla; have Hlb := Lib.hid hlb
  clear h ha hb' oa ob hb hva hvb hla hlb hc hao hl hone hca hcb
  have e0 : (0 : Int) < (i : Int) + 1 := by omega
  have e1 : (i : Int) + 1 < n := by omega
  have e2 : (i : Int) < n := by omega
  have e3 : (0 : Int) ≤ (i : Int) := by omega
  have e4 : (0 : Int) ≤ (i : Int) + 1 := by omega
  have e5 : IntKind.i64.wrap (i : Int) = (i : Int) := IntWalk.i64_in _ ⟨by omega, by omega⟩
  have e6 : ((i : Int) + 1).toNat = i + 1 := by omega
  have e7 : IntKind.i64.wrap ((i : Int) + 1) = (i : Int) + 1 := IntWalk.i64_in _ ⟨by omega, by omega⟩
  go_enter Try.func17, Try.ntmps17
  go_wp2_with (at_builtin; refine app_own eiRow rfl _ _ rfl w.heap.size _ 0 [] rfl (World.ownsRow_made w #[] 0 (Nat.le_refl _) (by unfold maxLen; omega) rfl) _ _ _ rfl (Hv.out.1.ext ((Ext.refl w).alloc _)) (by rw [Hl.out]; exact Hone.out) ?c1 ?c2 ?c3 ?_)
  case c1 => simp [Hl.out]; omega
  case c2 => simp [Hl.out]; omega
  case c3 => simp
  intro v1 w1 hown hb1
  have x1 : Ext w w1 := Below.trans ((Ext.refl w).alloc _) hb1
  obtain ⟨g, cap, f, rfl, hBg, hg, hnc, hcm, hrow, hf⟩ := own_open hown (by simp [Hl.out]; omega)
  rw [Hl.out] at hnc ⊢
  have hfv : ∀ j, j < n → f j = vs j := fun j hj => hf j _ (by simp [Hl.out, hj])
  have X1 := Lib.hid x1
  replace c1 := x1.cell c1; replace c2 := x1.cell c2
  have r1 : w1.cell? ⟨g, i, none⟩ = some (f i) := hrow.cell (by omega)
  have r2 : w1.frozen? ⟨g, i, none⟩ = false := hrow.frozen _
  have Hrow0 := Lib.hid hrow; have Hfv := Lib.hid hfv
  clear hown hb1 hf hrow hfv x1
  go_wp2
  go_quiet (fail)
  have r3 : (w1.drewN nq).cell? ⟨g, i, none⟩ = some (f i) := r1
  have r4 : (w1.drewN nq).frozen? ⟨g, i, none⟩ = false := r2
  go_wp2_with fail
  obtain ⟨ws, hws⟩ : ∃ ws, ws = (w1.drewN nq).setCell ⟨g, i, none⟩ (.slice ab lb cb) := ⟨_, rfl⟩
  have hxs : Ext w ws := by rw [hws]; exact (X1.out.drewN _).setCell (p := ⟨g, i, none⟩) hBg _
  have hrs : ws.rowIs g 25 cap (fun j => if j = i then .slice ab lb cb else f j) := by rw [hws]; exact World.rowIs.set (w := w1.drewN nq) Hrow0.out i _
  have hgs : g < ws.heap.size := hrs.lt
  rw [← hws]
  have Xs := Lib.hid hxs; have Hrow := Lib.hid hrs
  clear hws hxs hrs r1 r2 r3 r4 c1 c2 X1 Hrow0
  refine (back_calls _ _ (ri rows (i + 1)) _ (Hb.out.ext Xs.out) (by have := Ob.out.1; omega) Ob.out.2).mono ?_
  rintro e w4 ⟨v4, rfl, hown4, x4⟩
  have X4 := Lib.hid x4; have O4 := Lib.hid hown4
  have L4 := Lib.hid (invL_len (ri rows (i + 1)))
  clear hown4 x4
  go_wp2_with (at_builtin; refine app_own eiInt rfl _ _ rfl ws.heap.size v4 _ _ rfl O4.out _ _ _ rfl (Ha.out.ext (Xs.out.trans X4.out)) (onesI _) ?f1 ?f2 ?f3 ?_)
  case f1 => have := Hla.out; have := Hlb.out; have := L4.out; simp; omega
  case f2 => have := Hla.out; have := Hlb.out; have := L4.out; simp; omega
  case f3 => exact X4.out.size
  intro v3 w3 hown3 hb3
  have X3 := Lib.hid (show Ext ws w3 from Below.trans X4.out hb3); have O3 := Lib.hid hown3
  clear hown3 hb3 O4
  go_wp2_with (at_builtin; refine app_own eiInt rfl _ _ rfl ws.heap.size v3 _ _ rfl O3.out _ _ _ rfl (Hb.out.ext (Xs.out.trans X3.out)) (onesI _) ?g1 ?g2 ?g3 ?_)
  case g1 => have := Hla.out; have := Hlb.out; have := L4.out; simp; omega
  case g2 => have := Hla.out; have := Hlb.out; have := L4.out; simp; omega
  case g3 => exact X3.out.size
  intro v5 w5 hown5 hb5
  have X5 := Lib.hid (show Ext ws w5 from Below.trans X3.out hb5)
  have hown5' : w5.ownsRow ws.heap.size 3 1 v5 (invL (ri rows (i + 1)) ++ ri rows i ++ ri rows (i + 1)).length ((invL (ri rows (i + 1)) ++ ri rows i ++ ri rows (i + 1)).map (Value.int .i64)) := by
    simpa [List.append_assoc, Nat.add_assoc] using hown5
  obtain ⟨c5, h5⟩ := IS.of_own hown5'
  have H5 := Lib.hid h5
  clear hown5 hown5' hb5 h5 O3
  have hok := okr_app (okr_app (okr_inv Ob.out) Oa.out) Ob.out
  have Hok := Lib.hid hok
  clear hok
  go_wp2_with fail
  refine (reduced_calls _ _ _ _ H5.out (by have := Hok.out.1; omega) Hok.out.2).mono ?_
  intro e w6 hh
  obtain ⟨a6, n6, c6, rfl, hn6, h6, x6⟩ := hh.open
  have X6 := Lib.hid (X5.out.trans x6); have H6 := Lib.hid h6
  have s2 : w6.cell? ⟨g, i + 1, none⟩ = some (.slice ab lb cb) := by
    rw [(X6.out.row Hrow.out).cell (by omega), if_neg (by omega), Hfv.out (i + 1) (by omega), Hvb.out]
  have s4 : w6.frozen? ⟨g, i + 1, none⟩ = false := (X6.out.row Hrow.out).frozen _
  clear hh h6 x6 hn6 X3 X4 X5
  go_wp2
  go_ret
  have hx : Ext w (w6.setCell ⟨g, i + 1, none⟩ (.slice a6 n6 c6)) := (Xs.out.trans X6.out).setCell (p := ⟨g, i + 1, none⟩) hBg _
  have hr := (X6.out.row Hrow.out).set (i + 1) (.slice a6 n6 c6)
  have h66 := IS.setAt H6.out s2 (.slice a6 n6 c6)
  refine ⟨_, cap, rfl, ⟨fun j => if j = i + 1 then .slice a6 n6 c6 else if j = i then .slice ab lb cb else vs j, fun j => if j = i + 1 then c6 else if j = i then cb else caps j, ?_⟩, hx⟩
  rw [HRR.out]
  refine ISV.mk' (by simp [Hl.out]) hnc hcm (fun j hj => ?_) (fun j hj => ?_)
  · rw [Nat.zero_add, hr.cell (by omega), Hfv.out j hj]
  · rw [ri_set _ _ _ _ (by simp [Hl.out]; omega), ri_set _ _ _ _ (by simp [Hl.out]; omega)]
    by_cases e : j = i + 1
    · simp only [e, if_true]; exact h66
    · by_cases e' : j = i
      · simp only [e', if_neg (show ¬ i = i + 1 by omega), if_true]; exact Hb.out.ext hx
      · simp only [if_neg e, if_neg e']; exact (Hv.out.2 j (by rw [Hl.out]; exact hj)).ext hx

theorem image_calls (k : Int) (n : Nat) (v : Value) (c : Nat) (rows : List (List Int)) (w : World) (h : ISS .i64 w v c rows) (hl : rows.length = n) (hk : wbad n k = false) (h1 : 1 ≤ n) (h8 : n ≤ 8) (hb : ∀ j, j < n → Okr 262144 (ri rows j)) :
    Calls Try.prog 17 #[v, .int .i64 k] w (RetSS w (imgRows rows k)) := by
  rcases letter_place hk (by omega) with ⟨_, q, rfl, hqn⟩ | ⟨_, q, rfl, hqn⟩
  · rw [imgRows_pos]; exact image_pos q n v c rows w h hl (by omega) h8 hb
  · rw [imgRows_neg]; exact image_neg q n v c rows w h hl (by omega) h8 hb
end Go.Proofs.Ytbappfeojdehgaa
