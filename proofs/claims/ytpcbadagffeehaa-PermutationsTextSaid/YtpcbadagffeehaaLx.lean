/- The law PermutationsText, walked. -/
import Derived.Test.YtpcbadagffeehaaSg
namespace Go.Proofs.Ytpcbadagffeehaa
set_option linter.unusedVariables false
set_option linter.unusedSimpArgs false
open Go Go.RowKit

/-! ### plain facts on texts -/
theorem sb_toArray (l : List UInt8) (i : Nat) : sb ⟨l.toArray⟩ i = ((l.getD i 0).toNat : Int) := rfl
theorem textTo_even (xs : List Int) : ∀ {k i : Nat}, i < k → (textTo xs k).getD (2 * i) 0 = UInt8.ofNat (48 + (gi xs i).toNat)
  | 0, i, h => absurd h (Nat.not_lt_zero _)
  | k + 1, i, h => by
    rw [textTo]
    have hl := textTo_len xs k
    by_cases e : i = k
    · subst e
      have : (textTo xs i ++ if i = 0 then [] else [32]).length = 2 * i := by
        rw [List.length_append, hl]
        by_cases h0 : i = 0
        · subst h0; rfl
        · rw [if_neg h0]; simp; omega
      rw [List.getD_eq_getElem?_getD, List.getElem?_append_right (by omega), this, Nat.sub_self]; rfl
    · have hi : i < k := by omega
      have := textTo_even xs (k := k) hi
      rw [List.getD_eq_getElem?_getD] at this ⊢
      rw [List.append_assoc, List.getElem?_append_left (by omega)]
      exact this
theorem textTo_odd (xs : List Int) : ∀ {k i : Nat}, 1 ≤ i → i < k → (textTo xs k).getD (2 * i - 1) 0 = 32
  | 0, i, _, h => absurd h (Nat.not_lt_zero _)
  | k + 1, i, h1, h => by
    rw [textTo]
    have hl := textTo_len xs k
    by_cases e : i = k
    · subst e
      rw [List.getD_eq_getElem?_getD, List.append_assoc, List.getElem?_append_right (by omega), hl, Nat.sub_self, if_neg (by omega)]; rfl
    · have hi : i < k := by omega
      have := textTo_odd xs (k := k) h1 hi
      rw [List.getD_eq_getElem?_getD] at this ⊢
      rw [List.append_assoc, List.getElem?_append_left (by omega)]
      exact this
theorem u8wrap_sub {x : Int} (h0 : 0 ≤ x) (h1 : x ≤ 200) : IntKind.u8.wrap (((UInt8.ofNat (48 + x.toNat)).toNat : Int) - 48) = x := by
  have : ((UInt8.ofNat (48 + x.toNat)).toNat : Int) = 48 + x := by rw [UInt8.toNat_ofNat']; omega
  rw [this]; simp [IntKind.wrap, IntKind.bits, IntKind.signed]; omega
/-- The text of a permutation, read. -/
theorem digL_text {p : List Int} {n : Nat} (h : PM n p) : digL ⟨(textTo p n).toArray⟩ = p := by
  have hl := textTo_len p n
  have hs : (⟨(textTo p n).toArray⟩ : ByteArray).size = 2 * n - 1 := by show (textTo p n).toArray.size = _; simp [hl]
  have h1 := h.pos
  have hd : (digL ⟨(textTo p n).toArray⟩).length = n := by rw [digL_len, hs]; omega
  refine gi_ext (by rw [hd, h.len]) fun i hi => ?_
  rw [hd] at hi
  have hb := pok_bd h.ok (i := i + 1) (by omega) (by rw [h.len]; omega)
  rw [Nat.add_sub_cancel, h.len] at hb
  have := h.le
  rw [digL_gi _ (by rw [hs]; omega), sb_toArray, textTo_even p hi, u8wrap_sub (by omega) (by omega)]
theorem parseE_text {p : List Int} {n : Nat} (h : PM n p) : parseE ⟨(textTo p n).toArray⟩ = 0 := by
  have hl := textTo_len p n
  have hs : (⟨(textTo p n).toArray⟩ : ByteArray).size = 2 * n - 1 := by show (textTo p n).toArray.size = _; simp [hl]
  have h1 := h.pos
  have h8 := h.le
  unfold parseE
  rw [if_neg (by rw [hs]; omega), digL_text h, if_pos]
  unfold textOf
  rw [if_pos h.chk, h.len]

/-- What Parse accepts. -/
def goodS (s : ByteArray) : Prop := s.size % 2 = 1 ∧ pcheck (digL s) = 0 ∧ ∀ i, i % 2 = 1 → i < s.size → sb s i = 32
theorem sb_bd (s : ByteArray) (i : Nat) : 0 ≤ sb s i ∧ sb s i ≤ 255 := by
  unfold sb
  have := (s.data.toList.getD i 0).toNat_lt
  omega
theorem parseE_good (s : ByteArray) : parseE s = 0 ↔ goodS s := by
  have hL := digL_len s
  constructor
  · intro h
    unfold parseE at h
    by_cases hb : s.size % 2 = 0 ∨ 16 < s.size
    · rw [if_pos hb] at h; cases h
    · rw [if_neg hb] at h
      by_cases ht : textOf (digL s) = s.data.toList
      · have h1 : s.size % 2 = 1 := by omega
        have hpc : pcheck (digL s) = 0 := by
          by_cases e : pcheck (digL s) = 0
          · exact e
          · exfalso
            unfold textOf at ht
            rw [if_neg e] at ht
            have := congrArg List.length ht
            rw [Array.length_toList] at this
            have h2 : s.data.size = s.size := rfl
            simp at this
            omega
        refine ⟨h1, hpc, fun i i1 i2 => ?_⟩
        unfold textOf at ht
        rw [if_pos hpc, hL] at ht
        unfold sb
        rw [← ht]
        have := textTo_odd (digL s) (k := (s.size + 1) / 2) (i := (i + 1) / 2) (by omega) (by omega)
        rw [show 2 * ((i + 1) / 2) - 1 = i by omega] at this
        rw [this]; rfl
      · rw [if_neg ht] at h; cases h
  · rintro ⟨h1, h2, h3⟩
    obtain ⟨a1, a2, a3⟩ := pcheck_zero h2
    rw [hL] at a1 a2
    unfold parseE
    rw [if_neg (by omega), if_pos]
    unfold textOf
    rw [if_pos h2, hL]
    have hlen : (textTo (digL s) ((s.size + 1) / 2)).length = s.data.toList.length := by
      rw [textTo_len, Array.length_toList]
      have : s.data.size = s.size := rfl
      omega
    apply List.ext_getElem hlen
    intro i i1 i2
    have hsz : s.data.toList.length = s.size := by rw [Array.length_toList]; rfl
    have e1 : (textTo (digL s) ((s.size + 1) / 2))[i] = (textTo (digL s) ((s.size + 1) / 2)).getD i 0 := by rw [List.getD_eq_getElem?_getD, List.getElem?_eq_getElem i1]; rfl
    have e2 : s.data.toList[i] = s.data.toList.getD i 0 := by rw [List.getD_eq_getElem?_getD, List.getElem?_eq_getElem i2]; rfl
    rw [e1, e2]
    by_cases hp : i % 2 = 1
    · have := textTo_odd (digL s) (k := (s.size + 1) / 2) (i := (i + 1) / 2) (by omega) (by omega)
      rw [show 2 * ((i + 1) / 2) - 1 = i by omega] at this
      rw [this]
      have h := h3 i hp (by omega)
      unfold sb at h
      apply UInt8.toNat_inj.1
      have h' : (s.data.toList.getD i 0).toNat = 32 := by omega
      rw [h']; rfl
    · have := textTo_even (digL s) (k := (s.size + 1) / 2) (i := i / 2) (by omega)
      rw [show 2 * (i / 2) = i by omega] at this
      rw [this]
      have hg := digL_gi s (i := i / 2) (by omega)
      have hb := pok_bd a3 (i := i / 2 + 1) (by omega) (by rw [hL]; omega)
      rw [Nat.add_sub_cancel, hL] at hb
      rw [show 2 * (i / 2) = i by omega] at hg
      have hsb := sb_bd s i
      have hw : gi (digL s) (i / 2) = sb s i - 48 ∨ gi (digL s) (i / 2) = sb s i - 48 + 256 := by
        rw [hg]; simp [IntKind.wrap, IntKind.bits, IntKind.signed]; omega
      have hv : sb s i = 48 + gi (digL s) (i / 2) := by omega
      unfold sb at hv
      apply UInt8.toNat_inj.1
      rw [UInt8.toNat_ofNat']
      omega

/-! ### the walk -/
theorem size_mk (l : List UInt8) : (⟨l.toArray⟩ : ByteArray).size = l.length := by show l.toArray.size = _; simp

theorem ok_parse {n : Nat} {p : List Int} {W : World} (h : PM n p) : Calls Try.prog 33 #[.string ⟨(textTo p n).toArray⟩] W (RetIE .u8 W n p 0) := by
  have := PParse_calls ⟨(textTo p n).toArray⟩ W (by rw [size_mk, textTo_len]; have := h.le; omega)
  rw [parseE_text h, if_pos rfl, if_pos rfl, digL_text h, h.len] at this
  exact this

/-- The numbers ahead of place i, step 2. -/
def digTo (s : ByteArray) (k : Nat) : List Int := (List.range k).map fun i => IntKind.u8.wrap (sb s (2 * i) - 48)
theorem digTo_succ (s : ByteArray) (k : Nat) : digTo s (k + 1) = digTo s k ++ [IntKind.u8.wrap (sb s (2 * k) - 48)] := by simp [digTo, List.range_succ]
theorem digTo_all (s : ByteArray) : digTo s ((s.size + 1) / 2) = digL s := rfl

set_option maxRecDepth 100000 in
set_option maxHeartbeats 2000000 in
theorem PermutationsText_walk (v1 : Value) (c1 : Nat) (xs : List Int) (s : ByteArray) (w : World) (h : IS .u8 w v1 c1 xs) (hb : U8L xs) (hs : s.size ≤ 9223372036854775807) :
    Calls Try.prog 8 #[v1, .string s] w fun e w' => e = .returned (.bool true) ∧ Below w.heap.size w w' := by
  have hof := Of_calls v1 c1 xs w h hb
  have hp := PM.ofM hb
  obtain ⟨N, hN⟩ : ∃ N, N = mN xs := ⟨_, rfl⟩
  rw [← hN] at hp
  obtain ⟨p, hpp⟩ : ∃ p, p = mof xs := ⟨_, rfl⟩
  rw [← hpp] at hof hp
  obtain ⟨_, _, ao, rfl, _⟩ := h.open
  obtain ⟨l1, hl1⟩ : ∃ l, l = xs.length := ⟨_, rfl⟩
  rw [← hl1] at hof ⊢
  have n1 := hp.pos
  have n8 := hp.le
  by_cases h40 : 40 < s.size
  · have g40 : (40 : Int) < (s.size : Int) := by omega
    have HC := Lib.hid (lives_calls w)
    clear hof hp hN hpp h hb hl1 hs h40
    go_enter Try.func8, Try.ntmps8
    go_wp2_with fail
    refine HC.out.mono ?_
    rintro e w1 ⟨rfl, x⟩
    have HX := Lib.hid x; clear x
    go_wp2
    go_ret
    exact ⟨rfl, HX.out⟩
  · have g40 : ¬ (40 : Int) < (s.size : Int) := by omega
    have hlen : ∀ k, (textTo p k).length = 2 * k - 1 := textTo_len p
    have hpt : ∀ W v c, IS .u8 W v c p → Calls Try.prog 32 #[v] W fun e w' => e = .returned (.string ⟨(textTo p N).toArray⟩) ∧ Ext W w' := fun W v c hh => by
      have := PText_ok v c p W hh hp.u8 hp.chk
      rw [hp.len] at this; exact this
    have hpa := fun W => ok_parse (W := W) hp
    have hps := fun W => PParse_calls s W hs
    have hev := fun i (hi : i < N) => (textTo_even p hi)
    have hod := fun i (h1 : 1 ≤ i) (hi : i < N) => (textTo_odd p h1 hi)
    obtain ⟨t, ht⟩ : ∃ t : ByteArray, t = ⟨(textTo p N).toArray⟩ := ⟨_, rfl⟩
    have htz : t.size = 2 * N - 1 := by rw [ht, size_mk, hlen]
    have hte : ∀ i, i < N → (sb t (2 * i) = 48 + gi p i) := fun i hi => by
      rw [ht, sb_toArray, hev i hi]
      have hb := pok_bd hp.ok (i := i + 1) (by omega) (by rw [hp.len]; omega)
      rw [Nat.add_sub_cancel, hp.len] at hb
      rw [UInt8.toNat_ofNat']; omega
    have hto : ∀ i, 1 ≤ i → i < N → sb t (2 * i - 1) = 32 := fun i h1 hi => by
      rw [ht, sb_toArray, hod i h1 hi]; rfl
    rw [← ht] at hpt hpa
    have htg := sb_get t
    have hsg := sb_get s
    have hgood := parseE_good s
    have hOF := Lib.hid hof; have HP := Lib.hid hp; have HPT := Lib.hid hpt; have HPA := Lib.hid hpa; have HPS := Lib.hid hps; have HTE := Lib.hid hte; have HTO := Lib.hid hto; have HTG := Lib.hid htg; have HSG := Lib.hid hsg; have HGD := Lib.hid hgood; have HTZ := Lib.hid htz
    have hz1 : (t.size : Int) = 2 * (N : Int) - 1 := by omega
    have hz2 : ((t.size : Int) != 2 * (N : Int) - 1) = false := by simp; omega
    have HZ1 := Lib.hid hz1
    clear hof hp hN hpp h hb hl1 hs h40 hlen hpt hpa hps hev hod ht htz hte hto htg hsg hgood hz1
    go_enter Try.func8, Try.ntmps8
    go_wp2_with fail
    refine hOF.out.mono ?_
    rintro e w1 hret
    obtain ⟨a5, c5, rfl, r, x⟩ := hret.lit HP.out.len
    have I5 := Lib.hid r; have HX := Lib.hid x; clear r x
    have HC := Lib.hid (HPT.out w1 _ _ I5.out)
    go_wp2_with fail
    refine HC.out.mono ?_
    clear HC
    rintro e w2 ⟨rfl, x⟩
    replace I5 := Lib.hid (I5.out.ext x); replace HX := Lib.hid (HX.out.trans x); clear x
    obtain ⟨b5, o5, rfl, k5⟩ := I5.out.at (i := 0) n1
    have K5 := Lib.hid k5
    clear k5
    go_wp2
    go_loopw [7] (fun i wr => ∃ k : Nat, k ≤ N ∧ i = .int .i64 k ∧ Hid (Ext w2 wr)) (fun i _ => N - (intOf i).toNat)
    case atStart => exact ⟨0, Nat.zero_le _, rfl, Lib.hid (Ext.refl _)⟩
    case round =>
      obtain ⟨k, hk, rfl, H⟩ := hrel
      by_cases hlt : k < N
      · have q := H.out.cell (K5.out k hlt)
        have hbp := pok_bd HP.out.ok (i := k + 1) (by omega) (by rw [HP.out.len]; omega)
        rw [Nat.add_sub_cancel, HP.out.len] at hbp
        have htk := HTE.out k hlt
        have hl2 : 2 * k < t.size := by have := HTZ.out; omega
        rw [HTG.out (2 * k) hl2] at htk
        obtain ⟨x, hx⟩ : ∃ x, x = gi p k := ⟨_, rfl⟩
        rw [← hx] at q hbp htk
        obtain ⟨hb1, hb2⟩ := hbp
        have g1 : (0 : Int) ≤ (k : Int) := by omega
        have g2 : (k : Int) < (N : Int) := by omega
        have g3 : IntKind.i64.wrap (2 * (k : Int)) = 2 * (k : Int) := IntWalk.i64_in _ ⟨by omega, by omega⟩
        have g4 : (2 * (k : Int)).toNat = 2 * k := by omega
        have g5 : 2 * (k : Int) < (t.size : Int) := by omega
        have g6 : (0 : Int) ≤ 2 * (k : Int) := by omega
        have g7 : IntKind.u8.wrap (48 + x) = 48 + x := by simp [IntKind.wrap, IntKind.bits, IntKind.signed]; omega
        have hm : Try.prog.follows .mixedOrders = true := by kernel_rfl
        clear hx
        by_cases hk0 : k = 0
        · have g8 : ¬ (0 : Int) < (k : Int) := by omega
          have g9 : decide ((0 : Int) < (k : Int)) = false := decide_eq_false g8
          have g9' : decide (0 < k) = false := decide_eq_false (by omega)
          clear hk0
          go_wp2
          go_quiet (fail)
          go_wp2
          go_roundw
          case rel => exact ⟨k + 1, by omega, by go_num, Lib.hid (H.out.drewN _)⟩
          case measure => simp [intOf]; omega
        · have g8 : (0 : Int) < (k : Int) := by omega
          have g9 : decide ((0 : Int) < (k : Int)) = true := decide_eq_true g8
          have g9' : decide (0 < k) = true := decide_eq_true (by omega)
          have htk2 := HTO.out k (by omega) hlt
          have hl3 : 2 * k - 1 < t.size := by have := HTZ.out; omega
          rw [HTG.out (2 * k - 1) hl3] at htk2
          have g10 : IntKind.i64.wrap (2 * (k : Int) - 1) = 2 * (k : Int) - 1 := IntWalk.i64_in _ ⟨by omega, by omega⟩
          have g11 : (2 * (k : Int) - 1).toNat = 2 * k - 1 := by omega
          have g12 : 2 * (k : Int) - 1 < (t.size : Int) := by omega
          have g13 : (0 : Int) ≤ 2 * (k : Int) - 1 := by omega
          clear hk0
          go_wp2
          go_quiet (fail)
          go_wp2
          go_roundw
          case rel => exact ⟨k + 1, by omega, by go_num, Lib.hid (H.out.drewN _)⟩
          case measure => simp [intOf]; omega
      · obtain rfl : k = N := by omega
        obtain ⟨w3, rfl⟩ : ∃ w3 : World, w3 = wr := ⟨_, rfl⟩
        replace I5 := Lib.hid (I5.out.ext H.out); replace HX := Lib.hid (HX.out.trans H.out)
        clear H hlt hk
        obtain ⟨N, rfl⟩ : ∃ N : Nat, N = k := ⟨_, rfl⟩
        have HC := Lib.hid (HPA.out w3)
        go_wp2_with fail
        refine HC.out.mono ?_
        clear HC
        rintro e w4 hret
        obtain ⟨a8, rfl, r, x⟩ := hret.lit HP.out.len
        replace I5 := Lib.hid (I5.out.ext x); have I8 := Lib.hid r; replace HX := Lib.hid (HX.out.trans x); clear r x
        have hps := HPS.out w4
        have hdl := digL_len s
        have hsb := HSG.out
        have hgd := HGD.out
        obtain ⟨D, hD⟩ : ∃ D, D = digL s := ⟨_, rfl⟩
        have hDu : U8L D := by rw [hD]; exact digL_u8 s
        have hDt : ∀ k, k = (s.size + 1) / 2 → digTo s k = D := fun k hk => by rw [hk, digTo_all, hD]
        have hgood : goodS s ↔ (s.size % 2 = 1 ∧ pcheck D = 0 ∧ ∀ i, i % 2 = 1 → i < s.size → sb s i = 32) := by rw [hD]; rfl
        rw [← hD] at hps hdl
        obtain ⟨E, hE⟩ : ∃ E, E = parseE s := ⟨_, rfl⟩
        have hE4 : E = 0 ∨ E = 4 := by
          rw [hE]; unfold parseE
          split
          · exact .inr rfl
          · split
            · exact .inl rfl
            · exact .inr rfl
        rw [← hE] at hps hgd
        rw [hgood] at hgd
        obtain ⟨R, hR⟩ : ∃ R, R = (if E = 0 then D else []) := ⟨_, rfl⟩
        obtain ⟨m, hm⟩ : ∃ m, m = (if E = 0 then D.length else 0) := ⟨_, rfl⟩
        rw [← hR, ← hm] at hps
        have hRm : R.length = m := by rw [hR, hm]; split <;> rfl
        have HC := Lib.hid hps; have HDL := Lib.hid hdl; have HGD2 := Lib.hid hgd; have HR := Lib.hid hR; have HM := Lib.hid hm; have HDU := Lib.hid hDu; have HDT := Lib.hid hDt; have HRM := Lib.hid hRm; have HE4 := Lib.hid hE4
        clear hps hdl hgd hR hm hD hDu hDt hgood hE hRm hsb hE4 HPA HPS HPT HGD
        go_wp2_with fail
        refine HC.out.mono ?_
        clear HC
        rintro e w5 hret
        obtain ⟨a10, rfl, r, x⟩ := hret.lit HRM.out
        replace I5 := Lib.hid (I5.out.ext x); replace I8 := Lib.hid (I8.out.ext x); have I10 := Lib.hid r; replace HX := Lib.hid (HX.out.trans x); clear r x
        have HC := Lib.hid (ok_same HP.out HP.out I8.out I5.out rfl rfl)
        go_wp2_with fail
        refine HC.out.mono ?_
        clear HC
        rintro e w' ⟨rfl, rfl⟩
        rcases HE4.out with hE0 | hE0
        · subst hE0
          have hmm : m = D.length := by rw [HM.out, if_pos rfl]
          have hRR : R = D := by rw [HR.out, if_pos rfl]
          have HMM := Lib.hid hmm; have HRR := Lib.hid hRR
          clear hmm hRR
          have hK : ∀ k, 2 * k < s.size → k < (s.size + 1) / 2 := fun k h => by omega
          go_wp2
          go_loopw [12, 13] (fun v i wr => ∃ k : Nat, k ≤ (s.size + 1) / 2 ∧ i = .int .i64 (2 * (k : Int)) ∧ Hid (wr.ownsRow w5.heap.size 5 1 v k ((digTo s k).map (Value.int .u8)) ∧ Ext w5 wr)) (fun _ i _ => s.size + 2 - (intOf i).toNat)
          case atStart => exact ⟨0, Nat.zero_le _, by go_num, Lib.hid ⟨World.ownsRow_nil _ _ _ _, Ext.refl _⟩⟩
          case round =>
            obtain ⟨k, hk, rfl, H⟩ := hrel
            by_cases hlt : 2 * k < s.size
            · have g1 : 2 * (k : Int) < (s.size : Int) := by omega
              have g2 : (2 * (k : Int)).toNat = 2 * k := by omega
              have hsz := H.out.2.size
              have hv := HSG.out (2 * k) hlt
              have HV := Lib.hid hv
              have hk4 : k ≤ 40 := by omega
              clear hv
              go_wp2_with (at_builtin; refine app_own eiU8 rfl _ _ rfl w5.heap.size _ k _ rfl (H.out.1.alloc _) _ _ _ rfl (VS.one _ _ _) (one1 _) ?d1 ?d2 ?d3 ?_)
              any_goals (first | omega | (simp; done) | (simp only [List.length_cons, List.length_nil]; omega) | (simp; omega))
              intro v' w' hown hbel
              have HO := Lib.hid (And.intro hown hbel)
              clear hown hbel
              go_wp2
              go_roundw
              case rel =>
                refine ⟨k + 1, by omega, by go_num, Lib.hid ⟨?_, Below.trans (H.out.2.alloc _) HO.out.2⟩⟩
                rw [digTo_succ, List.map_append, HV.out]
                exact HO.out.1
              case measure => simp [intOf]; omega
            · have g1 : ¬ 2 * (k : Int) < (s.size : Int) := by omega
              obtain ⟨w6, rfl⟩ : ∃ w6 : World, w6 = wr := ⟨_, rfl⟩
              have hdg : ∃ cd, IS .u8 w6 u12 cd D := by
                have := H.out.1
                rw [HDT.out k (by omega)] at this
                have e : k = D.length := by rw [HDL.out]; omega
                rw [e] at this
                exact IS.of_own this
              obtain ⟨cd, hdg⟩ := hdg
              replace I10 := Lib.hid (I10.out.ext H.out.2); replace HX := Lib.hid (HX.out.trans H.out.2)
              have ID := Lib.hid hdg
              clear hdg H hk hlt I5 I8
              obtain ⟨ad, nd, cd', rfl, hnd, hcd, hid2⟩ := ID.out.out
              have ID2 := Lib.hid hid2
              have HND := Lib.hid hnd; have HCD := Lib.hid hcd
              clear ID hid2 hnd hcd
              have hgb : ∃ G0 : Bool, G0 = (decide (s.size % 2 = 1) && decide (pcheck D = 0)) := ⟨_, rfl⟩
              obtain ⟨G0, hG0⟩ := hgb
              have HG0 := Lib.hid hG0
              clear hG0
              have hC := bd_check HDU.out ID2.out rfl
              obtain ⟨pc, hpc⟩ : ∃ pc, pc = pcheck D := ⟨_, rfl⟩
              rw [← hpc] at hC
              have HPC := Lib.hid hpc; have HCH := Lib.hid hC
              clear hpc hC
              by_cases ho : s.size % 2 = 1
              · have ho1 : ((s.size : Int) % 2 == 1) = true := by simp; omega
                have HOD := Lib.hid ho
                clear ho
                go_wp2_with fail
                refine HCH.out.mono ?_
                rintro e w7 ⟨rfl, x⟩
                replace I10 := Lib.hid (I10.out.ext x); replace ID2 := Lib.hid (ID2.out.ext x); replace HX := Lib.hid (HX.out.trans x)
                clear x
                by_cases hp0 : pc = 0
                · have hp1 : (pc == 0) = true := by simp [hp0]
                  have HG : Hid (G0 = true) := Lib.hid (by rw [HG0.out, decide_eq_true HOD.out, ← HPC.out, decide_eq_true hp0]; rfl)
                  clear hp0
                  go_wp2
                  go_loop [14, 15] (fun g i => ∃ k : Nat, 2 * k ≤ s.size ∧ i = .int .i64 (2 * (k : Int) + 1) ∧ ∃ gb : Bool, g = .bool gb ∧ Hid (gb = (G0 && (List.range k).all fun j => decide (sb s (2 * j + 1) = 32)))) (fun _ i => s.size + 2 - (intOf i).toNat)
                  case atStart => exact ⟨0, by omega, by go_num, true, rfl, Lib.hid (by simp [HG.out])⟩
                  case round =>
                    obtain ⟨k, hk, rfl, gb, rfl, HGB⟩ := hrel
                    by_cases hlt : 2 * k + 1 < s.size
                    · have g1 : 2 * (k : Int) + 1 < (s.size : Int) := by omega
                      have g2 : (2 * (k : Int) + 1).toNat = 2 * k + 1 := by omega
                      have hv := HSG.out (2 * k + 1) hlt
                      have hstep : ∀ b : Bool, b = decide (sb s (2 * k + 1) = 32) → (gb && b) = (G0 && (List.range (k + 1)).all fun j => decide (sb s (2 * j + 1) = 32)) := fun b hb => by
                        rw [HGB.out, hb, List.range_succ, List.all_append, Bool.and_assoc]; simp
                      have HST := Lib.hid hstep
                      have HV := Lib.hid hv
                      clear hstep hv
                      cases gb with
                      | false =>
                        go_wp2
                        go_round
                        case rel => exact ⟨k + 1, by omega, by go_num, false, rfl, Lib.hid (by have := HST.out _ rfl; simpa using this)⟩
                        case measure => simp [intOf]; omega
                      | true =>
                        by_cases hc : sb s (2 * k + 1) = 32
                        · have hcc : ((s[2 * k + 1].toNat : Int) == 32) = true := by rw [← HV.out]; simp [hc]
                          have HCC := Lib.hid hc; clear hc
                          go_wp2
                          go_round
                          case rel => exact ⟨k + 1, by omega, by go_num, true, rfl, Lib.hid (by have := HST.out true (decide_eq_true HCC.out).symm; simpa using this)⟩
                          case measure => simp [intOf]; omega
                        · have hcc : ((s[2 * k + 1].toNat : Int) == 32) = false := by rw [← HV.out]; simpa using hc
                          have HCC := Lib.hid hc; clear hc
                          go_wp2
                          go_round
                          case rel => exact ⟨k + 1, by omega, by go_num, false, rfl, Lib.hid (by have := HST.out false (decide_eq_false HCC.out).symm; simpa using this)⟩
                          case measure => simp [intOf]; omega
                    · have g1 : ¬ 2 * (k : Int) + 1 < (s.size : Int) := by omega
                      have hall : gb = true ↔ (s.size % 2 = 1 ∧ pcheck D = 0 ∧ ∀ i, i % 2 = 1 → i < s.size → sb s i = 32) := by
                        rw [HGB.out, HG0.out]
                        simp only [Bool.and_eq_true, decide_eq_true_eq, List.all_eq_true, List.mem_range]
                        constructor
                        · rintro ⟨⟨a, b⟩, c⟩
                          exact ⟨a, b, fun i i1 i2 => by have := c (i / 2) (by omega); rwa [show 2 * (i / 2) + 1 = i by omega] at this⟩
                        · rintro ⟨a, b, c⟩
                          exact ⟨⟨a, b⟩, fun j hj => c _ (by omega) (by omega)⟩
                      rw [← HGD2.out] at hall
                      obtain rfl : gb = true := hall.2 trivial
                      clear hall
                      have hsm := same_calls _ _ m cd' R D w7 I10.out ID2.out (by rw [HRR.out]; exact HDU.out) HDU.out
                      have hsb : sameB R D m = true := by unfold sameB; exact decide_eq_true ⟨HRR.out, HRM.out.symm⟩
                      rw [hsb] at hsm
                      have HC := Lib.hid hsm
                      have HL := Lib.hid (lives_calls w7)
                      clear hsm hsb
                      go_wp2_with fail
                      refine HC.out.mono ?_
                      clear HC
                      rintro e w' ⟨rfl, rfl⟩
                      go_wp2_with fail
                      refine HL.out.mono ?_
                      rintro e wz ⟨rfl, x⟩
                      replace HX := Lib.hid (HX.out.trans x)
                      clear x
                      go_wp2
                      go_ret
                      exact ⟨rfl, HX.out⟩
                · have hp1 : (pc == 0) = false := by simpa using hp0
                  have HG : Hid (G0 = false) := Lib.hid (by rw [HG0.out, ← HPC.out, decide_eq_false hp0, Bool.and_false])
                  clear hp0
                  go_wp2
                  go_loop [14, 15] (fun g i => ∃ k : Nat, 2 * k ≤ s.size ∧ i = .int .i64 (2 * (k : Int) + 1) ∧ ∃ gb : Bool, g = .bool gb ∧ Hid (gb = (G0 && (List.range k).all fun j => decide (sb s (2 * j + 1) = 32)))) (fun _ i => s.size + 2 - (intOf i).toNat)
                  case atStart => exact ⟨0, by omega, by go_num, false, rfl, Lib.hid (by simp [HG.out])⟩
                  case round =>
                    obtain ⟨k, hk, rfl, gb, rfl, HGB⟩ := hrel
                    by_cases hlt : 2 * k + 1 < s.size
                    · have g1 : 2 * (k : Int) + 1 < (s.size : Int) := by omega
                      have g2 : (2 * (k : Int) + 1).toNat = 2 * k + 1 := by omega
                      have hv := HSG.out (2 * k + 1) hlt
                      have hstep : ∀ b : Bool, b = decide (sb s (2 * k + 1) = 32) → (gb && b) = (G0 && (List.range (k + 1)).all fun j => decide (sb s (2 * j + 1) = 32)) := fun b hb => by
                        rw [HGB.out, hb, List.range_succ, List.all_append, Bool.and_assoc]; simp
                      have HST := Lib.hid hstep
                      have HV := Lib.hid hv
                      clear hstep hv
                      cases gb with
                      | false =>
                        go_wp2
                        go_round
                        case rel => exact ⟨k + 1, by omega, by go_num, false, rfl, Lib.hid (by have := HST.out _ rfl; simpa using this)⟩
                        case measure => simp [intOf]; omega
                      | true =>
                        by_cases hc : sb s (2 * k + 1) = 32
                        · have hcc : ((s[2 * k + 1].toNat : Int) == 32) = true := by rw [← HV.out]; simp [hc]
                          have HCC := Lib.hid hc; clear hc
                          go_wp2
                          go_round
                          case rel => exact ⟨k + 1, by omega, by go_num, true, rfl, Lib.hid (by have := HST.out true (decide_eq_true HCC.out).symm; simpa using this)⟩
                          case measure => simp [intOf]; omega
                        · have hcc : ((s[2 * k + 1].toNat : Int) == 32) = false := by rw [← HV.out]; simpa using hc
                          have HCC := Lib.hid hc; clear hc
                          go_wp2
                          go_round
                          case rel => exact ⟨k + 1, by omega, by go_num, false, rfl, Lib.hid (by have := HST.out false (decide_eq_false HCC.out).symm; simpa using this)⟩
                          case measure => simp [intOf]; omega
                    · have g1 : ¬ 2 * (k : Int) + 1 < (s.size : Int) := by omega
                      have hall : gb = true ↔ (s.size % 2 = 1 ∧ pcheck D = 0 ∧ ∀ i, i % 2 = 1 → i < s.size → sb s i = 32) := by
                        rw [HGB.out, HG0.out]
                        simp only [Bool.and_eq_true, decide_eq_true_eq, List.all_eq_true, List.mem_range]
                        constructor
                        · rintro ⟨⟨a, b⟩, c⟩
                          exact ⟨a, b, fun i i1 i2 => by have := c (i / 2) (by omega); rwa [show 2 * (i / 2) + 1 = i by omega] at this⟩
                        · rintro ⟨a, b, c⟩
                          exact ⟨⟨a, b⟩, fun j hj => c _ (by omega) (by omega)⟩
                      rw [← HGD2.out] at hall
                      obtain rfl : gb = true := hall.2 trivial
                      clear hall
                      have hsm := same_calls _ _ m cd' R D w7 I10.out ID2.out (by rw [HRR.out]; exact HDU.out) HDU.out
                      have hsb : sameB R D m = true := by unfold sameB; exact decide_eq_true ⟨HRR.out, HRM.out.symm⟩
                      rw [hsb] at hsm
                      have HC := Lib.hid hsm
                      have HL := Lib.hid (lives_calls w7)
                      clear hsm hsb
                      go_wp2_with fail
                      refine HC.out.mono ?_
                      clear HC
                      rintro e w' ⟨rfl, rfl⟩
                      go_wp2_with fail
                      refine HL.out.mono ?_
                      rintro e wz ⟨rfl, x⟩
                      replace HX := Lib.hid (HX.out.trans x)
                      clear x
                      go_wp2
                      go_ret
                      exact ⟨rfl, HX.out⟩
              · have ho1 : ((s.size : Int) % 2 == 1) = false := by simp; omega
                have HG : Hid (G0 = false) := Lib.hid (by rw [HG0.out, decide_eq_false ho, Bool.false_and])
                clear ho
                go_wp2
                go_loop [14, 15] (fun g i => ∃ k : Nat, 2 * k ≤ s.size ∧ i = .int .i64 (2 * (k : Int) + 1) ∧ ∃ gb : Bool, g = .bool gb ∧ Hid (gb = (G0 && (List.range k).all fun j => decide (sb s (2 * j + 1) = 32)))) (fun _ i => s.size + 2 - (intOf i).toNat)
                case atStart => exact ⟨0, by omega, by go_num, false, rfl, Lib.hid (by simp [HG.out])⟩
                case round =>
                  obtain ⟨k, hk, rfl, gb, rfl, HGB⟩ := hrel
                  by_cases hlt : 2 * k + 1 < s.size
                  · have g1 : 2 * (k : Int) + 1 < (s.size : Int) := by omega
                    have g2 : (2 * (k : Int) + 1).toNat = 2 * k + 1 := by omega
                    have hv := HSG.out (2 * k + 1) hlt
                    have hstep : ∀ b : Bool, b = decide (sb s (2 * k + 1) = 32) → (gb && b) = (G0 && (List.range (k + 1)).all fun j => decide (sb s (2 * j + 1) = 32)) := fun b hb => by
                      rw [HGB.out, hb, List.range_succ, List.all_append, Bool.and_assoc]; simp
                    have HST := Lib.hid hstep
                    have HV := Lib.hid hv
                    clear hstep hv
                    cases gb with
                    | false =>
                      go_wp2
                      go_round
                      case rel => exact ⟨k + 1, by omega, by go_num, false, rfl, Lib.hid (by have := HST.out _ rfl; simpa using this)⟩
                      case measure => simp [intOf]; omega
                    | true =>
                      by_cases hc : sb s (2 * k + 1) = 32
                      · have hcc : ((s[2 * k + 1].toNat : Int) == 32) = true := by rw [← HV.out]; simp [hc]
                        have HCC := Lib.hid hc; clear hc
                        go_wp2
                        go_round
                        case rel => exact ⟨k + 1, by omega, by go_num, true, rfl, Lib.hid (by have := HST.out true (decide_eq_true HCC.out).symm; simpa using this)⟩
                        case measure => simp [intOf]; omega
                      · have hcc : ((s[2 * k + 1].toNat : Int) == 32) = false := by rw [← HV.out]; simpa using hc
                        have HCC := Lib.hid hc; clear hc
                        go_wp2
                        go_round
                        case rel => exact ⟨k + 1, by omega, by go_num, false, rfl, Lib.hid (by have := HST.out false (decide_eq_false HCC.out).symm; simpa using this)⟩
                        case measure => simp [intOf]; omega
                  · have g1 : ¬ 2 * (k : Int) + 1 < (s.size : Int) := by omega
                    have hall : gb = true ↔ (s.size % 2 = 1 ∧ pcheck D = 0 ∧ ∀ i, i % 2 = 1 → i < s.size → sb s i = 32) := by
                      rw [HGB.out, HG0.out]
                      simp only [Bool.and_eq_true, decide_eq_true_eq, List.all_eq_true, List.mem_range]
                      constructor
                      · rintro ⟨⟨a, b⟩, c⟩
                        exact ⟨a, b, fun i i1 i2 => by have := c (i / 2) (by omega); rwa [show 2 * (i / 2) + 1 = i by omega] at this⟩
                      · rintro ⟨a, b, c⟩
                        exact ⟨⟨a, b⟩, fun j hj => c _ (by omega) (by omega)⟩
                    rw [← HGD2.out] at hall
                    obtain rfl : gb = true := hall.2 trivial
                    clear hall
                    have hsm := same_calls _ _ m cd' R D w6 I10.out ID2.out (by rw [HRR.out]; exact HDU.out) HDU.out
                    have hsb : sameB R D m = true := by unfold sameB; exact decide_eq_true ⟨HRR.out, HRM.out.symm⟩
                    rw [hsb] at hsm
                    have HC := Lib.hid hsm
                    have HL := Lib.hid (lives_calls w6)
                    clear hsm hsb
                    go_wp2_with fail
                    refine HC.out.mono ?_
                    clear HC
                    rintro e w' ⟨rfl, rfl⟩
                    go_wp2_with fail
                    refine HL.out.mono ?_
                    rintro e wz ⟨rfl, x⟩
                    replace HX := Lib.hid (HX.out.trans x)
                    clear x
                    go_wp2
                    go_ret
                    exact ⟨rfl, HX.out⟩
        · subst hE0
          have hmm : m = 0 := by rw [HM.out, if_neg (by decide)]
          have HRR : Hid True := Lib.hid trivial
          subst hmm
          have hK : ∀ k, 2 * k < s.size → k < (s.size + 1) / 2 := fun k h => by omega
          go_wp2
          go_loopw [12, 13] (fun v i wr => ∃ k : Nat, k ≤ (s.size + 1) / 2 ∧ i = .int .i64 (2 * (k : Int)) ∧ Hid (wr.ownsRow w5.heap.size 5 1 v k ((digTo s k).map (Value.int .u8)) ∧ Ext w5 wr)) (fun _ i _ => s.size + 2 - (intOf i).toNat)
          case atStart => exact ⟨0, Nat.zero_le _, by go_num, Lib.hid ⟨World.ownsRow_nil _ _ _ _, Ext.refl _⟩⟩
          case round =>
            obtain ⟨k, hk, rfl, H⟩ := hrel
            by_cases hlt : 2 * k < s.size
            · have g1 : 2 * (k : Int) < (s.size : Int) := by omega
              have g2 : (2 * (k : Int)).toNat = 2 * k := by omega
              have hsz := H.out.2.size
              have hv := HSG.out (2 * k) hlt
              have HV := Lib.hid hv
              have hk4 : k ≤ 40 := by omega
              clear hv
              go_wp2_with (at_builtin; refine app_own eiU8 rfl _ _ rfl w5.heap.size _ k _ rfl (H.out.1.alloc _) _ _ _ rfl (VS.one _ _ _) (one1 _) ?e1 ?e2 ?e3 ?_)
              any_goals (first | omega | (simp; done) | (simp only [List.length_cons, List.length_nil]; omega) | (simp; omega))
              intro v' w' hown hbel
              have HO := Lib.hid (And.intro hown hbel)
              clear hown hbel
              go_wp2
              go_roundw
              case rel =>
                refine ⟨k + 1, by omega, by go_num, Lib.hid ⟨?_, Below.trans (H.out.2.alloc _) HO.out.2⟩⟩
                rw [digTo_succ, List.map_append, HV.out]
                exact HO.out.1
              case measure => simp [intOf]; omega
            · have g1 : ¬ 2 * (k : Int) < (s.size : Int) := by omega
              obtain ⟨w6, rfl⟩ : ∃ w6 : World, w6 = wr := ⟨_, rfl⟩
              have hdg : ∃ cd, IS .u8 w6 u12 cd D := by
                have := H.out.1
                rw [HDT.out k (by omega)] at this
                have e : k = D.length := by rw [HDL.out]; omega
                rw [e] at this
                exact IS.of_own this
              obtain ⟨cd, hdg⟩ := hdg
              replace I10 := Lib.hid (I10.out.ext H.out.2); replace HX := Lib.hid (HX.out.trans H.out.2)
              have ID := Lib.hid hdg
              clear hdg H hk hlt I5 I8
              obtain ⟨ad, nd, cd', rfl, hnd, hcd, hid2⟩ := ID.out.out
              have ID2 := Lib.hid hid2
              have HND := Lib.hid hnd; have HCD := Lib.hid hcd
              clear ID hid2 hnd hcd
              have hgb : ∃ G0 : Bool, G0 = (decide (s.size % 2 = 1) && decide (pcheck D = 0)) := ⟨_, rfl⟩
              obtain ⟨G0, hG0⟩ := hgb
              have HG0 := Lib.hid hG0
              clear hG0
              have hC := bd_check HDU.out ID2.out rfl
              obtain ⟨pc, hpc⟩ : ∃ pc, pc = pcheck D := ⟨_, rfl⟩
              rw [← hpc] at hC
              have HPC := Lib.hid hpc; have HCH := Lib.hid hC
              clear hpc hC
              by_cases ho : s.size % 2 = 1
              · have ho1 : ((s.size : Int) % 2 == 1) = true := by simp; omega
                have HOD := Lib.hid ho
                clear ho
                go_wp2_with fail
                refine HCH.out.mono ?_
                rintro e w7 ⟨rfl, x⟩
                replace I10 := Lib.hid (I10.out.ext x); replace ID2 := Lib.hid (ID2.out.ext x); replace HX := Lib.hid (HX.out.trans x)
                clear x
                by_cases hp0 : pc = 0
                · have hp1 : (pc == 0) = true := by simp [hp0]
                  have HG : Hid (G0 = true) := Lib.hid (by rw [HG0.out, decide_eq_true HOD.out, ← HPC.out, decide_eq_true hp0]; rfl)
                  clear hp0
                  go_wp2
                  go_loop [14, 15] (fun g i => ∃ k : Nat, 2 * k ≤ s.size ∧ i = .int .i64 (2 * (k : Int) + 1) ∧ ∃ gb : Bool, g = .bool gb ∧ Hid (gb = (G0 && (List.range k).all fun j => decide (sb s (2 * j + 1) = 32)))) (fun _ i => s.size + 2 - (intOf i).toNat)
                  case atStart => exact ⟨0, by omega, by go_num, true, rfl, Lib.hid (by simp [HG.out])⟩
                  case round =>
                    obtain ⟨k, hk, rfl, gb, rfl, HGB⟩ := hrel
                    by_cases hlt : 2 * k + 1 < s.size
                    · have g1 : 2 * (k : Int) + 1 < (s.size : Int) := by omega
                      have g2 : (2 * (k : Int) + 1).toNat = 2 * k + 1 := by omega
                      have hv := HSG.out (2 * k + 1) hlt
                      have hstep : ∀ b : Bool, b = decide (sb s (2 * k + 1) = 32) → (gb && b) = (G0 && (List.range (k + 1)).all fun j => decide (sb s (2 * j + 1) = 32)) := fun b hb => by
                        rw [HGB.out, hb, List.range_succ, List.all_append, Bool.and_assoc]; simp
                      have HST := Lib.hid hstep
                      have HV := Lib.hid hv
                      clear hstep hv
                      cases gb with
                      | false =>
                        go_wp2
                        go_round
                        case rel => exact ⟨k + 1, by omega, by go_num, false, rfl, Lib.hid (by have := HST.out _ rfl; simpa using this)⟩
                        case measure => simp [intOf]; omega
                      | true =>
                        by_cases hc : sb s (2 * k + 1) = 32
                        · have hcc : ((s[2 * k + 1].toNat : Int) == 32) = true := by rw [← HV.out]; simp [hc]
                          have HCC := Lib.hid hc; clear hc
                          go_wp2
                          go_round
                          case rel => exact ⟨k + 1, by omega, by go_num, true, rfl, Lib.hid (by have := HST.out true (decide_eq_true HCC.out).symm; simpa using this)⟩
                          case measure => simp [intOf]; omega
                        · have hcc : ((s[2 * k + 1].toNat : Int) == 32) = false := by rw [← HV.out]; simpa using hc
                          have HCC := Lib.hid hc; clear hc
                          go_wp2
                          go_round
                          case rel => exact ⟨k + 1, by omega, by go_num, false, rfl, Lib.hid (by have := HST.out false (decide_eq_false HCC.out).symm; simpa using this)⟩
                          case measure => simp [intOf]; omega
                    · have g1 : ¬ 2 * (k : Int) + 1 < (s.size : Int) := by omega
                      have hall : gb = true ↔ (s.size % 2 = 1 ∧ pcheck D = 0 ∧ ∀ i, i % 2 = 1 → i < s.size → sb s i = 32) := by
                        rw [HGB.out, HG0.out]
                        simp only [Bool.and_eq_true, decide_eq_true_eq, List.all_eq_true, List.mem_range]
                        constructor
                        · rintro ⟨⟨a, b⟩, c⟩
                          exact ⟨a, b, fun i i1 i2 => by have := c (i / 2) (by omega); rwa [show 2 * (i / 2) + 1 = i by omega] at this⟩
                        · rintro ⟨a, b, c⟩
                          exact ⟨⟨a, b⟩, fun j hj => c _ (by omega) (by omega)⟩
                      rw [← HGD2.out] at hall
                      obtain rfl : gb = false := by
                        cases gb with
                        | false => rfl
                        | true => have := hall.1 rfl; cases this
                      clear hall
                      have HL := Lib.hid (lives_calls w7)
                      go_wp2_with fail
                      refine HL.out.mono ?_
                      rintro e wz ⟨rfl, x⟩
                      replace HX := Lib.hid (HX.out.trans x)
                      clear x
                      go_wp2
                      go_ret
                      exact ⟨rfl, HX.out⟩
                · have hp1 : (pc == 0) = false := by simpa using hp0
                  have HG : Hid (G0 = false) := Lib.hid (by rw [HG0.out, ← HPC.out, decide_eq_false hp0, Bool.and_false])
                  clear hp0
                  go_wp2
                  go_loop [14, 15] (fun g i => ∃ k : Nat, 2 * k ≤ s.size ∧ i = .int .i64 (2 * (k : Int) + 1) ∧ ∃ gb : Bool, g = .bool gb ∧ Hid (gb = (G0 && (List.range k).all fun j => decide (sb s (2 * j + 1) = 32)))) (fun _ i => s.size + 2 - (intOf i).toNat)
                  case atStart => exact ⟨0, by omega, by go_num, false, rfl, Lib.hid (by simp [HG.out])⟩
                  case round =>
                    obtain ⟨k, hk, rfl, gb, rfl, HGB⟩ := hrel
                    by_cases hlt : 2 * k + 1 < s.size
                    · have g1 : 2 * (k : Int) + 1 < (s.size : Int) := by omega
                      have g2 : (2 * (k : Int) + 1).toNat = 2 * k + 1 := by omega
                      have hv := HSG.out (2 * k + 1) hlt
                      have hstep : ∀ b : Bool, b = decide (sb s (2 * k + 1) = 32) → (gb && b) = (G0 && (List.range (k + 1)).all fun j => decide (sb s (2 * j + 1) = 32)) := fun b hb => by
                        rw [HGB.out, hb, List.range_succ, List.all_append, Bool.and_assoc]; simp
                      have HST := Lib.hid hstep
                      have HV := Lib.hid hv
                      clear hstep hv
                      cases gb with
                      | false =>
                        go_wp2
                        go_round
                        case rel => exact ⟨k + 1, by omega, by go_num, false, rfl, Lib.hid (by have := HST.out _ rfl; simpa using this)⟩
                        case measure => simp [intOf]; omega
                      | true =>
                        by_cases hc : sb s (2 * k + 1) = 32
                        · have hcc : ((s[2 * k + 1].toNat : Int) == 32) = true := by rw [← HV.out]; simp [hc]
                          have HCC := Lib.hid hc; clear hc
                          go_wp2
                          go_round
                          case rel => exact ⟨k + 1, by omega, by go_num, true, rfl, Lib.hid (by have := HST.out true (decide_eq_true HCC.out).symm; simpa using this)⟩
                          case measure => simp [intOf]; omega
                        · have hcc : ((s[2 * k + 1].toNat : Int) == 32) = false := by rw [← HV.out]; simpa using hc
                          have HCC := Lib.hid hc; clear hc
                          go_wp2
                          go_round
                          case rel => exact ⟨k + 1, by omega, by go_num, false, rfl, Lib.hid (by have := HST.out false (decide_eq_false HCC.out).symm; simpa using this)⟩
                          case measure => simp [intOf]; omega
                    · have g1 : ¬ 2 * (k : Int) + 1 < (s.size : Int) := by omega
                      have hall : gb = true ↔ (s.size % 2 = 1 ∧ pcheck D = 0 ∧ ∀ i, i % 2 = 1 → i < s.size → sb s i = 32) := by
                        rw [HGB.out, HG0.out]
                        simp only [Bool.and_eq_true, decide_eq_true_eq, List.all_eq_true, List.mem_range]
                        constructor
                        · rintro ⟨⟨a, b⟩, c⟩
                          exact ⟨a, b, fun i i1 i2 => by have := c (i / 2) (by omega); rwa [show 2 * (i / 2) + 1 = i by omega] at this⟩
                        · rintro ⟨a, b, c⟩
                          exact ⟨⟨a, b⟩, fun j hj => c _ (by omega) (by omega)⟩
                      rw [← HGD2.out] at hall
                      obtain rfl : gb = false := by
                        cases gb with
                        | false => rfl
                        | true => have := hall.1 rfl; cases this
                      clear hall
                      have HL := Lib.hid (lives_calls w7)
                      go_wp2_with fail
                      refine HL.out.mono ?_
                      rintro e wz ⟨rfl, x⟩
                      replace HX := Lib.hid (HX.out.trans x)
                      clear x
                      go_wp2
                      go_ret
                      exact ⟨rfl, HX.out⟩
              · have ho1 : ((s.size : Int) % 2 == 1) = false := by simp; omega
                have HG : Hid (G0 = false) := Lib.hid (by rw [HG0.out, decide_eq_false ho, Bool.false_and])
                clear ho
                go_wp2
                go_loop [14, 15] (fun g i => ∃ k : Nat, 2 * k ≤ s.size ∧ i = .int .i64 (2 * (k : Int) + 1) ∧ ∃ gb : Bool, g = .bool gb ∧ Hid (gb = (G0 && (List.range k).all fun j => decide (sb s (2 * j + 1) = 32)))) (fun _ i => s.size + 2 - (intOf i).toNat)
                case atStart => exact ⟨0, by omega, by go_num, false, rfl, Lib.hid (by simp [HG.out])⟩
                case round =>
                  obtain ⟨k, hk, rfl, gb, rfl, HGB⟩ := hrel
                  by_cases hlt : 2 * k + 1 < s.size
                  · have g1 : 2 * (k : Int) + 1 < (s.size : Int) := by omega
                    have g2 : (2 * (k : Int) + 1).toNat = 2 * k + 1 := by omega
                    have hv := HSG.out (2 * k + 1) hlt
                    have hstep : ∀ b : Bool, b = decide (sb s (2 * k + 1) = 32) → (gb && b) = (G0 && (List.range (k + 1)).all fun j => decide (sb s (2 * j + 1) = 32)) := fun b hb => by
                      rw [HGB.out, hb, List.range_succ, List.all_append, Bool.and_assoc]; simp
                    have HST := Lib.hid hstep
                    have HV := Lib.hid hv
                    clear hstep hv
                    cases gb with
                    | false =>
                      go_wp2
                      go_round
                      case rel => exact ⟨k + 1, by omega, by go_num, false, rfl, Lib.hid (by have := HST.out _ rfl; simpa using this)⟩
                      case measure => simp [intOf]; omega
                    | true =>
                      by_cases hc : sb s (2 * k + 1) = 32
                      · have hcc : ((s[2 * k + 1].toNat : Int) == 32) = true := by rw [← HV.out]; simp [hc]
                        have HCC := Lib.hid hc; clear hc
                        go_wp2
                        go_round
                        case rel => exact ⟨k + 1, by omega, by go_num, true, rfl, Lib.hid (by have := HST.out true (decide_eq_true HCC.out).symm; simpa using this)⟩
                        case measure => simp [intOf]; omega
                      · have hcc : ((s[2 * k + 1].toNat : Int) == 32) = false := by rw [← HV.out]; simpa using hc
                        have HCC := Lib.hid hc; clear hc
                        go_wp2
                        go_round
                        case rel => exact ⟨k + 1, by omega, by go_num, false, rfl, Lib.hid (by have := HST.out false (decide_eq_false HCC.out).symm; simpa using this)⟩
                        case measure => simp [intOf]; omega
                  · have g1 : ¬ 2 * (k : Int) + 1 < (s.size : Int) := by omega
                    have hall : gb = true ↔ (s.size % 2 = 1 ∧ pcheck D = 0 ∧ ∀ i, i % 2 = 1 → i < s.size → sb s i = 32) := by
                      rw [HGB.out, HG0.out]
                      simp only [Bool.and_eq_true, decide_eq_true_eq, List.all_eq_true, List.mem_range]
                      constructor
                      · rintro ⟨⟨a, b⟩, c⟩
                        exact ⟨a, b, fun i i1 i2 => by have := c (i / 2) (by omega); rwa [show 2 * (i / 2) + 1 = i by omega] at this⟩
                      · rintro ⟨a, b, c⟩
                        exact ⟨⟨a, b⟩, fun j hj => c _ (by omega) (by omega)⟩
                    rw [← HGD2.out] at hall
                    obtain rfl : gb = false := by
                      cases gb with
                      | false => rfl
                      | true => have := hall.1 rfl; cases this
                    clear hall
                    have HL := Lib.hid (lives_calls w6)
                    go_wp2_with fail
                    refine HL.out.mono ?_
                    rintro e wz ⟨rfl, x⟩
                    replace HX := Lib.hid (HX.out.trans x)
                    clear x
                    go_wp2
                    go_ret
                    exact ⟨rfl, HX.out⟩
end Go.Proofs.Ytpcbadagffeehaa
