/- Contracts of chapter 1: Parse. -/
import Derived.Test.YthjihkclccpnhaaDoorNd
import Derived.Outline
namespace Go.Proofs.YthjihkclccpnhaaDoor
set_option linter.unusedVariables false
set_option linter.unusedSimpArgs false
open Go Go.RowKit

/-- No needle has the text. -/
def noText (s : ByteArray) : Prop := ∀ (b : Int) (n : Nat), 0 ≤ b → b ≤ 1 → 1 ≤ n → n ≤ 40 → s ≠ ntext b n
/-- What Parse returns. -/
def RetP (s : ByteArray) (w : World) (e : Ending) (w' : World) : Prop :=
  ∃ b a c : Int, e = .returned (.tuple #[.agg #[.int .u8 b, .int .i64 a], .int .i64 c]) ∧ Ext w w' ∧
    ((c = 0 ∧ 0 ≤ b ∧ b ≤ 1 ∧ ∃ n : Nat, a = n ∧ 1 ≤ n ∧ n ≤ 40 ∧ s = ntext b n) ∨ (c = 4 ∧ b = 0 ∧ a = 0 ∧ noText s))

theorem ntext_inv {s : ByteArray} {b : Int} {n : Nat} (h1 : 1 ≤ n) (h2 : n ≤ 40) (h : s = ntext b n) :
    2 ≤ s.size ∧ s.size ≤ 3 ∧ s.data.toList.getD 0 0 = (if b = 1 then 98 else 102) ∧ isdig (s.data.toList.drop 1) (s.size - 1) ∧ dvf (s.data.toList.drop 1) (s.size - 1) = n := by
  obtain ⟨l, hl, l1, l2, hd, hv⟩ := nbytes_inv (b := b) h1 h2
  have hs : s.data.toList = (if b = 1 then 98 else 102) :: l := by rw [h]; unfold ntext; rw [hl]
  have hz : s.size = l.length + 1 := by
    have : s.data.toList.length = l.length + 1 := by rw [hs]; simp
    rw [← this, Array.length_toList]; rfl
  rw [hs, hz]
  exact ⟨by omega, by omega, by simp, by simpa using hd, by simpa using hv⟩

theorem byte0 {s : ByteArray} (h : 0 < s.size) : s.data.toList.getD 0 0 = s[0] := by
  have h' : 0 < s.data.size := h
  rw [List.getD_eq_getElem?_getD, Array.getElem?_toList, Array.getElem?_eq_getElem h']; rfl
theorem ext_drop (s : ByteArray) : (s.extract 1 s.size).data.toList = s.data.toList.drop 1 := by
  rw [Lib.extract_data]
  exact List.take_of_length_le (by rw [List.length_drop, Array.length_toList]; exact Nat.le_refl _)
theorem ext_size (s : ByteArray) : (s.extract 1 s.size).size = s.size - 1 := by simp [ByteArray.size_extract]

/-- What holds at the head of a round of Parse's loop. -/
def PInv (w : World) (bed : Int) (l : List UInt8) (N k : Nat) (wx : World) : Prop :=
  Ext w wx ∧ B2 wx w.heap.size (.int .u8 0) (.int .i64 0) 24 ∧ B2 wx (w.heap.size + 1) (.int .u8 bed) (.int .i64 (dvf l k)) 24 ∧
    (∀ j, j < N → wx.cell? ⟨w.heap.size + 1 + 1, j, none⟩ = some (.int .u8 ((l.getD j 0).toNat : Int))) ∧ isdig l k

theorem PInv.next {w : World} {bed : Int} {l : List UInt8} {N k : Nat} {wx : World} (h : PInv w bed l N k wx) (h1 : 48 ≤ ((l.getD k 0).toNat : Int)) (h2 : ((l.getD k 0).toNat : Int) ≤ 57) :
    PInv w bed l N (k + 1) (wx.setCell ⟨w.heap.size + 1, 1, none⟩ (.int .i64 (10 * dvf l k + (((l.getD k 0).toNat : Int) - 48)))) := by
  obtain ⟨a, b, c, d, e⟩ := h
  refine ⟨a.setCell (by simp) _, b.setOther (by simp), c.set1, fun j hj => ?_, fun j hj => ?_⟩
  · rw [World.cell?_setCell_other (h := by simp)]; exact d j hj
  · by_cases e' : j = k
    · subst e'; exact ⟨h1, h2⟩
    · exact e j (by omega)

set_option maxHeartbeats 1000000 in
theorem Parse_f (s : ByteArray) (w : World) (l2 : 2 ≤ s.size) (l3 : s.size ≤ 3) (hc : ((s[0]'(by omega)).toNat : Int) = 102) :
    Calls Tryd.prog 18 #[.string s] w (RetP s w) := by
  obtain ⟨l, hl⟩ : ∃ l, l = s.data.toList.drop 1 := ⟨_, rfl⟩
  obtain ⟨N, hN⟩ : ∃ N, N = s.size - 1 := ⟨_, rfl⟩
  have hlen : l.length = N := by rw [hl, hN, List.length_drop, Array.length_toList]; rfl
  have h0 : s.data.toList.getD 0 0 = UInt8.ofNat 102 := by
    rw [byte0 (by omega)]
    apply UInt8.toNat_inj.1
    have : (s[0]'(by omega)).toNat = 102 := by omega
    rw [this]; rfl
  have hinv : ∀ (b : Int) (n : Nat), 0 ≤ b → b ≤ 1 → 1 ≤ n → n ≤ 40 → s = ntext b n → b = 0 ∧ isdig l N ∧ dvf l N = n := fun b n b0 b1 n1 n2 h => by
    obtain ⟨_, _, g1, g2, g3⟩ := ntext_inv n1 n2 h
    rw [hl, hN]
    refine ⟨?_, g2, g3⟩
    rw [h0] at g1
    by_cases hb : b = 1
    · first | exact hb | (rw [if_pos hb] at g1; exact absurd g1 (by decide))
    · first | omega | (rw [if_neg hb] at g1; exact absurd g1 (by decide))
  have hnon : ∀ k, k < N → ¬ (48 ≤ ((l.getD k 0).toNat : Int) ∧ ((l.getD k 0).toNat : Int) ≤ 57) → noText s := fun k hk hb b n b0 b1 n1 n2 h => hb ((hinv b n b0 b1 n1 n2 h).2.1 k hk)
  have hno : (∀ n : Nat, 1 ≤ n → n ≤ 40 → dvf l N = n → s ≠ ntext 0 n) → noText s := fun h b n b0 b1 n1 n2 e => by
    obtain ⟨hb, _, hv⟩ := hinv b n b0 b1 n1 n2 e
    subst hb
    exact h n n1 n2 hv e
  have hconv : ∀ w : World, (convert 9 37 (.string (s.extract 1 s.size))).run Tryd.prog w = .ok (.slice (some ⟨w.heap.size, 0, none⟩) N (grownCap w (s.extract 1 s.size).size 0 5)) (Lib.bytesWorld w 5 (s.extract 1 s.size)) := fun w => by
    have := Lib.run_convert_string_bytes (P := Tryd.prog) w 9 37 5 (s.extract 1 s.size) Tryd.underlying9 Tryd.underlying37 Tryd.underlying5
    rw [this, hN, ← ext_size s]
  have hf' : (((s[0]'(by omega)).toNat : Int) == 102) = true := by rw [hc]; rfl
  have hb' : (((s[0]'(by omega)).toNat : Int) == 98) = false := by rw [hc]; rfl
  have hN2 : N ≤ 2 := by omega
  have hpos : 0 < s.size := by omega
  have hcells : ∀ (W : World), Ext w W → W.heap.size = w.heap.size + 2 → B2 W w.heap.size (.int .u8 0) (.int .i64 0) 24 → B2 W (w.heap.size + 1) (.int .u8 0) (.int .i64 0) 24 → PInv w 0 l N 0 (Lib.bytesWorld W 5 (s.extract 1 s.size)) := fun W hx hsz g0 g1 => by
    have hbw : Ext W (Lib.bytesWorld W 5 (s.extract 1 s.size)) := Joins.below_bytesWorld _ W _ _ (Nat.le_refl _)
    refine ⟨hx.trans hbw, g0.ext hbw, g1.ext hbw, fun j hj => ?_, fun j hj => by omega⟩
    rw [show w.heap.size + 1 + 1 = W.heap.size by omega, Lib.bytesWorld_cell _ _ _ _ (by rw [ext_size]; omega), ext_drop, ← hl]
  have Hinv := Lib.hid hinv; have Hnon := Lib.hid hnon; have Hno := Lib.hid hno; have Hconv := Lib.hid hconv; have Hcells := Lib.hid hcells
  have hdv : ∀ k, isdig l k → k ≤ 2 → 0 ≤ dvf l k ∧ dvf l k ≤ 99 := fun k => dvf_bd
  have Hdv := Lib.hid hdv
  have Hz := Lib.hid hN
  clear hl hN hlen h0 hinv hnon hno hc hcells hdv
  go_enter Tryd.func18, Tryd.ntmps18
  go_wp2
  clear hconv
  have hp := Hcells.out ((w.alloc (.cells #[.int .u8 0, .int .i64 0] 24)).alloc (.cells #[.int .u8 0, .int .i64 0] 24)) (((Ext.refl w).alloc _).alloc _) (by simp) ((B2.new w _ _ _).alloc _) (by
    have := B2.new (w.alloc (.cells #[.int .u8 0, .int .i64 0] 24)) (.int .u8 0) (.int .i64 0) 24
    simpa using this)
  obtain ⟨W0, hW0⟩ : ∃ W0, W0 = ((w.alloc (.cells #[.int .u8 0, .int .i64 0] 24)).alloc (.cells #[.int .u8 0, .int .i64 0] 24)) := ⟨_, rfl⟩
  rw [← hW0] at hp ⊢
  obtain ⟨W1, hW1⟩ : ∃ W1, W1 = Lib.bytesWorld W0 5 (s.extract 1 s.size) := ⟨_, rfl⟩
  obtain ⟨cp, hcp⟩ : ∃ cp, cp = grownCap W0 (s.size - 1) 0 5 := ⟨_, rfl⟩
  rw [← hW1] at hp ⊢
  rw [← hcp]
  have HP := Lib.hid hp
  clear hW0 hW1 hcp hp Hcells Hconv
  go_loopw [30] (fun i wx => ∃ k : Nat, k ≤ N ∧ i = .int .i64 k ∧ Hid (PInv w 0 l N k wx)) (fun i _ => N - (intOf i).toNat)
  case atStart => exact ⟨0, Nat.zero_le _, rfl, HP⟩
  case round =>
    clear HP
    obtain ⟨k, hk, rfl, H⟩ := hrel
    by_cases hlt : k < N
    · have hck := H.out.2.2.2.1 k hlt
      have b1 := (l.getD k 0).toNat_lt
      have e1 := H.out.2.2.1.c1
      have e2 := H.out.2.2.1.f1
      have d0 := H.out.2.1.c0
      have d1 := H.out.2.1.c1
      have g0 := H.out.2.1.f0
      have g1 := H.out.2.1.f1
      have hdv := Hdv.out k H.out.2.2.2.2 (by omega)
      have HN := Lib.hid (Hnon.out k hlt)
      have hnx := H.out.next
      obtain ⟨x, hx⟩ : ∃ x : Int, x = ((l.getD k 0).toNat : Int) := ⟨_, rfl⟩
      have x0 : 0 ≤ x := by omega
      have x1 : x ≤ 255 := by omega
      rw [← hx] at hck HN hnx
      have HNX := Lib.hid hnx
      generalize dvf l k = dv at e1 hdv HNX
      obtain ⟨v1, v2⟩ := hdv
      clear hx b1 hnx
      by_cases h48 : x < 48
      · go_wp2
        exact bodyPost_ret (v := .tuple #[.agg #[.int .u8 0, .int .i64 0], .int .i64 4]) (by simp [results, Tryd.results18, go_sem, d0, d1]) rfl ⟨0, 0, 4, rfl, (H.out.1.setCell (by simp) _).setCell (by simp) _, .inr ⟨rfl, rfl, rfl, HN.out (by omega)⟩⟩
      by_cases h57 : 57 < x
      · go_wp2
        exact bodyPost_ret (v := .tuple #[.agg #[.int .u8 0, .int .i64 0], .int .i64 4]) (by simp [results, Tryd.results18, go_sem, d0, d1]) rfl ⟨0, 0, 4, rfl, (H.out.1.setCell (by simp) _).setCell (by simp) _, .inr ⟨rfl, rfl, rfl, HN.out (by omega)⟩⟩
      go_wp2
      go_roundw
      case rel => exact ⟨k + 1, by omega, by go_num, HNX.out (by omega) (by omega)⟩
      case measure => simp [intOf]; omega
    · obtain rfl : k = N := by omega
      have e0 := H.out.2.2.1.c0
      have e1 := H.out.2.2.1.c1
      have d0 := H.out.2.1
      have hdv := Hdv.out k H.out.2.2.2.2 (by omega)
      generalize dvf l k = dv at e1 hdv Hno
      obtain ⟨v1, v2⟩ := hdv
      obtain ⟨a, rfl⟩ := Int.eq_ofNat_of_zero_le v1
      have HD := Lib.hid d0
      clear d0
      by_cases ha : 1 ≤ a ∧ a ≤ 40
      · obtain ⟨a1, a2⟩ := ha
        go_wp2_with fail
        refine (Text_0 a _ a1 a2).mono ?_
        rintro e w5 ⟨rfl, x5⟩
        have p0 := (HD.out.ext x5).c0
        have p1 := (HD.out.ext x5).c1
        have p2 := (HD.out.ext x5).f0
        have p3 := (HD.out.ext x5).f1
        have q0 := x5.cell e0
        have q1 := x5.cell e1
        have X5 := Lib.hid (H.out.1.trans x5)
        clear x5 e0 e1
        by_cases hs : ntext 0 a = s
        · have hs' := str_eq hs
          have HS := Lib.hid hs
          clear hs
          go_wp2
          exact bodyPost_ret (v := .tuple #[.agg #[.int .u8 0, .int .i64 a], .int .i64 0]) (by simp [results, Tryd.results18, go_sem, p0, p1]) rfl ⟨0, a, 0, rfl, (X5.out.setCell (by simp) _).setCell (by simp) _, .inl ⟨rfl, by omega, by omega, a, rfl, a1, a2, HS.out.symm⟩⟩
        · have hs' := str_ne hs
          have HS := Lib.hid hs
          clear hs
          go_wp2
          exact bodyPost_ret (v := .tuple #[.agg #[.int .u8 0, .int .i64 0], .int .i64 4]) (by simp [results, Tryd.results18, go_sem, p0, p1]) rfl ⟨0, 0, 4, rfl, (X5.out.setCell (by simp) _).setCell (by simp) _, .inr ⟨rfl, rfl, rfl, Hno.out fun n n1 n2 e => by
            obtain rfl : a = n := by omega
            exact fun h => HS.out h.symm⟩⟩
      · have hne := str_nonempty (a := s) (by omega)
        have ha' : ¬ ((0 : Int) ≤ 1 ∧ 1 ≤ (a : Int) ∧ (a : Int) ≤ 40) := by omega
        have HA := Lib.hid ha
        clear ha
        go_wp2_with fail
        refine (Text_bad 0 a _ (by omega) (by omega) ha').mono ?_
        rintro e w5 ⟨rfl, x5⟩
        have p0 := (HD.out.ext x5).c0
        have p1 := (HD.out.ext x5).c1
        have p2 := (HD.out.ext x5).f0
        have p3 := (HD.out.ext x5).f1
        have q0 := x5.cell e0
        have q1 := x5.cell e1
        have X5 := Lib.hid (H.out.1.trans x5)
        clear x5 e0 e1 ha'
        go_wp2
        exact bodyPost_ret (v := .tuple #[.agg #[.int .u8 0, .int .i64 0], .int .i64 4]) (by simp [results, Tryd.results18, go_sem, p0, p1]) rfl ⟨0, 0, 4, rfl, (X5.out.setCell (by simp) _).setCell (by simp) _, .inr ⟨rfl, rfl, rfl, Hno.out fun n n1 n2 e => absurd (by omega) HA.out⟩⟩

set_option maxHeartbeats 1000000 in
theorem Parse_b (s : ByteArray) (w : World) (l2 : 2 ≤ s.size) (l3 : s.size ≤ 3) (hc : ((s[0]'(by omega)).toNat : Int) = 98) :
    Calls Tryd.prog 18 #[.string s] w (RetP s w) := by
  obtain ⟨l, hl⟩ : ∃ l, l = s.data.toList.drop 1 := ⟨_, rfl⟩
  obtain ⟨N, hN⟩ : ∃ N, N = s.size - 1 := ⟨_, rfl⟩
  have hlen : l.length = N := by rw [hl, hN, List.length_drop, Array.length_toList]; rfl
  have h0 : s.data.toList.getD 0 0 = UInt8.ofNat 98 := by
    rw [byte0 (by omega)]
    apply UInt8.toNat_inj.1
    have : (s[0]'(by omega)).toNat = 98 := by omega
    rw [this]; rfl
  have hinv : ∀ (b : Int) (n : Nat), 0 ≤ b → b ≤ 1 → 1 ≤ n → n ≤ 40 → s = ntext b n → b = 1 ∧ isdig l N ∧ dvf l N = n := fun b n b0 b1 n1 n2 h => by
    obtain ⟨_, _, g1, g2, g3⟩ := ntext_inv n1 n2 h
    rw [hl, hN]
    refine ⟨?_, g2, g3⟩
    rw [h0] at g1
    by_cases hb : b = 1
    · first | exact hb | (rw [if_pos hb] at g1; exact absurd g1 (by decide))
    · first | omega | (rw [if_neg hb] at g1; exact absurd g1 (by decide))
  have hnon : ∀ k, k < N → ¬ (48 ≤ ((l.getD k 0).toNat : Int) ∧ ((l.getD k 0).toNat : Int) ≤ 57) → noText s := fun k hk hb b n b0 b1 n1 n2 h => hb ((hinv b n b0 b1 n1 n2 h).2.1 k hk)
  have hno : (∀ n : Nat, 1 ≤ n → n ≤ 40 → dvf l N = n → s ≠ ntext 1 n) → noText s := fun h b n b0 b1 n1 n2 e => by
    obtain ⟨hb, _, hv⟩ := hinv b n b0 b1 n1 n2 e
    subst hb
    exact h n n1 n2 hv e
  have hconv : ∀ w : World, (convert 9 37 (.string (s.extract 1 s.size))).run Tryd.prog w = .ok (.slice (some ⟨w.heap.size, 0, none⟩) N (grownCap w (s.extract 1 s.size).size 0 5)) (Lib.bytesWorld w 5 (s.extract 1 s.size)) := fun w => by
    have := Lib.run_convert_string_bytes (P := Tryd.prog) w 9 37 5 (s.extract 1 s.size) Tryd.underlying9 Tryd.underlying37 Tryd.underlying5
    rw [this, hN, ← ext_size s]
  have hf' : (((s[0]'(by omega)).toNat : Int) == 102) = false := by rw [hc]; rfl
  have hb' : (((s[0]'(by omega)).toNat : Int) == 98) = true := by rw [hc]; rfl
  have hN2 : N ≤ 2 := by omega
  have hpos : 0 < s.size := by omega
  have hcells : ∀ (W : World), Ext w W → W.heap.size = w.heap.size + 2 → B2 W w.heap.size (.int .u8 0) (.int .i64 0) 24 → B2 W (w.heap.size + 1) (.int .u8 1) (.int .i64 0) 24 → PInv w 1 l N 0 (Lib.bytesWorld W 5 (s.extract 1 s.size)) := fun W hx hsz g0 g1 => by
    have hbw : Ext W (Lib.bytesWorld W 5 (s.extract 1 s.size)) := Joins.below_bytesWorld _ W _ _ (Nat.le_refl _)
    refine ⟨hx.trans hbw, g0.ext hbw, g1.ext hbw, fun j hj => ?_, fun j hj => by omega⟩
    rw [show w.heap.size + 1 + 1 = W.heap.size by omega, Lib.bytesWorld_cell _ _ _ _ (by rw [ext_size]; omega), ext_drop, ← hl]
  have Hinv := Lib.hid hinv; have Hnon := Lib.hid hnon; have Hno := Lib.hid hno; have Hconv := Lib.hid hconv; have Hcells := Lib.hid hcells
  have hdv : ∀ k, isdig l k → k ≤ 2 → 0 ≤ dvf l k ∧ dvf l k ≤ 99 := fun k => dvf_bd
  have Hdv := Lib.hid hdv
  have Hz := Lib.hid hN
  clear hl hN hlen h0 hinv hnon hno hc hcells hdv
  go_enter Tryd.func18, Tryd.ntmps18
  go_wp2
  clear hconv
  have hp := Hcells.out ((w.alloc (.cells #[.int .u8 0, .int .i64 0] 24)).alloc (.cells #[.int .u8 1, .int .i64 0] 24)) (((Ext.refl w).alloc _).alloc _) (by simp) ((B2.new w _ _ _).alloc _) (by
    have := B2.new (w.alloc (.cells #[.int .u8 0, .int .i64 0] 24)) (.int .u8 1) (.int .i64 0) 24
    simpa using this)
  obtain ⟨W0, hW0⟩ : ∃ W0, W0 = ((w.alloc (.cells #[.int .u8 0, .int .i64 0] 24)).alloc (.cells #[.int .u8 1, .int .i64 0] 24)) := ⟨_, rfl⟩
  rw [← hW0] at hp ⊢
  obtain ⟨W1, hW1⟩ : ∃ W1, W1 = Lib.bytesWorld W0 5 (s.extract 1 s.size) := ⟨_, rfl⟩
  obtain ⟨cp, hcp⟩ : ∃ cp, cp = grownCap W0 (s.size - 1) 0 5 := ⟨_, rfl⟩
  rw [← hW1] at hp ⊢
  rw [← hcp]
  have HP := Lib.hid hp
  clear hW0 hW1 hcp hp Hcells Hconv
  go_loopw [30] (fun i wx => ∃ k : Nat, k ≤ N ∧ i = .int .i64 k ∧ Hid (PInv w 1 l N k wx)) (fun i _ => N - (intOf i).toNat)
  case atStart => exact ⟨0, Nat.zero_le _, rfl, HP⟩
  case round =>
    clear HP
    obtain ⟨k, hk, rfl, H⟩ := hrel
    by_cases hlt : k < N
    · have hck := H.out.2.2.2.1 k hlt
      have b1 := (l.getD k 0).toNat_lt
      have e1 := H.out.2.2.1.c1
      have e2 := H.out.2.2.1.f1
      have d0 := H.out.2.1.c0
      have d1 := H.out.2.1.c1
      have g0 := H.out.2.1.f0
      have g1 := H.out.2.1.f1
      have hdv := Hdv.out k H.out.2.2.2.2 (by omega)
      have HN := Lib.hid (Hnon.out k hlt)
      have hnx := H.out.next
      obtain ⟨x, hx⟩ : ∃ x : Int, x = ((l.getD k 0).toNat : Int) := ⟨_, rfl⟩
      have x0 : 0 ≤ x := by omega
      have x1 : x ≤ 255 := by omega
      rw [← hx] at hck HN hnx
      have HNX := Lib.hid hnx
      generalize dvf l k = dv at e1 hdv HNX
      obtain ⟨v1, v2⟩ := hdv
      clear hx b1 hnx
      by_cases h48 : x < 48
      · go_wp2
        exact bodyPost_ret (v := .tuple #[.agg #[.int .u8 0, .int .i64 0], .int .i64 4]) (by simp [results, Tryd.results18, go_sem, d0, d1]) rfl ⟨0, 0, 4, rfl, (H.out.1.setCell (by simp) _).setCell (by simp) _, .inr ⟨rfl, rfl, rfl, HN.out (by omega)⟩⟩
      by_cases h57 : 57 < x
      · go_wp2
        exact bodyPost_ret (v := .tuple #[.agg #[.int .u8 0, .int .i64 0], .int .i64 4]) (by simp [results, Tryd.results18, go_sem, d0, d1]) rfl ⟨0, 0, 4, rfl, (H.out.1.setCell (by simp) _).setCell (by simp) _, .inr ⟨rfl, rfl, rfl, HN.out (by omega)⟩⟩
      go_wp2
      go_roundw
      case rel => exact ⟨k + 1, by omega, by go_num, HNX.out (by omega) (by omega)⟩
      case measure => simp [intOf]; omega
    · obtain rfl : k = N := by omega
      have e0 := H.out.2.2.1.c0
      have e1 := H.out.2.2.1.c1
      have d0 := H.out.2.1
      have hdv := Hdv.out k H.out.2.2.2.2 (by omega)
      generalize dvf l k = dv at e1 hdv Hno
      obtain ⟨v1, v2⟩ := hdv
      obtain ⟨a, rfl⟩ := Int.eq_ofNat_of_zero_le v1
      have HD := Lib.hid d0
      clear d0
      by_cases ha : 1 ≤ a ∧ a ≤ 40
      · obtain ⟨a1, a2⟩ := ha
        go_wp2_with fail
        refine (Text_1 a _ a1 a2).mono ?_
        rintro e w5 ⟨rfl, x5⟩
        have p0 := (HD.out.ext x5).c0
        have p1 := (HD.out.ext x5).c1
        have p2 := (HD.out.ext x5).f0
        have p3 := (HD.out.ext x5).f1
        have q0 := x5.cell e0
        have q1 := x5.cell e1
        have X5 := Lib.hid (H.out.1.trans x5)
        clear x5 e0 e1
        by_cases hs : ntext 1 a = s
        · have hs' := str_eq hs
          have HS := Lib.hid hs
          clear hs
          go_wp2
          exact bodyPost_ret (v := .tuple #[.agg #[.int .u8 1, .int .i64 a], .int .i64 0]) (by simp [results, Tryd.results18, go_sem, p0, p1]) rfl ⟨1, a, 0, rfl, (X5.out.setCell (by simp) _).setCell (by simp) _, .inl ⟨rfl, by omega, by omega, a, rfl, a1, a2, HS.out.symm⟩⟩
        · have hs' := str_ne hs
          have HS := Lib.hid hs
          clear hs
          go_wp2
          exact bodyPost_ret (v := .tuple #[.agg #[.int .u8 0, .int .i64 0], .int .i64 4]) (by simp [results, Tryd.results18, go_sem, p0, p1]) rfl ⟨0, 0, 4, rfl, (X5.out.setCell (by simp) _).setCell (by simp) _, .inr ⟨rfl, rfl, rfl, Hno.out fun n n1 n2 e => by
            obtain rfl : a = n := by omega
            exact fun h => HS.out h.symm⟩⟩
      · have hne := str_nonempty (a := s) (by omega)
        have ha' : ¬ ((1 : Int) ≤ 1 ∧ 1 ≤ (a : Int) ∧ (a : Int) ≤ 40) := by omega
        have HA := Lib.hid ha
        clear ha
        go_wp2_with fail
        refine (Text_bad 1 a _ (by omega) (by omega) ha').mono ?_
        rintro e w5 ⟨rfl, x5⟩
        have p0 := (HD.out.ext x5).c0
        have p1 := (HD.out.ext x5).c1
        have p2 := (HD.out.ext x5).f0
        have p3 := (HD.out.ext x5).f1
        have q0 := x5.cell e0
        have q1 := x5.cell e1
        have X5 := Lib.hid (H.out.1.trans x5)
        clear x5 e0 e1 ha'
        go_wp2
        exact bodyPost_ret (v := .tuple #[.agg #[.int .u8 0, .int .i64 0], .int .i64 4]) (by simp [results, Tryd.results18, go_sem, p0, p1]) rfl ⟨0, 0, 4, rfl, (X5.out.setCell (by simp) _).setCell (by simp) _, .inr ⟨rfl, rfl, rfl, Hno.out fun n n1 n2 e => absurd (by omega) HA.out⟩⟩

theorem Parse_len (s : ByteArray) (w : World) (hs : s.size < 2 ∨ 3 < s.size) (hm : s.size ≤ 9223372036854775807) :
    Calls Tryd.prog 18 #[.string s] w (RetP s w) := by
  have hno : noText s := fun b n b0 b1 n1 n2 h => by
    obtain ⟨g1, g2, _⟩ := ntext_inv n1 n2 h
    omega
  have HN := Lib.hid hno; clear hno
  by_cases l2 : s.size < 2
  · go_enter Tryd.func18, Tryd.ntmps18
    go_wp2
    exact bodyPost_ret (v := .tuple #[.agg #[.int .u8 0, .int .i64 0], .int .i64 4]) (by simp [results, Tryd.results18, go_sem]) rfl ⟨0, 0, 4, rfl, (Ext.refl w).alloc _, .inr ⟨rfl, rfl, rfl, HN.out⟩⟩
  · have l3 : 3 < s.size := by omega
    clear hs
    go_enter Tryd.func18, Tryd.ntmps18
    go_wp2
    exact bodyPost_ret (v := .tuple #[.agg #[.int .u8 0, .int .i64 0], .int .i64 4]) (by simp [results, Tryd.results18, go_sem]) rfl ⟨0, 0, 4, rfl, (Ext.refl w).alloc _, .inr ⟨rfl, rfl, rfl, HN.out⟩⟩

theorem Parse_other (s : ByteArray) (w : World) (l2 : 2 ≤ s.size) (l3 : s.size ≤ 3) (h1 : ((s[0]'(by omega)).toNat : Int) ≠ 102) (h2 : ((s[0]'(by omega)).toNat : Int) ≠ 98) :
    Calls Tryd.prog 18 #[.string s] w (RetP s w) := by
  have hno : noText s := fun b n b0 b1 n1 n2 h => by
    obtain ⟨g1, g2, g3, _⟩ := ntext_inv n1 n2 h
    rw [byte0 (by omega)] at g3
    by_cases hb : b = 1
    · rw [if_pos hb] at g3; exact h2 (by rw [g3]; rfl)
    · rw [if_neg hb] at g3; exact h1 (by rw [g3]; rfl)
  have HN := Lib.hid hno
  have hf' : (((s[0]'(by omega)).toNat : Int) == 102) = false := by simpa using h1
  have hb' : (((s[0]'(by omega)).toNat : Int) == 98) = false := by simpa using h2
  have hpos : 0 < s.size := by omega
  clear hno h1 h2
  go_enter Tryd.func18, Tryd.ntmps18
  go_wp2
  exact bodyPost_ret (v := .tuple #[.agg #[.int .u8 0, .int .i64 0], .int .i64 4]) (by simp [results, Tryd.results18, go_sem]) rfl ⟨0, 0, 4, rfl, ((Ext.refl w).alloc _).alloc _, .inr ⟨rfl, rfl, rfl, HN.out⟩⟩

theorem Parse_calls (s : ByteArray) (w : World) (hm : s.size ≤ 9223372036854775807) :
    Calls Tryd.prog 18 #[.string s] w (RetP s w) := by
  by_cases hl : s.size < 2 ∨ 3 < s.size
  · exact Parse_len s w hl hm
  by_cases hf : ((s[0]'(by omega)).toNat : Int) = 102
  · exact Parse_f s w (by omega) (by omega) hf
  by_cases hb : ((s[0]'(by omega)).toNat : Int) = 98
  · exact Parse_b s w (by omega) (by omega) hb
  exact Parse_other s w (by omega) (by omega) hf hb
end Go.Proofs.YthjihkclccpnhaaDoor
