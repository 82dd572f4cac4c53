/- Texts of this claim in one file: libraries and walks. -/
import Derived.Test.YtlmkcojimhbmiaaMKnown0
import Derived.Test.YtlmkcojimhbmiaaMKnown1
import Derived.Test.YtlmkcojimhbmiaaMKnown2
import Derived.Test.YtlmkcojimhbmiaaMKnown3
import Derived.Test.YtlmkcojimhbmiaaMKnown5
/- MotifsKnown: the walk. -/
namespace Go.Proofs.Ytlmkcojimhbmiaa
set_option linter.unusedVariables false
set_option linter.unusedSimpArgs false
set_option maxRecDepth 20000
open Go Go.RowKit

theorem IS.blk {k : IntKind} {w : World} {g n : Nat} {t : TypeId} {xs : List Int} {arr : Array Value} (hb : w.heap[g]? = some (.cells arr t (0, 0))) (ha : arr = (xs.map (Value.int k)).toArray) (hn : n = xs.length) (hl : n ≤ 1000000) : IS k w (.slice (some ⟨g, 0, none⟩) n n) n xs := by
  refine IS.mk hn (Nat.le_refl _) (by unfold maxLen; omega) fun i hi => ?_
  rw [Nat.zero_add]
  simp only [World.cell?, hb, ha]
  simp only [List.getElem?_toArray, List.getElem?_map]
  rw [gi_some (by omega)]; rfl
/-- Three lists of bytes in blocks of their own. -/
def P3 (w : World) (u : Value) (chs : List (List Int)) : Prop :=
  ∃ (g g0 g1 g2 : Nat) (x0 x1 x2 y0 y1 z0 z1 z2 z3 : Int), u = .slice (some ⟨g, 0, none⟩) 3 3 ∧ chs = [[x0, x1, x2], [y0, y1], [z0, z1, z2, z3]] ∧
    w.heap[g]? = some (.cells #[.slice (some ⟨g0, 0, none⟩) 3 3, .slice (some ⟨g1, 0, none⟩) 2 2, .slice (some ⟨g2, 0, none⟩) 4 4] 62 (0, 0)) ∧
    w.heap[g0]? = some (.cells #[.int .u8 x0, .int .u8 x1, .int .u8 x2] 5 (0, 0)) ∧ w.heap[g1]? = some (.cells #[.int .u8 y0, .int .u8 y1] 5 (0, 0)) ∧ w.heap[g2]? = some (.cells #[.int .u8 z0, .int .u8 z1, .int .u8 z2, .int .u8 z3] 5 (0, 0))
def Q3 (w : World) (u : Value) (chs : List (List Int)) : Prop := (u = .slice none 0 0 ∧ chs = []) ∨ P3 w u chs
theorem Q3.ext {w w' : World} {u : Value} {chs : List (List Int)} (h : Q3 w u chs) (x : Ext w w') : Q3 w' u chs := by
  rcases h with h | ⟨g, g0, g1, g2, x0, x1, x2, y0, y1, z0, z1, z2, z3, e1, e2, h1, h2, h3, h4⟩
  · exact .inl h
  · exact .inr ⟨g, g0, g1, g2, x0, x1, x2, y0, y1, z0, z1, z2, z3, e1, e2, x.block h1, x.block h2, x.block h3, x.block h4⟩
theorem Q3.set2 {w : World} {u : Value} {chs : List (List Int)} (h : Q3 w u chs) {q o : Nat} {cs : Array Value} {t : TypeId} (hb : w.heap[q]? = some (.cells cs t (0, 0))) (t1 : 62 ≠ t) (t2 : 5 ≠ t) (v1 v2 : Value) : Q3 ((w.setCell ⟨q, o, none⟩ v1).setCell ⟨q, o + 1, none⟩ v2) u chs := by
  rcases h with h | ⟨g, g0, g1, g2, x0, x1, x2, y0, y1, z0, z1, z2, z3, e1, e2, h1, h2, h3, h4⟩
  · exact .inl h
  · have hb' : (w.setCell ⟨q, o, none⟩ v1).heap[q]? = some (.cells (cs.setIfInBounds o v1) t (0, 0)) := blk_setAt hb v1
    exact .inr ⟨g, g0, g1, g2, x0, x1, x2, y0, y1, z0, z1, z2, z3, e1, e2, blk_setOther (a := ⟨q, o + 1, none⟩) (blk_setOther (a := ⟨q, o, none⟩) h1 hb t1) hb' t1, blk_setOther (a := ⟨q, o + 1, none⟩) (blk_setOther (a := ⟨q, o, none⟩) h2 hb t2) hb' t2, blk_setOther (a := ⟨q, o + 1, none⟩) (blk_setOther (a := ⟨q, o, none⟩) h3 hb t2) hb' t2, blk_setOther (a := ⟨q, o + 1, none⟩) (blk_setOther (a := ⟨q, o, none⟩) h4 hb t2) hb' t2⟩
theorem Q3.iss {w : World} {u : Value} {chs : List (List Int)} (h : Q3 w u chs) : ∃ a n c, u = .slice a n c ∧ ISS .u8 w u c chs := by
  rcases h with ⟨rfl, rfl⟩ | ⟨g, g0, g1, g2, x0, x1, x2, y0, y1, z0, z1, z2, z3, rfl, rfl, h1, h2, h3, h4⟩
  · exact ⟨none, 0, 0, rfl, ISS.nil _ _⟩
  · refine ⟨_, _, _, rfl, fun i => [Value.slice (some ⟨g0, 0, none⟩) 3 3, .slice (some ⟨g1, 0, none⟩) 2 2, .slice (some ⟨g2, 0, none⟩) 4 4].getD i undef, fun i => [3, 2, 4].getD i 0, ISV.mk' rfl (Nat.le_refl _) (by unfold maxLen; omega) (fun i hi => ?_) fun i hi => ?_⟩
    · rcases (show i = 0 ∨ i = 1 ∨ i = 2 by omega) with rfl | rfl | rfl <;> simp [World.cell?, h1]
    · rcases (show i = 0 ∨ i = 1 ∨ i = 2 by omega) with rfl | rfl | rfl
      · exact IS.blk h2 rfl rfl (by decide)
      · exact IS.blk h3 rfl rfl (by decide)
      · exact IS.blk h4 rfl rfl (by decide)
/-- The three charts as plain data in their array. -/
def C3 (w0 w : World) (q : Nat) : Prop :=
  Ext w0 w ∧ w0.heap.size ≤ q ∧ ∃ f0 u0 k0 f1 u1 k1 f2 u2 k2, w.heap[q]? = some (.cells #[.int .u8 f0, u0, .int .u8 f1, u1, .int .u8 f2, u2] 61 (0, 0)) ∧ (Q3 w u0 k0 ∧ Q3 w u1 k1 ∧ Q3 w u2 k2) ∧ ((0 ≤ f0 ∧ f0 ≤ 255) ∧ (0 ≤ f1 ∧ f1 ≤ 255) ∧ (0 ≤ f2 ∧ f2 ≤ 255)) ∧ bt8 k0 ∧ bt8 k1 ∧ bt8 k2
theorem C3.ext {w0 w w' : World} {q : Nat} (h : C3 w0 w q) (x : Ext w w') : C3 w0 w' q := by
  obtain ⟨h1, h2, f0, u0, k0, f1, u1, k1, f2, u2, k2, h3, ⟨a, b, c⟩, h5⟩ := h
  exact ⟨h1.trans x, h2, f0, u0, k0, f1, u1, k1, f2, u2, k2, x.block h3, ⟨a.ext x, b.ext x, c.ext x⟩, h5⟩
theorem C3.set {w0 w : World} {q j : Nat} {f : Int} {u : Value} {chs : List (List Int)} (h : C3 w0 w q) (hj : j < 3) (hf : 0 ≤ f ∧ f ≤ 255) (hu : Q3 w u chs) (hb : bt8 chs) : C3 w0 ((w.setCell ⟨q, j * 2, none⟩ (.int .u8 f)).setCell ⟨q, j * 2 + 1, none⟩ u) q := by
  obtain ⟨h1, h2, f0, u0, k0, f1, u1, k1, f2, u2, k2, h3, ⟨a, b, c⟩, ⟨d0, d1, d2⟩, e0, e1, e2⟩ := h
  have g1 : ∀ {u' : Value} {ks : List (List Int)}, Q3 w u' ks → Q3 ((w.setCell ⟨q, j * 2, none⟩ (.int .u8 f)).setCell ⟨q, j * 2 + 1, none⟩ u) u' ks := fun hq => hq.set2 h3 (by decide) (by decide) _ _
  refine ⟨(h1.setCell (p := ⟨q, j * 2, none⟩) h2 _).setCell (p := ⟨q, j * 2 + 1, none⟩) h2 _, h2, ?_⟩
  have hn := blk_setAt (o := j * 2 + 1) (blk_setAt (o := j * 2) h3 (.int .u8 f)) u
  rcases (show j = 0 ∨ j = 1 ∨ j = 2 by omega) with rfl | rfl | rfl
  · exact ⟨f, u, chs, f1, u1, k1, f2, u2, k2, hn, ⟨g1 hu, g1 b, g1 c⟩, ⟨hf, d1, d2⟩, hb, e1, e2⟩
  · exact ⟨f0, u0, k0, f, u, chs, f2, u2, k2, hn, ⟨g1 a, g1 hu, g1 c⟩, ⟨d0, hf, d2⟩, e0, hb, e2⟩
  · exact ⟨f0, u0, k0, f1, u1, k1, f, u, chs, hn, ⟨g1 a, g1 b, g1 hu⟩, ⟨d0, d1, hf⟩, e0, e1, hb⟩
theorem blk_ex {w : World} {q o : Nat} {cs : Array Value} {t : TypeId} (hb : w.heap[q]? = some (.cells cs t (0, 0))) (ho : o < cs.size) : ∃ v, w.cell? ⟨q, o, none⟩ = some v := by
  simp only [World.cell?, hb]
  exact ⟨cs[o], by simp [ho]⟩
theorem C3.ex {w0 w : World} {q j : Nat} {v : Value} (h : C3 w0 w q) (hj : j < 3) : (∃ v, w.cell? ⟨q, j * 2, none⟩ = some v) ∧ w.frozen? ⟨q, j * 2, none⟩ = false ∧ (∃ v', (w.setCell ⟨q, j * 2, none⟩ v).cell? ⟨q, j * 2 + 1, none⟩ = some v') ∧ (w.setCell ⟨q, j * 2, none⟩ v).frozen? ⟨q, j * 2 + 1, none⟩ = false := by
  obtain ⟨h1, h2, f0, u0, k0, f1, u1, k1, f2, u2, k2, h3, _⟩ := h
  have h4 := blk_setAt (o := j * 2) h3 v
  refine ⟨blk_ex h3 (by simp; omega), by simp [World.frozen?, h3], blk_ex h4 (by simp; omega), by simp [World.frozen?, h4]⟩
theorem bt8_lit {x0 x1 x2 y0 y1 z0 z1 z2 z3 : Int} (h : ∀ x ∈ [x0, x1, x2, y0, y1, z0, z1, z2, z3], 0 ≤ x ∧ x ≤ 255) : bt8 [[x0, x1, x2], [y0, y1], [z0, z1, z2, z3]] := fun k hk i hi => by
  have hk' : k < 3 := hk
  refine h _ ?_
  have hm := gi_mem hi
  rcases (show k = 0 ∨ k = 1 ∨ k = 2 by omega) with rfl | rfl | rfl
  · simp only [ri, List.getD_cons_zero, List.getD_cons_succ, List.mem_cons, List.not_mem_nil, or_false] at hm ⊢
    rcases hm with h | h | h <;> simp [h]
  · simp only [ri, List.getD_cons_zero, List.getD_cons_succ, List.mem_cons, List.not_mem_nil, or_false] at hm ⊢
    rcases hm with h | h <;> simp [h]
  · simp only [ri, List.getD_cons_zero, List.getD_cons_succ, List.mem_cons, List.not_mem_nil, or_false] at hm ⊢
    rcases hm with h | h | h | h <;> simp [h]
theorem InC.cl {C : List (List St)} (h : (cloads C).1 = 0) : InC C := fun r hr s hs => by
  obtain ⟨i, hi, rfl⟩ := List.mem_iff_getElem.1 hr
  rw [← sw_of_lt hi] at hs
  obtain ⟨j, hj, rfl⟩ := List.mem_iff_getElem.1 hs
  have := ((cl_rows h).2.2 i hi).2.2 j hj
  rw [si_of_lt hj] at this
  obtain ⟨h1, h2, h3⟩ := St.chk_ok this
  exact ⟨by omega, by omega, by omega, by omega⟩
theorem InC.ok {C T : List (List St)} (h : OKb C T) : InC C := by
  rcases h with rfl | h
  · intro r hr; simp at hr
  · exact InC.cl h.1
theorem u8w (z : Int) : 0 ≤ IntKind.u8.wrap z ∧ IntKind.u8.wrap z ≤ 255 := by simp [IntKind.wrap, IntKind.bits, IntKind.signed]; omega
/-- 65 empty blocks. -/
theorem bb65 {w : World} {g n : Nat} (hb : w.heap[g]? = some (.cells (List.replicate n (Value.slice none 0 0)).toArray 24 (0, 0))) (hn : n ≤ 1000) : BB w (.slice (some ⟨g, 0, none⟩) n n) n (List.replicate n []) := (VB.rep hb hn (RR.nil w)).bb
theorem InC.nil : InC [] := fun r hr => by cases hr
theorem MOK.ins {ht ed : Int} {L T R : List (List St)} (h : MOK ht ed L T R) (hh : 0 ≤ ht) : InC L ∧ InC T ∧ InC R := by
  obtain ⟨h1, h2, h3, _⟩ := h.parts hh
  exact ⟨InC.ok h1, InC.cl h3, InC.ok h2⟩
theorem bes_w {w0 W : World} {u0 u1 : Value} {c0 c1 : Nat} {A B : List (List St)} (x : Ext (w0.alloc (.cells #[u0, u1] 24)) W) (h0 : RR W u0 c0 A) (h1 : RR W u1 c1 B) :
    Calls Try.prog 4 #[.slice (some ⟨w0.heap.size, 0, none⟩) 2 2] W fun e w' => e = .returned (.bool true) ∧ Ext W w' :=
  MotifsBeside_walk _ 2 [A, B] _ (BB.lit2 (x.block (blk_at rfl)) h0 h1)
theorem abo_w {w0 W : World} {u0 u1 u2 : Value} {c0 c1 c2 : Nat} {A B C : List (List St)} (x : Ext (w0.alloc (.cells #[u0, u1, u2] 24)) W) (h0 : RR W u0 c0 A) (h1 : RR W u1 c1 B) (h2 : RR W u2 c2 C) :
    Calls Try.prog 5 #[.slice (some ⟨w0.heap.size, 0, none⟩) 3 3] W fun e w' => e = .returned (.bool true) ∧ Ext W w' :=
  MotifsAbove_walk _ 3 [A, B, C] _ (BB.lit3 (x.block (blk_at rfl)) h0 h1 h2)
theorem made65 : madeCells #[Value.slice none 0 0] 65 = (List.replicate 65 (Value.slice none 0 0)).toArray := by
  apply Array.ext'
  rw [toList_madeCells_one]
theorem abo_65 {w0 : World} : Calls Try.prog 5 #[.slice (some ⟨w0.heap.size, 0, none⟩) 65 65] (w0.alloc (.cells (madeCells #[.slice none 0 0] 65) 24)) fun e w' => e = .returned (.bool true) ∧ Ext w0 w' :=
  (MotifsAbove_walk _ 65 _ _ (bb65 (by rw [made65]; exact blk_at rfl) (by omega))).mono fun e w' h => ⟨h.1, ((Ext.refl w0).alloc _).trans h.2⟩
theorem bes_65 {w0 : World} : Calls Try.prog 4 #[.slice (some ⟨w0.heap.size, 0, none⟩) 65 65] (w0.alloc (.cells (madeCells #[.slice none 0 0] 65) 24)) fun e w' => e = .returned (.bool true) ∧ Ext w0 w' :=
  (MotifsBeside_walk _ 65 _ _ (bb65 (by rw [made65]; exact blk_at rfl) (by omega))).mono fun e w' h => ⟨h.1, ((Ext.refl w0).alloc _).trans h.2⟩
set_option maxHeartbeats 16000000 in
theorem MotifsKnown_walk (w : World) : Calls Try.prog 10 #[] w fun e w' => e = .returned (.bool true) ∧ Ext w w' := by
  go_enter Try.func10, Try.ntmps10
  go_wp2
  go_loopw [1, 2, 3, 4, 5, 6] (fun kk i _ _ _ _ wr => ∃ (n : Nat) (K : Int), n ≤ 24 ∧ i = .int .i64 n ∧ kk = .int .i64 K ∧ (0 ≤ K ∧ K ≤ 100002) ∧ Hid (Ext w wr)) (fun _ i _ _ _ _ _ => 24 - (intOf i).toNat)
  case atStart => exact ⟨0, 1, by omega, rfl, rfl, by omega, Lib.hid (Ext.refl w)⟩
  case round =>
    obtain ⟨n, K, hn, rfl, rfl, ⟨k0, k1⟩, HX⟩ := hrel
    by_cases hlt : n < 24
    · have hlt' : (n : Int) < 24 := by omega
      have n5 : (n : Int) % 256 = n := by omega
      have n6 : IntKind.u8.wrap (n : Int) = n := IntWalk.u8_in _ ⟨by omega, by omega⟩
      obtain ⟨wo, rfl⟩ : ∃ wo : World, wo = wr := ⟨_, rfl⟩
      go_wp2
      obtain ⟨wx, hwx⟩ : ∃ wx, wx = wo.alloc (.cells #[.int .u8 0, .slice none 0 0, .int .u8 0, .slice none 0 0, .int .u8 0, .slice none 0 0] 61) := ⟨_, rfl⟩
      have hc3 : C3 wo wx wo.heap.size := by
        rw [hwx]
        exact ⟨(Ext.refl wo).alloc _, Nat.le_refl _, 0, _, [], 0, _, [], 0, _, [], blk_at rfl, ⟨.inl ⟨rfl, rfl⟩, .inl ⟨rfl, rfl⟩, .inl ⟨rfl, rfl⟩⟩, ⟨by omega, by omega, by omega⟩, fun k hk => by simp at hk, fun k hk => by simp at hk, fun k hk => by simp at hk⟩
      have HC := Lib.hid hc3
      rw [← hwx]
      obtain ⟨q, hq⟩ : ∃ q, q = wo.heap.size := ⟨_, rfl⟩
      rw [← hq] at HC ⊢
      clear hc3 hwx hq
      go_loopw [1, 4] (fun kk i ws => ∃ (j : Nat) (K : Int), j ≤ 3 ∧ i = .int .i64 j ∧ kk = .int .i64 K ∧ (0 ≤ K ∧ K ≤ 100002) ∧ Hid (C3 wo ws q)) (fun _ i _ => 3 - (intOf i).toNat)
      case atStart => exact ⟨0, K, by omega, rfl, rfl, ⟨k0, k1⟩, HC⟩
      case round =>
        obtain ⟨j, K, hj, rfl, rfl, ⟨k0, k1⟩, H⟩ := hrel
        by_cases hjl : j < 3
        · have hjl' : (j : Int) < 3 := by omega
          have w1 : IntKind.i64.wrap (K * 31) = K * 31 := IntWalk.i64_in _ ⟨by omega, by omega⟩
          have w2 : IntKind.i64.wrap (7 * (j : Int)) = 7 * (j : Int) := IntWalk.i64_in _ ⟨by omega, by omega⟩
          have w3 : IntKind.i64.wrap (K * 31 + 7 * (j : Int)) = K * 31 + 7 * (j : Int) := IntWalk.i64_in _ ⟨by omega, by omega⟩
          have w4 : IntKind.i64.wrap (K * 31 + 7 * (j : Int) + 11) = K * 31 + 7 * (j : Int) + 11 := IntWalk.i64_in _ ⟨by omega, by omega⟩
          have w5 : IntKind.i64.wrap ((K * 31 + 7 * (j : Int) + 11) % 100003) = (K * 31 + 7 * (j : Int) + 11) % 100003 := IntWalk.i64_in _ ⟨by omega, by omega⟩
          obtain ⟨b0, hb0⟩ : ∃ b, K % 256 = b := ⟨_, rfl⟩
          obtain ⟨b1, hb1⟩ : ∃ b, K / 3 % 256 = b := ⟨_, rfl⟩
          obtain ⟨b2, hb2⟩ : ∃ b, K / 7 % 256 = b := ⟨_, rfl⟩
          obtain ⟨b3, hb3⟩ : ∃ b, K / 5 % 256 = b := ⟨_, rfl⟩
          obtain ⟨b4, hb4⟩ : ∃ b, K / 11 % 256 = b := ⟨_, rfl⟩
          obtain ⟨b5, hb5⟩ : ∃ b, K / 2 % 256 = b := ⟨_, rfl⟩
          have B0 : 0 ≤ b0 ∧ b0 ≤ 255 := by omega
          have B1 : 0 ≤ b1 ∧ b1 ≤ 255 := by omega
          have B2' : 0 ≤ b2 ∧ b2 ≤ 255 := by omega
          have B3 : 0 ≤ b3 ∧ b3 ≤ 255 := by omega
          have B4 : 0 ≤ b4 ∧ b4 ≤ 255 := by omega
          have B5' : 0 ≤ b5 ∧ b5 ≤ 255 := by omega
          obtain ⟨V1, hV1⟩ : ∃ V1, V1 = wr.alloc (.cells #[.int .u8 b0, .int .u8 b1, .int .u8 b2] 5) := ⟨_, rfl⟩
          obtain ⟨V2, hV2⟩ : ∃ V2, V2 = V1.alloc (.cells #[.int .u8 b3, .int .u8 (n : Int)] 5) := ⟨_, rfl⟩
          obtain ⟨V3, hV3⟩ : ∃ V3, V3 = V2.alloc (.cells #[.int .u8 b4, .int .u8 b5, .int .u8 0, .int .u8 4] 5) := ⟨_, rfl⟩
          obtain ⟨V4, hV4⟩ : ∃ V4, V4 = V3.alloc (.cells #[.slice (some ⟨wr.heap.size, 0, none⟩) 3 3, .slice (some ⟨wr.heap.size + 1, 0, none⟩) 2 2, .slice (some ⟨wr.heap.size + 1 + 1, 0, none⟩) 4 4] 62) := ⟨_, rfl⟩
          have s1 : V1.heap.size = wr.heap.size + 1 := by rw [hV1]; simp
          have s2 : V2.heap.size = wr.heap.size + 1 + 1 := by rw [hV2]; simp [s1]
          have s3 : V3.heap.size = wr.heap.size + 1 + 1 + 1 := by rw [hV3]; simp [s2]
          have x1 : Ext wr V1 := by rw [hV1]; exact (Ext.refl wr).alloc _
          have x2 : Ext V1 V2 := by rw [hV2]; exact (Ext.refl V1).alloc _
          have x3 : Ext V2 V3 := by rw [hV3]; exact (Ext.refl V2).alloc _
          have x4 : Ext V3 V4 := by rw [hV4]; exact (Ext.refl V3).alloc _
          have h1 : V1.heap[wr.heap.size]? = some (Obj.cells #[.int .u8 b0, .int .u8 b1, .int .u8 b2] 5 (0, 0)) := by rw [hV1]; exact blk_at rfl
          have h2 : V2.heap[wr.heap.size + 1]? = some (Obj.cells #[.int .u8 b3, .int .u8 (n : Int)] 5 (0, 0)) := by rw [hV2]; exact blk_at s1.symm
          have h3 : V3.heap[wr.heap.size + 1 + 1]? = some (Obj.cells #[.int .u8 b4, .int .u8 b5, .int .u8 0, .int .u8 4] 5 (0, 0)) := by rw [hV3]; exact blk_at s2.symm
          have h4 : V4.heap[wr.heap.size + 1 + 1 + 1]? = some (Obj.cells #[.slice (some ⟨wr.heap.size, 0, none⟩) 3 3, .slice (some ⟨wr.heap.size + 1, 0, none⟩) 2 2, .slice (some ⟨wr.heap.size + 1 + 1, 0, none⟩) 4 4] 62 (0, 0)) := by rw [hV4]; exact blk_at s3.symm
          have hp3 : Q3 V4 (.slice (some ⟨wr.heap.size + 1 + 1 + 1, 0, none⟩) 3 3) [[b0, b1, b2], [b3, (n : Int)], [b4, b5, 0, 4]] :=
            .inr ⟨_, _, _, _, b0, b1, b2, b3, n, b4, b5, 0, 4, rfl, rfl, h4, (x2.trans (x3.trans x4)).block h1, (x3.trans x4).block h2, x4.block h3⟩
          have hbt : bt8 [[b0, b1, b2], [b3, (n : Int)], [b4, b5, 0, 4]] := bt8_lit fun x hx => by
            simp only [List.mem_cons, List.not_mem_nil, or_false] at hx
            rcases hx with rfl | rfl | rfl | rfl | rfl | rfl | rfl | rfl | rfl <;> omega
          have hC4 := H.out.ext (x1.trans (x2.trans (x3.trans x4)))
          have hCN := hC4.set (j := j) hjl B0 hp3 hbt
          obtain ⟨⟨v1, c1⟩, f1, ⟨v2, c2⟩, f2⟩ := hC4.ex (j := j) (v := .int .u8 b0) hjl
          obtain ⟨WN, hWN⟩ : ∃ WN, WN = (V4.setCell ⟨q, j * 2, none⟩ (.int .u8 b0)).setCell ⟨q, j * 2 + 1, none⟩ (.slice (some ⟨wr.heap.size + 1 + 1 + 1, 0, none⟩) 3 3) := ⟨_, rfl⟩
          rw [← hWN] at hCN
          have HN := Lib.hid hCN
          rw [hV4, hV3, hV2, hV1] at c1 f1 c2 f2 hWN
          have HWN := Lib.hid hWN
          clear hV1 hV2 hV3 hV4 s1 s2 s3 x1 x2 x3 x4 h1 h2 h3 h4 hp3 hbt hC4 hCN hWN B0 B1 B2' B3 B4 B5'
          go_wp2
          rw [← HWN.out]
          go_roundw
          case rel => exact ⟨j + 1, _, by omega, by go_num, rfl, by omega, HN⟩
          case measure => simp [intOf]; omega
        · obtain rfl : j = 3 := by omega
          have hjl' : ¬ ((3 : Nat) : Int) < 3 := by omega
          obtain ⟨e2, he2⟩ : ∃ e : Int, (n : Int) / 2 = e := ⟨_, rfl⟩
          obtain ⟨e3, he3⟩ : ∃ e : Int, (n : Int) / 3 = e := ⟨_, rfl⟩
          obtain ⟨e4, he4⟩ : ∃ e : Int, (n : Int) % 4 = e := ⟨_, rfl⟩
          have m2 : IntKind.i64.wrap e2 = e2 := IntWalk.i64_in _ ⟨by omega, by omega⟩
          have m3 : IntKind.i64.wrap e3 = e3 := IntWalk.i64_in _ ⟨by omega, by omega⟩
          have m4 : IntKind.i64.wrap e4 = e4 := IntWalk.i64_in _ ⟨by omega, by omega⟩
          have u2 : IntKind.u8.wrap e2 = e2 := IntWalk.u8_in _ ⟨by omega, by omega⟩
          have m7 : (n : Int).tmod 4 = e4 := by rw [Int.tmod_eq_emod_of_nonneg (by omega)]; exact he4
          have u3 : IntKind.u8.wrap e3 = e3 := IntWalk.u8_in _ ⟨by omega, by omega⟩
          have m2' : e2 % 256 = e2 := by omega
          have m3' : e3 % 256 = e3 := by omega
          have m5 : IntKind.i64.wrap ((n : Int) - 3) = (n : Int) - 3 := IntWalk.i64_in _ ⟨by omega, by omega⟩
          have m6 : IntKind.i64.wrap ((n : Int) - 2) = (n : Int) - 2 := IntWalk.i64_in _ ⟨by omega, by omega⟩
          have ne2 : 0 ≤ e2 ∧ e2 ≤ 255 := by omega
          have ne3 : 0 ≤ e3 ∧ e3 ≤ 255 := by omega
          have nn : 0 ≤ (n : Int) ∧ (n : Int) ≤ 255 := by omega
          obtain ⟨z1, z2, f0, u0, k0', f1, u1, k1', f2, u2, k2', hb, ⟨q0, q1, q2⟩, ⟨d0, d1, d2⟩, t0, t1, t2⟩ := H.out
          obtain ⟨a0, n0, c0, rfl, i0⟩ := q0.iss
          obtain ⟨a1, n1, c1, rfl, i1⟩ := q1.iss
          obtain ⟨a2, n2, c2, rfl, i2⟩ := q2.iss
          have XR := Lib.hid (HX.out.trans z1)
          have I0 := Lib.hid i0
          have I1 := Lib.hid i1
          have I2 := Lib.hid i2
          have A0 : Hid (wr.cell? ⟨q, 0, none⟩ = some (.int .u8 f0)) := Lib.hid (by simp [World.cell?, hb])
          have A1 : Hid (wr.cell? ⟨q, 1, none⟩ = some (.slice a0 n0 c0)) := Lib.hid (by simp [World.cell?, hb])
          have A2 : Hid (wr.cell? ⟨q, 2, none⟩ = some (.int .u8 f1)) := Lib.hid (by simp [World.cell?, hb])
          have A3 : Hid (wr.cell? ⟨q, 3, none⟩ = some (.slice a1 n1 c1)) := Lib.hid (by simp [World.cell?, hb])
          have A4 : Hid (wr.cell? ⟨q, 4, none⟩ = some (.int .u8 f2)) := Lib.hid (by simp [World.cell?, hb])
          have A5 : Hid (wr.cell? ⟨q, 5, none⟩ = some (.slice a2 n2 c2)) := Lib.hid (by simp [World.cell?, hb])
          have ND := Lib.hid (And.intro d0 (And.intro d1 d2)); have NT := Lib.hid (And.intro t0 (And.intro t1 t2)); have NE2 := Lib.hid ne2; have NE3 := Lib.hid ne3; have NN := Lib.hid nn
          clear z1 z2 hb q0 q1 q2 d0 d1 d2 t0 t1 t2 i0 i1 i2 ne2 ne3 nn H HX
          have z0 := A0.out
          have z1 := A1.out
          have z2 := A2.out
          have z3 := A3.out
          have z4 := A4.out
          have z5 := A5.out
          obtain ⟨Wx, hW⟩ : ∃ Wx, Wx = wr.alloc (.cells #[.int .u8 (n : Int), .int .u8 e2, .int .u8 f0, .slice a0 n0 c0, .int .u8 f1, .slice a1 n1 c1, .int .u8 f2, .slice a2 n2 c2] 48) := ⟨_, rfl⟩
          have xa : Ext wr Wx := by rw [hW]; exact (Ext.refl wr).alloc _
          have hba : Wx.heap[wr.heap.size]? = some (Obj.cells #[.int .u8 (n : Int), .int .u8 e2, .int .u8 f0, .slice a0 n0 c0, .int .u8 f1, .slice a1 n1 c1, .int .u8 f2, .slice a2 n2 c2] 48 (0, 0)) := by rw [hW]; exact blk_at rfl
          replace A0 := Lib.hid (xa.cell A0.out)
          replace A1 := Lib.hid (xa.cell A1.out)
          replace A2 := Lib.hid (xa.cell A2.out)
          replace A3 := Lib.hid (xa.cell A3.out)
          replace A4 := Lib.hid (xa.cell A4.out)
          replace A5 := Lib.hid (xa.cell A5.out)
          replace I0 := Lib.hid (I0.out.ext xa)
          replace I1 := Lib.hid (I1.out.ext xa)
          replace I2 := Lib.hid (I2.out.ext xa)
          have X_1 := Lib.hid (XR.out.trans xa)
          clear XR
          have P0 : Hid (Wx.cell? ⟨wr.heap.size, 0, none⟩ = some (.int .u8 (n : Int))) := Lib.hid (by simp [World.cell?, hba])
          have P1 : Hid (Wx.cell? ⟨wr.heap.size, 1, none⟩ = some (.int .u8 e2)) := Lib.hid (by simp [World.cell?, hba])
          have P2 : Hid (Wx.cell? ⟨wr.heap.size, 2, none⟩ = some (.int .u8 f0)) := Lib.hid (by simp [World.cell?, hba])
          have P3 : Hid (Wx.cell? ⟨wr.heap.size, 3, none⟩ = some (.slice a0 n0 c0)) := Lib.hid (by simp [World.cell?, hba])
          have P4 : Hid (Wx.cell? ⟨wr.heap.size, 4, none⟩ = some (.int .u8 f1)) := Lib.hid (by simp [World.cell?, hba])
          have P5 : Hid (Wx.cell? ⟨wr.heap.size, 5, none⟩ = some (.slice a1 n1 c1)) := Lib.hid (by simp [World.cell?, hba])
          have P6 : Hid (Wx.cell? ⟨wr.heap.size, 6, none⟩ = some (.int .u8 f2)) := Lib.hid (by simp [World.cell?, hba])
          have P7 : Hid (Wx.cell? ⟨wr.heap.size, 7, none⟩ = some (.slice a2 n2 c2)) := Lib.hid (by simp [World.cell?, hba])
          have ZWx : Hid (wr.heap.size + 1 = Wx.heap.size) := Lib.hid (by rw [hW]; simp)
          have HWx := Lib.hid hW
          clear hW xa hba
          have y0 := A0.out
          rw [HWx.out] at y0
          have y1 := A1.out
          rw [HWx.out] at y1
          have y2 := A2.out
          rw [HWx.out] at y2
          have y3 := A3.out
          rw [HWx.out] at y3
          have y4 := A4.out
          rw [HWx.out] at y4
          have y5 := A5.out
          rw [HWx.out] at y5
          obtain ⟨Wy, hW⟩ : ∃ Wy, Wy = Wx.alloc (.cells #[.int .u8 (n : Int), .int .u8 3, .int .u8 f2, .slice a2 n2 c2, .int .u8 f0, .slice a0 n0 c0, .int .u8 f1, .slice a1 n1 c1] 48) := ⟨_, rfl⟩
          have xa : Ext Wx Wy := by rw [hW]; exact (Ext.refl Wx).alloc _
          have hba : Wy.heap[Wx.heap.size]? = some (Obj.cells #[.int .u8 (n : Int), .int .u8 3, .int .u8 f2, .slice a2 n2 c2, .int .u8 f0, .slice a0 n0 c0, .int .u8 f1, .slice a1 n1 c1] 48 (0, 0)) := by rw [hW]; exact blk_at rfl
          replace A0 := Lib.hid (xa.cell A0.out)
          replace A1 := Lib.hid (xa.cell A1.out)
          replace A2 := Lib.hid (xa.cell A2.out)
          replace A3 := Lib.hid (xa.cell A3.out)
          replace A4 := Lib.hid (xa.cell A4.out)
          replace A5 := Lib.hid (xa.cell A5.out)
          replace I0 := Lib.hid (I0.out.ext xa)
          replace I1 := Lib.hid (I1.out.ext xa)
          replace I2 := Lib.hid (I2.out.ext xa)
          replace P0 := Lib.hid (xa.cell P0.out)
          replace P1 := Lib.hid (xa.cell P1.out)
          replace P2 := Lib.hid (xa.cell P2.out)
          replace P3 := Lib.hid (xa.cell P3.out)
          replace P4 := Lib.hid (xa.cell P4.out)
          replace P5 := Lib.hid (xa.cell P5.out)
          replace P6 := Lib.hid (xa.cell P6.out)
          replace P7 := Lib.hid (xa.cell P7.out)
          have X_2 := Lib.hid (X_1.out.trans xa)
          clear X_1
          have Q0 : Hid (Wy.cell? ⟨Wx.heap.size, 0, none⟩ = some (.int .u8 (n : Int))) := Lib.hid (by simp [World.cell?, hba])
          have Q1 : Hid (Wy.cell? ⟨Wx.heap.size, 1, none⟩ = some (.int .u8 3)) := Lib.hid (by simp [World.cell?, hba])
          have Q2 : Hid (Wy.cell? ⟨Wx.heap.size, 2, none⟩ = some (.int .u8 f2)) := Lib.hid (by simp [World.cell?, hba])
          have Q3 : Hid (Wy.cell? ⟨Wx.heap.size, 3, none⟩ = some (.slice a2 n2 c2)) := Lib.hid (by simp [World.cell?, hba])
          have Q4 : Hid (Wy.cell? ⟨Wx.heap.size, 4, none⟩ = some (.int .u8 f0)) := Lib.hid (by simp [World.cell?, hba])
          have Q5 : Hid (Wy.cell? ⟨Wx.heap.size, 5, none⟩ = some (.slice a0 n0 c0)) := Lib.hid (by simp [World.cell?, hba])
          have Q6 : Hid (Wy.cell? ⟨Wx.heap.size, 6, none⟩ = some (.int .u8 f1)) := Lib.hid (by simp [World.cell?, hba])
          have Q7 : Hid (Wy.cell? ⟨Wx.heap.size, 7, none⟩ = some (.slice a1 n1 c1)) := Lib.hid (by simp [World.cell?, hba])
          have ZWy : Hid (Wx.heap.size + 1 = Wy.heap.size) := Lib.hid (by rw [hW]; simp)
          have HWy := Lib.hid hW
          clear hW xa hba
          go_wp2_with fail
          rw [← HWx.out, ← HWy.out]
          clear z0 z1 z2 z3 z4 z5 y0 y1 y2 y3 y4 y5
          have hsx : Wx.heap.size = wr.heap.size + 1 := ZWx.out.symm
          have q0_1 := P0.out
          have q0_2 := P1.out
          have q0_3 := P2.out
          have q0_4 := P3.out
          have q0_5 := P4.out
          have q0_6 := P5.out
          have q0_7 := P6.out
          have q0_8 := P7.out
          have q0_9 := Q0.out
          rw [hsx] at q0_9
          have q0_10 := Q1.out
          rw [hsx] at q0_10
          have q0_11 := Q2.out
          rw [hsx] at q0_11
          have q0_12 := Q3.out
          rw [hsx] at q0_12
          have q0_13 := Q4.out
          rw [hsx] at q0_13
          have q0_14 := Q5.out
          rw [hsx] at q0_14
          have q0_15 := Q6.out
          rw [hsx] at q0_15
          have q0_16 := Q7.out
          rw [hsx] at q0_16
          clear hsx P0 P1 P2 P3 P4 P5 P6 P7 Q0 Q1 Q2 Q3 Q4 Q5 Q6 Q7 A0 A1 A2 A3 A4 A5
          refine wp_region_held_drew (S := fun w' => w'.cell? ⟨wr.heap.size, 0, Option.none⟩ = some (.int .u8 (n : Int)) ∧ w'.cell? ⟨wr.heap.size, 1, Option.none⟩ = some (.int .u8 e2) ∧ w'.cell? ⟨wr.heap.size, 2, Option.none⟩ = some (.int .u8 f0) ∧ w'.cell? ⟨wr.heap.size, 3, Option.none⟩ = some (.slice a0 n0 c0) ∧ w'.cell? ⟨wr.heap.size, 4, Option.none⟩ = some (.int .u8 f1) ∧ w'.cell? ⟨wr.heap.size, 5, Option.none⟩ = some (.slice a1 n1 c1) ∧ w'.cell? ⟨wr.heap.size, 6, Option.none⟩ = some (.int .u8 f2) ∧ w'.cell? ⟨wr.heap.size, 7, Option.none⟩ = some (.slice a2 n2 c2) ∧ w'.cell? ⟨wr.heap.size + 1, 0, Option.none⟩ = some (.int .u8 (n : Int)) ∧ w'.cell? ⟨wr.heap.size + 1, 1, Option.none⟩ = some (.int .u8 3) ∧ w'.cell? ⟨wr.heap.size + 1, 2, Option.none⟩ = some (.int .u8 f2) ∧ w'.cell? ⟨wr.heap.size + 1, 3, Option.none⟩ = some (.slice a2 n2 c2) ∧ w'.cell? ⟨wr.heap.size + 1, 4, Option.none⟩ = some (.int .u8 f0) ∧ w'.cell? ⟨wr.heap.size + 1, 5, Option.none⟩ = some (.slice a0 n0 c0) ∧ w'.cell? ⟨wr.heap.size + 1, 6, Option.none⟩ = some (.int .u8 f1) ∧ w'.cell? ⟨wr.heap.size + 1, 7, Option.none⟩ = some (.slice a1 n1 c1)) (by kernel_rfl) ?_ (fun hHeld => ?_)
          · exact ⟨q0_1, q0_2, q0_3, q0_4, q0_5, q0_6, q0_7, q0_8, q0_9, q0_10, q0_11, q0_12, q0_13, q0_14, q0_15, q0_16⟩
          refine wpAnyH_take (i := 0) (v := ?va330_0) rfl (by kernel_rfl) (by kernel_rfl) (by kernel_rfl) (fun _ _ _ h => h) (Or.inl ⟨by rfl, fun w hSw => ?ti330_0⟩) (by assumption) ?rest330_0
          case ti330_0 => ((try dsimp only at hSw); go_simp; (first | done | with_reducible rfl))
          try simp only [Act.put, List.getElem_toArray, List.getElem_cons_zero, List.getElem_cons_succ, List.setIfInBounds_toArray, List.set_cons_zero, List.set_cons_succ]
          refine wpAnyH_take (i := 1) (v := ?va333_1) rfl (by kernel_rfl) (by kernel_rfl) (by kernel_rfl) (fun _ _ _ h => h) (Or.inl ⟨by rfl, fun w hSw => ?ti333_1⟩) (by assumption) ?rest333_1
          case ti333_1 => ((try dsimp only at hSw); go_simp; (first | done | with_reducible rfl))
          try simp only [Act.put, List.getElem_toArray, List.getElem_cons_zero, List.getElem_cons_succ, List.setIfInBounds_toArray, List.set_cons_zero, List.set_cons_succ]
          refine wpAnyH_take (i := 2) (v := ?va336_2) rfl (by kernel_rfl) (by kernel_rfl) (by kernel_rfl) (fun _ _ _ h => h) (Or.inl ⟨by rfl, fun w hSw => ?ti336_2⟩) (by assumption) ?rest336_2
          case ti336_2 => ((try dsimp only at hSw); go_simp; (first | done | with_reducible rfl))
          try simp only [Act.put, List.getElem_toArray, List.getElem_cons_zero, List.getElem_cons_succ, List.setIfInBounds_toArray, List.set_cons_zero, List.set_cons_succ]
          refine wpAnyH_take (i := 3) (v := ?va339_3) rfl (by kernel_rfl) (by kernel_rfl) (by kernel_rfl) (fun _ _ _ h => h) (Or.inl ⟨by rfl, fun w hSw => ?ti339_3⟩) (by assumption) ?rest339_3
          case ti339_3 => ((try dsimp only at hSw); go_simp; (first | done | with_reducible rfl))
          try simp only [Act.put, List.getElem_toArray, List.getElem_cons_zero, List.getElem_cons_succ, List.setIfInBounds_toArray, List.set_cons_zero, List.set_cons_succ]
          refine wpAnyH_take (i := 4) (v := ?va342_4) rfl (by kernel_rfl) (by kernel_rfl) (by kernel_rfl) (fun _ _ _ h => h) (Or.inl ⟨by rfl, fun w hSw => ?ti342_4⟩) (by assumption) ?rest342_4
          case ti342_4 => ((try dsimp only at hSw); go_simp; (first | done | with_reducible rfl))
          try simp only [Act.put, List.getElem_toArray, List.getElem_cons_zero, List.getElem_cons_succ, List.setIfInBounds_toArray, List.set_cons_zero, List.set_cons_succ]
          refine wpAnyH_take (i := 5) (v := ?va345_5) rfl (by kernel_rfl) (by kernel_rfl) (by kernel_rfl) (fun _ _ _ h => h) (Or.inl ⟨by rfl, fun w hSw => ?ti345_5⟩) (by assumption) ?rest345_5
          case ti345_5 => ((try dsimp only at hSw); go_simp; (first | done | with_reducible rfl))
          try simp only [Act.put, List.getElem_toArray, List.getElem_cons_zero, List.getElem_cons_succ, List.setIfInBounds_toArray, List.set_cons_zero, List.set_cons_succ]
          refine wpAnyH_ready (rs := [6]) (by kernel_rfl) (by simp) ?_
          refine AllReadyH.cons rfl (fun K hK => ?_) AllReadyH.nil
          go_simp
          refine (MotifsTile_walk n e2 f0 f1 f2 n e3 _ _ _ c0 c1 c2 k0' k1' k2' _ NN.out NE2.out (I0.out.ext ?_) (I1.out.ext ?_) (I2.out.ext ?_) ND.out.1 ND.out.2.1 ND.out.2.2 NT.out.1 NT.out.2.1 NT.out.2.2 NN.out NE3.out).mono ?_
          · (repeat (first | (with_reducible exact Ext.refl _) | (with_reducible apply Ext.drew) | (with_reducible apply Ext.drewN) | (with_reducible apply Ext.alloc)))
          · (repeat (first | (with_reducible exact Ext.refl _) | (with_reducible apply Ext.drew) | (with_reducible apply Ext.drewN) | (with_reducible apply Ext.alloc)))
          · (repeat (first | (with_reducible exact Ext.refl _) | (with_reducible apply Ext.drew) | (with_reducible apply Ext.drewN) | (with_reducible apply Ext.alloc)))
          intro e y1 hh
          obtain ⟨rfl, x⟩ := hh
          have Y1 : Hid (Ext Wy y1) := Lib.hid (Ext.trans (by (repeat (first | (with_reducible exact Ext.refl _) | (with_reducible apply Ext.drew) | (with_reducible apply Ext.drewN) | (with_reducible apply Ext.alloc)))) x)
          have q1_1 := Y1.out.cell q0_1
          have q1_2 := Y1.out.cell q0_2
          have q1_3 := Y1.out.cell q0_3
          have q1_4 := Y1.out.cell q0_4
          have q1_5 := Y1.out.cell q0_5
          have q1_6 := Y1.out.cell q0_6
          have q1_7 := Y1.out.cell q0_7
          have q1_8 := Y1.out.cell q0_8
          have q1_9 := Y1.out.cell q0_9
          have q1_10 := Y1.out.cell q0_10
          have q1_11 := Y1.out.cell q0_11
          have q1_12 := Y1.out.cell q0_12
          have q1_13 := Y1.out.cell q0_13
          have q1_14 := Y1.out.cell q0_14
          have q1_15 := Y1.out.cell q0_15
          have q1_16 := Y1.out.cell q0_16
          go_simp
          refine hK.out _ _ ?_ (fun hHeld => ?_)
          · exact ⟨q1_1, q1_2, q1_3, q1_4, q1_5, q1_6, q1_7, q1_8, q1_9, q1_10, q1_11, q1_12, q1_13, q1_14, q1_15, q1_16⟩
          clear hK K x
          try simp only [Act.put, List.getElem_toArray, List.getElem_cons_zero, List.getElem_cons_succ, List.setIfInBounds_toArray, List.set_cons_zero, List.set_cons_succ]
          refine wpAnyH_take (i := 7) (v := ?va379_7) rfl (by kernel_rfl) (by kernel_rfl) (by kernel_rfl) (fun _ _ _ h => h) (Or.inl ⟨by rfl, fun w hSw => ?ti379_7⟩) (by assumption) ?rest379_7
          case ti379_7 => ((try dsimp only at hSw); go_simp; (first | done | with_reducible rfl))
          try simp only [Act.put, List.getElem_toArray, List.getElem_cons_zero, List.getElem_cons_succ, List.setIfInBounds_toArray, List.set_cons_zero, List.set_cons_succ]
          refine wpAnyH_take (i := 8) (v := ?va382_8) rfl (by kernel_rfl) (by kernel_rfl) (by kernel_rfl) (fun _ _ _ h => h) (Or.inl ⟨by rfl, fun w hSw => ?ti382_8⟩) (by assumption) ?rest382_8
          case ti382_8 => ((try dsimp only at hSw); go_simp; (first | done | with_reducible rfl))
          try simp only [Act.put, List.getElem_toArray, List.getElem_cons_zero, List.getElem_cons_succ, List.setIfInBounds_toArray, List.set_cons_zero, List.set_cons_succ]
          refine wpAnyH_take (i := 9) (v := ?va385_9) rfl (by kernel_rfl) (by kernel_rfl) (by kernel_rfl) (fun _ _ _ h => h) (Or.inl ⟨by rfl, fun w hSw => ?ti385_9⟩) (by assumption) ?rest385_9
          case ti385_9 => ((try dsimp only at hSw); go_simp; (first | done | with_reducible rfl))
          try simp only [Act.put, List.getElem_toArray, List.getElem_cons_zero, List.getElem_cons_succ, List.setIfInBounds_toArray, List.set_cons_zero, List.set_cons_succ]
          refine wpAnyH_take (i := 10) (v := ?va388_10) rfl (by kernel_rfl) (by kernel_rfl) (by kernel_rfl) (fun _ _ _ h => h) (Or.inl ⟨by rfl, fun w hSw => ?ti388_10⟩) (by assumption) ?rest388_10
          case ti388_10 => ((try dsimp only at hSw); go_simp; (first | done | with_reducible rfl))
          try simp only [Act.put, List.getElem_toArray, List.getElem_cons_zero, List.getElem_cons_succ, List.setIfInBounds_toArray, List.set_cons_zero, List.set_cons_succ]
          refine wpAnyH_take (i := 11) (v := ?va391_11) rfl (by kernel_rfl) (by kernel_rfl) (by kernel_rfl) (fun _ _ _ h => h) (Or.inl ⟨by rfl, fun w hSw => ?ti391_11⟩) (by assumption) ?rest391_11
          case ti391_11 => ((try dsimp only at hSw); go_simp; (first | done | with_reducible rfl))
          try simp only [Act.put, List.getElem_toArray, List.getElem_cons_zero, List.getElem_cons_succ, List.setIfInBounds_toArray, List.set_cons_zero, List.set_cons_succ]
          refine wpAnyH_ready (rs := [12]) (by kernel_rfl) (by simp) ?_
          refine AllReadyH.cons rfl (fun K hK => ?_) AllReadyH.nil
          go_simp
          refine (MotifsFit_walk n e2 f0 f1 f2 ((n : Int) - 3) _ _ _ c0 c1 c2 k0' k1' k2' _ NN.out NE2.out (I0.out.ext ?_) (I1.out.ext ?_) (I2.out.ext ?_) ND.out.1 ND.out.2.1 ND.out.2.2 NT.out.1 NT.out.2.1 NT.out.2.2).mono ?_
          · (refine Ext.trans Y1.out ?_; (repeat (first | (with_reducible exact Ext.refl _) | (with_reducible apply Ext.drew) | (with_reducible apply Ext.drewN) | (with_reducible apply Ext.alloc))))
          · (refine Ext.trans Y1.out ?_; (repeat (first | (with_reducible exact Ext.refl _) | (with_reducible apply Ext.drew) | (with_reducible apply Ext.drewN) | (with_reducible apply Ext.alloc))))
          · (refine Ext.trans Y1.out ?_; (repeat (first | (with_reducible exact Ext.refl _) | (with_reducible apply Ext.drew) | (with_reducible apply Ext.drewN) | (with_reducible apply Ext.alloc))))
          intro e y2 hh
          obtain ⟨rfl, x⟩ := hh
          have Y2 : Hid (Ext Wy y2) := Lib.hid (Ext.trans Y1.out (Ext.trans (by (repeat (first | (with_reducible exact Ext.refl _) | (with_reducible apply Ext.drew) | (with_reducible apply Ext.drewN) | (with_reducible apply Ext.alloc)))) x))
          have q2_1 := Y2.out.cell q0_1
          have q2_2 := Y2.out.cell q0_2
          have q2_3 := Y2.out.cell q0_3
          have q2_4 := Y2.out.cell q0_4
          have q2_5 := Y2.out.cell q0_5
          have q2_6 := Y2.out.cell q0_6
          have q2_7 := Y2.out.cell q0_7
          have q2_8 := Y2.out.cell q0_8
          have q2_9 := Y2.out.cell q0_9
          have q2_10 := Y2.out.cell q0_10
          have q2_11 := Y2.out.cell q0_11
          have q2_12 := Y2.out.cell q0_12
          have q2_13 := Y2.out.cell q0_13
          have q2_14 := Y2.out.cell q0_14
          have q2_15 := Y2.out.cell q0_15
          have q2_16 := Y2.out.cell q0_16
          go_simp
          refine hK.out _ _ ?_ (fun hHeld => ?_)
          · exact ⟨q2_1, q2_2, q2_3, q2_4, q2_5, q2_6, q2_7, q2_8, q2_9, q2_10, q2_11, q2_12, q2_13, q2_14, q2_15, q2_16⟩
          clear hK K x
          try simp only [Act.put, List.getElem_toArray, List.getElem_cons_zero, List.getElem_cons_succ, List.setIfInBounds_toArray, List.set_cons_zero, List.set_cons_succ]
          refine wpAnyH_take (i := 13) (v := ?va425_13) rfl (by kernel_rfl) (by kernel_rfl) (by kernel_rfl) (fun _ _ _ h => h) (Or.inl ⟨by rfl, fun w hSw => ?ti425_13⟩) (by assumption) ?rest425_13
          case ti425_13 => ((try dsimp only at hSw); go_simp; (first | done | with_reducible rfl))
          try simp only [Act.put, List.getElem_toArray, List.getElem_cons_zero, List.getElem_cons_succ, List.setIfInBounds_toArray, List.set_cons_zero, List.set_cons_succ]
          refine wpAnyH_take (i := 14) (v := ?va428_14) rfl (by kernel_rfl) (by kernel_rfl) (by kernel_rfl) (fun _ _ _ h => h) (Or.inl ⟨by rfl, fun w hSw => ?ti428_14⟩) (by assumption) ?rest428_14
          case ti428_14 => ((try dsimp only at hSw); go_simp; (first | done | with_reducible rfl))
          try simp only [Act.put, List.getElem_toArray, List.getElem_cons_zero, List.getElem_cons_succ, List.setIfInBounds_toArray, List.set_cons_zero, List.set_cons_succ]
          refine wpAnyH_take (i := 15) (v := ?va431_15) rfl (by kernel_rfl) (by kernel_rfl) (by kernel_rfl) (fun _ _ _ h => h) (Or.inl ⟨by rfl, fun w hSw => ?ti431_15⟩) (by assumption) ?rest431_15
          case ti431_15 => ((try dsimp only at hSw); go_simp; (first | done | with_reducible rfl))
          try simp only [Act.put, List.getElem_toArray, List.getElem_cons_zero, List.getElem_cons_succ, List.setIfInBounds_toArray, List.set_cons_zero, List.set_cons_succ]
          refine wpAnyH_take (i := 16) (v := ?va434_16) rfl (by kernel_rfl) (by kernel_rfl) (by kernel_rfl) (fun _ _ _ h => h) (Or.inl ⟨by rfl, fun w hSw => ?ti434_16⟩) (by assumption) ?rest434_16
          case ti434_16 => ((try dsimp only at hSw); go_simp; (first | done | with_reducible rfl))
          try simp only [Act.put, List.getElem_toArray, List.getElem_cons_zero, List.getElem_cons_succ, List.setIfInBounds_toArray, List.set_cons_zero, List.set_cons_succ]
          refine wpAnyH_take (i := 17) (v := ?va437_17) rfl (by kernel_rfl) (by kernel_rfl) (by kernel_rfl) (fun _ _ _ h => h) (Or.inl ⟨by rfl, fun w hSw => ?ti437_17⟩) (by assumption) ?rest437_17
          case ti437_17 => ((try dsimp only at hSw); go_simp; (first | done | with_reducible rfl))
          try simp only [Act.put, List.getElem_toArray, List.getElem_cons_zero, List.getElem_cons_succ, List.setIfInBounds_toArray, List.set_cons_zero, List.set_cons_succ]
          refine wpAnyH_take (i := 18) (v := ?va440_18) rfl (by kernel_rfl) (by kernel_rfl) (by kernel_rfl) (fun _ _ _ h => h) (Or.inl ⟨by rfl, fun w hSw => ?ti440_18⟩) (by assumption) ?rest440_18
          case ti440_18 => ((try dsimp only at hSw); go_simp; (first | done | with_reducible rfl))
          try simp only [Act.put, List.getElem_toArray, List.getElem_cons_zero, List.getElem_cons_succ, List.setIfInBounds_toArray, List.set_cons_zero, List.set_cons_succ]
          refine wpAnyH_ready (rs := [19]) (by kernel_rfl) (by simp) ?_
          refine AllReadyH.cons rfl (fun K hK => ?_) AllReadyH.nil
          go_simp
          refine (MotifsMirror_walk n e2 f0 f1 f2 n _ _ _ c0 c1 c2 k0' k1' k2' _ NN.out NE2.out (I0.out.ext ?_) (I1.out.ext ?_) (I2.out.ext ?_) ND.out.1 ND.out.2.1 ND.out.2.2 NT.out.1 NT.out.2.1 NT.out.2.2 NN.out).mono ?_
          · (refine Ext.trans Y2.out ?_; (repeat (first | (with_reducible exact Ext.refl _) | (with_reducible apply Ext.drew) | (with_reducible apply Ext.drewN) | (with_reducible apply Ext.alloc))))
          · (refine Ext.trans Y2.out ?_; (repeat (first | (with_reducible exact Ext.refl _) | (with_reducible apply Ext.drew) | (with_reducible apply Ext.drewN) | (with_reducible apply Ext.alloc))))
          · (refine Ext.trans Y2.out ?_; (repeat (first | (with_reducible exact Ext.refl _) | (with_reducible apply Ext.drew) | (with_reducible apply Ext.drewN) | (with_reducible apply Ext.alloc))))
          intro e y3 hh
          obtain ⟨rfl, x⟩ := hh
          have Y3 : Hid (Ext Wy y3) := Lib.hid (Ext.trans Y2.out (Ext.trans (by (repeat (first | (with_reducible exact Ext.refl _) | (with_reducible apply Ext.drew) | (with_reducible apply Ext.drewN) | (with_reducible apply Ext.alloc)))) x))
          have q3_1 := Y3.out.cell q0_1
          have q3_2 := Y3.out.cell q0_2
          have q3_3 := Y3.out.cell q0_3
          have q3_4 := Y3.out.cell q0_4
          have q3_5 := Y3.out.cell q0_5
          have q3_6 := Y3.out.cell q0_6
          have q3_7 := Y3.out.cell q0_7
          have q3_8 := Y3.out.cell q0_8
          have q3_9 := Y3.out.cell q0_9
          have q3_10 := Y3.out.cell q0_10
          have q3_11 := Y3.out.cell q0_11
          have q3_12 := Y3.out.cell q0_12
          have q3_13 := Y3.out.cell q0_13
          have q3_14 := Y3.out.cell q0_14
          have q3_15 := Y3.out.cell q0_15
          have q3_16 := Y3.out.cell q0_16
          go_simp
          refine hK.out _ _ ?_ (fun hHeld => ?_)
          · exact ⟨q3_1, q3_2, q3_3, q3_4, q3_5, q3_6, q3_7, q3_8, q3_9, q3_10, q3_11, q3_12, q3_13, q3_14, q3_15, q3_16⟩
          clear hK K x
          try simp only [Act.put, List.getElem_toArray, List.getElem_cons_zero, List.getElem_cons_succ, List.setIfInBounds_toArray, List.set_cons_zero, List.set_cons_succ]
          refine wpAnyH_take (i := 20) (v := ?va474_20) rfl (by kernel_rfl) (by kernel_rfl) (by kernel_rfl) (fun _ _ _ h => h) (Or.inl ⟨by rfl, fun w hSw => ?ti474_20⟩) (by assumption) ?rest474_20
          case ti474_20 => ((try dsimp only at hSw); go_simp; (first | done | with_reducible rfl))
          try simp only [Act.put, List.getElem_toArray, List.getElem_cons_zero, List.getElem_cons_succ, List.setIfInBounds_toArray, List.set_cons_zero, List.set_cons_succ]
          refine wpAnyH_take (i := 21) (v := ?va477_21) rfl (by kernel_rfl) (by kernel_rfl) (by kernel_rfl) (fun _ _ _ h => h) (Or.inl ⟨by rfl, fun w hSw => ?ti477_21⟩) (by assumption) ?rest477_21
          case ti477_21 => ((try dsimp only at hSw); go_simp; (first | done | with_reducible rfl))
          try simp only [Act.put, List.getElem_toArray, List.getElem_cons_zero, List.getElem_cons_succ, List.setIfInBounds_toArray, List.set_cons_zero, List.set_cons_succ]
          refine wpAnyH_take (i := 22) (v := ?va480_22) rfl (by kernel_rfl) (by kernel_rfl) (by kernel_rfl) (fun _ _ _ h => h) (Or.inl ⟨by rfl, fun w hSw => ?ti480_22⟩) (by assumption) ?rest480_22
          case ti480_22 => ((try dsimp only at hSw); go_simp; (first | done | with_reducible rfl))
          try simp only [Act.put, List.getElem_toArray, List.getElem_cons_zero, List.getElem_cons_succ, List.setIfInBounds_toArray, List.set_cons_zero, List.set_cons_succ]
          refine wpAnyH_take (i := 23) (v := ?va483_23) rfl (by kernel_rfl) (by kernel_rfl) (by kernel_rfl) (fun _ _ _ h => h) (Or.inl ⟨by rfl, fun w hSw => ?ti483_23⟩) (by assumption) ?rest483_23
          case ti483_23 => ((try dsimp only at hSw); go_simp; (first | done | with_reducible rfl))
          try simp only [Act.put, List.getElem_toArray, List.getElem_cons_zero, List.getElem_cons_succ, List.setIfInBounds_toArray, List.set_cons_zero, List.set_cons_succ]
          refine wpAnyH_take (i := 24) (v := ?va486_24) rfl (by kernel_rfl) (by kernel_rfl) (by kernel_rfl) (fun _ _ _ h => h) (Or.inl ⟨by rfl, fun w hSw => ?ti486_24⟩) (by assumption) ?rest486_24
          case ti486_24 => ((try dsimp only at hSw); go_simp; (first | done | with_reducible rfl))
          try simp only [Act.put, List.getElem_toArray, List.getElem_cons_zero, List.getElem_cons_succ, List.setIfInBounds_toArray, List.set_cons_zero, List.set_cons_succ]
          refine wpAnyH_ready (rs := [25]) (by kernel_rfl) (by simp) ?_
          refine AllReadyH.cons rfl (fun K hK => ?_) AllReadyH.nil
          go_simp
          refine (MotifsAssociate_walk n e2 f0 f1 f2 _ _ _ c0 c1 c2 k0' k1' k2' n 3 f2 f0 f1 _ _ _ c2 c0 c1 k2' k0' k1' _ NN.out (I0.out.ext ?_) (I1.out.ext ?_) (I2.out.ext ?_) ND.out.1 ND.out.2.1 ND.out.2.2 NT.out.1 NT.out.2.1 NT.out.2.2 (I2.out.ext ?_) (I0.out.ext ?_) (I1.out.ext ?_) ND.out.2.2 ND.out.1 ND.out.2.1 NT.out.2.2 NT.out.1 NT.out.2.1).mono ?_
          · (refine Ext.trans Y3.out ?_; (repeat (first | (with_reducible exact Ext.refl _) | (with_reducible apply Ext.drew) | (with_reducible apply Ext.drewN) | (with_reducible apply Ext.alloc))))
          · (refine Ext.trans Y3.out ?_; (repeat (first | (with_reducible exact Ext.refl _) | (with_reducible apply Ext.drew) | (with_reducible apply Ext.drewN) | (with_reducible apply Ext.alloc))))
          · (refine Ext.trans Y3.out ?_; (repeat (first | (with_reducible exact Ext.refl _) | (with_reducible apply Ext.drew) | (with_reducible apply Ext.drewN) | (with_reducible apply Ext.alloc))))
          · (refine Ext.trans Y3.out ?_; (repeat (first | (with_reducible exact Ext.refl _) | (with_reducible apply Ext.drew) | (with_reducible apply Ext.drewN) | (with_reducible apply Ext.alloc))))
          · (refine Ext.trans Y3.out ?_; (repeat (first | (with_reducible exact Ext.refl _) | (with_reducible apply Ext.drew) | (with_reducible apply Ext.drewN) | (with_reducible apply Ext.alloc))))
          · (refine Ext.trans Y3.out ?_; (repeat (first | (with_reducible exact Ext.refl _) | (with_reducible apply Ext.drew) | (with_reducible apply Ext.drewN) | (with_reducible apply Ext.alloc))))
          intro e y4 hh
          obtain ⟨rfl, x⟩ := hh
          have Y4 : Hid (Ext Wy y4) := Lib.hid (Ext.trans Y3.out (Ext.trans (by (repeat (first | (with_reducible exact Ext.refl _) | (with_reducible apply Ext.drew) | (with_reducible apply Ext.drewN) | (with_reducible apply Ext.alloc)))) x))
          have q4_1 := Y4.out.cell q0_1
          have q4_2 := Y4.out.cell q0_2
          have q4_3 := Y4.out.cell q0_3
          have q4_4 := Y4.out.cell q0_4
          have q4_5 := Y4.out.cell q0_5
          have q4_6 := Y4.out.cell q0_6
          have q4_7 := Y4.out.cell q0_7
          have q4_8 := Y4.out.cell q0_8
          have q4_9 := Y4.out.cell q0_9
          have q4_10 := Y4.out.cell q0_10
          have q4_11 := Y4.out.cell q0_11
          have q4_12 := Y4.out.cell q0_12
          have q4_13 := Y4.out.cell q0_13
          have q4_14 := Y4.out.cell q0_14
          have q4_15 := Y4.out.cell q0_15
          have q4_16 := Y4.out.cell q0_16
          go_simp
          refine hK.out _ _ ?_ (fun hHeld => ?_)
          · exact ⟨q4_1, q4_2, q4_3, q4_4, q4_5, q4_6, q4_7, q4_8, q4_9, q4_10, q4_11, q4_12, q4_13, q4_14, q4_15, q4_16⟩
          clear hK K x
          try simp only [Act.put, List.getElem_toArray, List.getElem_cons_zero, List.getElem_cons_succ, List.setIfInBounds_toArray, List.set_cons_zero, List.set_cons_succ]
          refine wpAnyH_take (i := 26) (v := ?va523_26) rfl (by kernel_rfl) (by kernel_rfl) (by kernel_rfl) (fun _ _ _ h => h) (Or.inl ⟨by rfl, fun w hSw => ?ti523_26⟩) (by assumption) ?rest523_26
          case ti523_26 => ((try dsimp only at hSw); go_simp; (first | done | with_reducible rfl))
          try simp only [Act.put, List.getElem_toArray, List.getElem_cons_zero, List.getElem_cons_succ, List.setIfInBounds_toArray, List.set_cons_zero, List.set_cons_succ]
          refine wpAnyH_take (i := 27) (v := ?va526_27) rfl (by kernel_rfl) (by kernel_rfl) (by kernel_rfl) (fun _ _ _ h => h) (Or.inl ⟨by rfl, fun w hSw => ?ti526_27⟩) (by assumption) ?rest526_27
          case ti526_27 => ((try dsimp only at hSw); go_simp; (first | done | with_reducible rfl))
          try simp only [Act.put, List.getElem_toArray, List.getElem_cons_zero, List.getElem_cons_succ, List.setIfInBounds_toArray, List.set_cons_zero, List.set_cons_succ]
          refine wpAnyH_take (i := 28) (v := ?va529_28) rfl (by kernel_rfl) (by kernel_rfl) (by kernel_rfl) (fun _ _ _ h => h) (Or.inl ⟨by rfl, fun w hSw => ?ti529_28⟩) (by assumption) ?rest529_28
          case ti529_28 => ((try dsimp only at hSw); go_simp; (first | done | with_reducible rfl))
          try simp only [Act.put, List.getElem_toArray, List.getElem_cons_zero, List.getElem_cons_succ, List.setIfInBounds_toArray, List.set_cons_zero, List.set_cons_succ]
          refine wpAnyH_take (i := 29) (v := ?va532_29) rfl (by kernel_rfl) (by kernel_rfl) (by kernel_rfl) (fun _ _ _ h => h) (Or.inl ⟨by rfl, fun w hSw => ?ti532_29⟩) (by assumption) ?rest532_29
          case ti532_29 => ((try dsimp only at hSw); go_simp; (first | done | with_reducible rfl))
          try simp only [Act.put, List.getElem_toArray, List.getElem_cons_zero, List.getElem_cons_succ, List.setIfInBounds_toArray, List.set_cons_zero, List.set_cons_succ]
          refine wpAnyH_take (i := 31) (v := ?va535_31) rfl (by kernel_rfl) (by kernel_rfl) (by kernel_rfl) (fun _ _ _ h => h) (Or.inl ⟨by rfl, fun w hSw => ?ti535_31⟩) (by assumption) ?rest535_31
          case ti535_31 => ((try dsimp only at hSw); go_simp; (first | done | with_reducible rfl))
          try simp only [Act.put, List.getElem_toArray, List.getElem_cons_zero, List.getElem_cons_succ, List.setIfInBounds_toArray, List.set_cons_zero, List.set_cons_succ]
          refine wpAnyH_take (i := 32) (v := ?va538_32) rfl (by kernel_rfl) (by kernel_rfl) (by kernel_rfl) (fun _ _ _ h => h) (Or.inl ⟨by rfl, fun w hSw => ?ti538_32⟩) (by assumption) ?rest538_32
          case ti538_32 => ((try dsimp only at hSw); go_simp; (first | done | with_reducible rfl))
          try simp only [Act.put, List.getElem_toArray, List.getElem_cons_zero, List.getElem_cons_succ, List.setIfInBounds_toArray, List.set_cons_zero, List.set_cons_succ]
          refine wpAnyH_take (i := 33) (v := ?va541_33) rfl (by kernel_rfl) (by kernel_rfl) (by kernel_rfl) (fun _ _ _ h => h) (Or.inl ⟨by rfl, fun w hSw => ?ti541_33⟩) (by assumption) ?rest541_33
          case ti541_33 => ((try dsimp only at hSw); go_simp; (first | done | with_reducible rfl))
          try simp only [Act.put, List.getElem_toArray, List.getElem_cons_zero, List.getElem_cons_succ, List.setIfInBounds_toArray, List.set_cons_zero, List.set_cons_succ]
          refine wpAnyH_take (i := 34) (v := ?va544_34) rfl (by kernel_rfl) (by kernel_rfl) (by kernel_rfl) (fun _ _ _ h => h) (Or.inl ⟨by rfl, fun w hSw => ?ti544_34⟩) (by assumption) ?rest544_34
          case ti544_34 => ((try dsimp only at hSw); go_simp; (first | done | with_reducible rfl))
          try simp only [Act.put, List.getElem_toArray, List.getElem_cons_zero, List.getElem_cons_succ, List.setIfInBounds_toArray, List.set_cons_zero, List.set_cons_succ]
          refine wpAnyH_ready (rs := [30]) (by kernel_rfl) (by simp) ?_
          refine AllReadyH.cons rfl (fun K hK => ?_) AllReadyH.nil
          go_simp
          refine (MOf_calls n e2 f0 f1 f2 _ _ _ c0 c1 c2 k0' k1' k2' _ NN.out NE2.out (I0.out.ext ?_) (I1.out.ext ?_) (I2.out.ext ?_) ND.out.1 ND.out.2.1 ND.out.2.2 NT.out.1 NT.out.2.1 NT.out.2.2).mono ?_
          · (refine Ext.trans Y4.out ?_; (repeat (first | (with_reducible exact Ext.refl _) | (with_reducible apply Ext.drew) | (with_reducible apply Ext.drewN) | (with_reducible apply Ext.alloc))))
          · (refine Ext.trans Y4.out ?_; (repeat (first | (with_reducible exact Ext.refl _) | (with_reducible apply Ext.drew) | (with_reducible apply Ext.drewN) | (with_reducible apply Ext.alloc))))
          · (refine Ext.trans Y4.out ?_; (repeat (first | (with_reducible exact Ext.refl _) | (with_reducible apply Ext.drew) | (with_reducible apply Ext.drewN) | (with_reducible apply Ext.alloc))))
          intro e y5 hh
          obtain ⟨vv0, vv1, vv2, sa0, sa1, sa2, La, Ta, Ra, rfl, ra0, ra1, ra2, oka, x⟩ := hh
          have Y5 : Hid (Ext Wy y5) := Lib.hid (Ext.trans Y4.out (Ext.trans (by (repeat (first | (with_reducible exact Ext.refl _) | (with_reducible apply Ext.drew) | (with_reducible apply Ext.drewN) | (with_reducible apply Ext.alloc)))) x))
          have q5_1 := Y5.out.cell q0_1
          have q5_2 := Y5.out.cell q0_2
          have q5_3 := Y5.out.cell q0_3
          have q5_4 := Y5.out.cell q0_4
          have q5_5 := Y5.out.cell q0_5
          have q5_6 := Y5.out.cell q0_6
          have q5_7 := Y5.out.cell q0_7
          have q5_8 := Y5.out.cell q0_8
          have q5_9 := Y5.out.cell q0_9
          have q5_10 := Y5.out.cell q0_10
          have q5_11 := Y5.out.cell q0_11
          have q5_12 := Y5.out.cell q0_12
          have q5_13 := Y5.out.cell q0_13
          have q5_14 := Y5.out.cell q0_14
          have q5_15 := Y5.out.cell q0_15
          have q5_16 := Y5.out.cell q0_16
          obtain ⟨ga0, la0, hva0, jj1, jj2, jj3, jj4⟩ := ra0.open; subst hva0; clear jj1 jj2 jj3 jj4; obtain ⟨ga1, la1, hva1, jj1, jj2, jj3, jj4⟩ := ra1.open; subst hva1; clear jj1 jj2 jj3 jj4; obtain ⟨ga2, la2, hva2, jj1, jj2, jj3, jj4⟩ := ra2.open; subst hva2; clear jj1 jj2 jj3 jj4; have Sa := Lib.hid (And.intro ra0 (And.intro ra1 (And.intro ra2 oka))); clear ra0 ra1 ra2 oka
          go_simp
          refine hK.out _ _ ?_ (fun hHeld => ?_)
          · exact ⟨q5_1, q5_2, q5_3, q5_4, q5_5, q5_6, q5_7, q5_8, q5_9, q5_10, q5_11, q5_12, q5_13, q5_14, q5_15, q5_16⟩
          clear hK K x
          try simp only [Act.put, List.getElem_toArray, List.getElem_cons_zero, List.getElem_cons_succ, List.setIfInBounds_toArray, List.set_cons_zero, List.set_cons_succ]
          refine wpAnyH_ready (rs := [35]) (by kernel_rfl) (by simp) ?_
          refine AllReadyH.cons rfl (fun K hK => ?_) AllReadyH.nil
          go_simp
          refine (MotifsCheck_walk _ _ _ _ _ _ La Ta Ra ((n : Int) - 2) e4 _ (Sa.out.1.ext ?_) (Sa.out.2.1.ext ?_) (Sa.out.2.2.1.ext ?_) (Sa.out.2.2.2.ins NN.out.1).1 (Sa.out.2.2.2.ins NN.out.1).2.1 (Sa.out.2.2.2.ins NN.out.1).2.2).mono ?_
          · (repeat (first | (with_reducible exact Ext.refl _) | (with_reducible apply Ext.drew) | (with_reducible apply Ext.drewN) | (with_reducible apply Ext.alloc)))
          · (repeat (first | (with_reducible exact Ext.refl _) | (with_reducible apply Ext.drew) | (with_reducible apply Ext.drewN) | (with_reducible apply Ext.alloc)))
          · (repeat (first | (with_reducible exact Ext.refl _) | (with_reducible apply Ext.drew) | (with_reducible apply Ext.drewN) | (with_reducible apply Ext.alloc)))
          intro e y6 hh
          obtain ⟨rfl, x⟩ := hh
          have Y6 : Hid (Ext Wy y6) := Lib.hid (Ext.trans Y5.out (Ext.trans (by (repeat (first | (with_reducible exact Ext.refl _) | (with_reducible apply Ext.drew) | (with_reducible apply Ext.drewN) | (with_reducible apply Ext.alloc)))) x))
          have q6_1 := Y6.out.cell q0_1
          have q6_2 := Y6.out.cell q0_2
          have q6_3 := Y6.out.cell q0_3
          have q6_4 := Y6.out.cell q0_4
          have q6_5 := Y6.out.cell q0_5
          have q6_6 := Y6.out.cell q0_6
          have q6_7 := Y6.out.cell q0_7
          have q6_8 := Y6.out.cell q0_8
          have q6_9 := Y6.out.cell q0_9
          have q6_10 := Y6.out.cell q0_10
          have q6_11 := Y6.out.cell q0_11
          have q6_12 := Y6.out.cell q0_12
          have q6_13 := Y6.out.cell q0_13
          have q6_14 := Y6.out.cell q0_14
          have q6_15 := Y6.out.cell q0_15
          have q6_16 := Y6.out.cell q0_16
          go_simp
          refine hK.out _ _ ?_ (fun hHeld => ?_)
          · exact ⟨q6_1, q6_2, q6_3, q6_4, q6_5, q6_6, q6_7, q6_8, q6_9, q6_10, q6_11, q6_12, q6_13, q6_14, q6_15, q6_16⟩
          clear hK K x
          try simp only [Act.put, List.getElem_toArray, List.getElem_cons_zero, List.getElem_cons_succ, List.setIfInBounds_toArray, List.set_cons_zero, List.set_cons_succ]
          refine wpAnyH_take (i := 36) (v := ?va610_36) rfl (by kernel_rfl) (by kernel_rfl) (by kernel_rfl) (fun _ _ _ h => h) (Or.inl ⟨by rfl, fun w hSw => ?ti610_36⟩) (by assumption) ?rest610_36
          case ti610_36 => ((try dsimp only at hSw); go_simp; (first | done | with_reducible rfl))
          try simp only [Act.put, List.getElem_toArray, List.getElem_cons_zero, List.getElem_cons_succ, List.setIfInBounds_toArray, List.set_cons_zero, List.set_cons_succ]
          refine wpAnyH_take (i := 37) (v := ?va613_37) rfl (by kernel_rfl) (by kernel_rfl) (by kernel_rfl) (fun _ _ _ h => h) (Or.inl ⟨by rfl, fun w hSw => ?ti613_37⟩) (by assumption) ?rest613_37
          case ti613_37 => ((try dsimp only at hSw); go_simp; (first | done | with_reducible rfl))
          try simp only [Act.put, List.getElem_toArray, List.getElem_cons_zero, List.getElem_cons_succ, List.setIfInBounds_toArray, List.set_cons_zero, List.set_cons_succ]
          refine wpAnyH_take (i := 38) (v := ?va616_38) rfl (by kernel_rfl) (by kernel_rfl) (by kernel_rfl) (fun _ _ _ h => h) (Or.inl ⟨by rfl, fun w hSw => ?ti616_38⟩) (by assumption) ?rest616_38
          case ti616_38 => ((try dsimp only at hSw); go_simp; (first | done | with_reducible rfl))
          try simp only [Act.put, List.getElem_toArray, List.getElem_cons_zero, List.getElem_cons_succ, List.setIfInBounds_toArray, List.set_cons_zero, List.set_cons_succ]
          refine wpAnyH_take (i := 39) (v := ?va619_39) rfl (by kernel_rfl) (by kernel_rfl) (by kernel_rfl) (fun _ _ _ h => h) (Or.inl ⟨by rfl, fun w hSw => ?ti619_39⟩) (by assumption) ?rest619_39
          case ti619_39 => ((try dsimp only at hSw); go_simp; (first | done | with_reducible rfl))
          try simp only [Act.put, List.getElem_toArray, List.getElem_cons_zero, List.getElem_cons_succ, List.setIfInBounds_toArray, List.set_cons_zero, List.set_cons_succ]
          refine wpAnyH_take (i := 42) (v := ?va622_42) rfl (by kernel_rfl) (by kernel_rfl) (by kernel_rfl) (fun _ _ _ h => h) (Or.inl ⟨by rfl, fun w hSw => ?ti622_42⟩) (by assumption) ?rest622_42
          case ti622_42 => ((try dsimp only at hSw); go_simp; (first | done | with_reducible rfl))
          try simp only [Act.put, List.getElem_toArray, List.getElem_cons_zero, List.getElem_cons_succ, List.setIfInBounds_toArray, List.set_cons_zero, List.set_cons_succ]
          refine wpAnyH_ready (rs := [40]) (by kernel_rfl) (by simp) ?_
          refine AllReadyH.cons rfl (fun K hK => ?_) AllReadyH.nil
          go_simp
          refine (MOf_calls n e2 f0 f1 f2 _ _ _ c0 c1 c2 k0' k1' k2' _ NN.out NE2.out (I0.out.ext ?_) (I1.out.ext ?_) (I2.out.ext ?_) ND.out.1 ND.out.2.1 ND.out.2.2 NT.out.1 NT.out.2.1 NT.out.2.2).mono ?_
          · (refine Ext.trans Y6.out ?_; (repeat (first | (with_reducible exact Ext.refl _) | (with_reducible apply Ext.drew) | (with_reducible apply Ext.drewN) | (with_reducible apply Ext.alloc))))
          · (refine Ext.trans Y6.out ?_; (repeat (first | (with_reducible exact Ext.refl _) | (with_reducible apply Ext.drew) | (with_reducible apply Ext.drewN) | (with_reducible apply Ext.alloc))))
          · (refine Ext.trans Y6.out ?_; (repeat (first | (with_reducible exact Ext.refl _) | (with_reducible apply Ext.drew) | (with_reducible apply Ext.drewN) | (with_reducible apply Ext.alloc))))
          intro e y7 hh
          obtain ⟨vv0, vv1, vv2, sb0, sb1, sb2, Lb, Tb, Rb, rfl, rb0, rb1, rb2, okb, x⟩ := hh
          have Y7 : Hid (Ext Wy y7) := Lib.hid (Ext.trans Y6.out (Ext.trans (by (repeat (first | (with_reducible exact Ext.refl _) | (with_reducible apply Ext.drew) | (with_reducible apply Ext.drewN) | (with_reducible apply Ext.alloc)))) x))
          have q7_1 := Y7.out.cell q0_1
          have q7_2 := Y7.out.cell q0_2
          have q7_3 := Y7.out.cell q0_3
          have q7_4 := Y7.out.cell q0_4
          have q7_5 := Y7.out.cell q0_5
          have q7_6 := Y7.out.cell q0_6
          have q7_7 := Y7.out.cell q0_7
          have q7_8 := Y7.out.cell q0_8
          have q7_9 := Y7.out.cell q0_9
          have q7_10 := Y7.out.cell q0_10
          have q7_11 := Y7.out.cell q0_11
          have q7_12 := Y7.out.cell q0_12
          have q7_13 := Y7.out.cell q0_13
          have q7_14 := Y7.out.cell q0_14
          have q7_15 := Y7.out.cell q0_15
          have q7_16 := Y7.out.cell q0_16
          obtain ⟨gb0, lb0, hvb0, jj1, jj2, jj3, jj4⟩ := rb0.open; subst hvb0; clear jj1 jj2 jj3 jj4; obtain ⟨gb1, lb1, hvb1, jj1, jj2, jj3, jj4⟩ := rb1.open; subst hvb1; clear jj1 jj2 jj3 jj4; obtain ⟨gb2, lb2, hvb2, jj1, jj2, jj3, jj4⟩ := rb2.open; subst hvb2; clear jj1 jj2 jj3 jj4; have Sb := Lib.hid (And.intro rb0 (And.intro rb1 (And.intro rb2 okb))); clear rb0 rb1 rb2 okb; have hfb := fun w' : World => (show (Instr.field 26 (.agg #[.slice gb0 lb0 sb0, .slice gb1 lb1 sb1, .slice gb2 lb2 sb2]) 1).run Try.prog w' = .ok (.agg #[.slice gb1 lb1 sb1]) w' by kernel_rfl)
          go_simp
          refine hK.out _ _ ?_ (fun hHeld => ?_)
          · exact ⟨q7_1, q7_2, q7_3, q7_4, q7_5, q7_6, q7_7, q7_8, q7_9, q7_10, q7_11, q7_12, q7_13, q7_14, q7_15, q7_16⟩
          clear hK K x
          try simp only [Act.put, List.getElem_toArray, List.getElem_cons_zero, List.getElem_cons_succ, List.setIfInBounds_toArray, List.set_cons_zero, List.set_cons_succ]
          refine wpAnyH_take (i := 41) (v := ?va657_41) rfl (by kernel_rfl) (by kernel_rfl) (by kernel_rfl) (fun _ _ _ h => h) (Or.inl ⟨by rfl, fun w hSw => ?ti657_41⟩) (by assumption) ?rest657_41
          case ti657_41 => ((try dsimp only at hSw); go_simp; (first | done | with_reducible rfl))
          try simp only [Act.put, List.getElem_toArray, List.getElem_cons_zero, List.getElem_cons_succ, List.setIfInBounds_toArray, List.set_cons_zero, List.set_cons_succ]
          refine wpAnyH_ready (rs := [43]) (by kernel_rfl) (by simp) ?_
          refine AllReadyH.cons rfl (fun K hK => ?_) AllReadyH.nil
          go_simp
          refine (MOf_calls n 3 f2 f0 f1 _ _ _ c2 c0 c1 k2' k0' k1' _ NN.out (by omega) (I2.out.ext ?_) (I0.out.ext ?_) (I1.out.ext ?_) ND.out.2.2 ND.out.1 ND.out.2.1 NT.out.2.2 NT.out.1 NT.out.2.1).mono ?_
          · (refine Ext.trans Y7.out ?_; (repeat (first | (with_reducible exact Ext.refl _) | (with_reducible apply Ext.drew) | (with_reducible apply Ext.drewN) | (with_reducible apply Ext.alloc))))
          · (refine Ext.trans Y7.out ?_; (repeat (first | (with_reducible exact Ext.refl _) | (with_reducible apply Ext.drew) | (with_reducible apply Ext.drewN) | (with_reducible apply Ext.alloc))))
          · (refine Ext.trans Y7.out ?_; (repeat (first | (with_reducible exact Ext.refl _) | (with_reducible apply Ext.drew) | (with_reducible apply Ext.drewN) | (with_reducible apply Ext.alloc))))
          intro e y8 hh
          obtain ⟨vv0, vv1, vv2, sd0, sd1, sd2, Ld, Td, Rd, rfl, rd0, rd1, rd2, okd, x⟩ := hh
          have Y8 : Hid (Ext Wy y8) := Lib.hid (Ext.trans Y7.out (Ext.trans (by (repeat (first | (with_reducible exact Ext.refl _) | (with_reducible apply Ext.drew) | (with_reducible apply Ext.drewN) | (with_reducible apply Ext.alloc)))) x))
          have q8_1 := Y8.out.cell q0_1
          have q8_2 := Y8.out.cell q0_2
          have q8_3 := Y8.out.cell q0_3
          have q8_4 := Y8.out.cell q0_4
          have q8_5 := Y8.out.cell q0_5
          have q8_6 := Y8.out.cell q0_6
          have q8_7 := Y8.out.cell q0_7
          have q8_8 := Y8.out.cell q0_8
          have q8_9 := Y8.out.cell q0_9
          have q8_10 := Y8.out.cell q0_10
          have q8_11 := Y8.out.cell q0_11
          have q8_12 := Y8.out.cell q0_12
          have q8_13 := Y8.out.cell q0_13
          have q8_14 := Y8.out.cell q0_14
          have q8_15 := Y8.out.cell q0_15
          have q8_16 := Y8.out.cell q0_16
          obtain ⟨gd0, ld0, hvd0, jj1, jj2, jj3, jj4⟩ := rd0.open; subst hvd0; clear jj1 jj2 jj3 jj4; obtain ⟨gd1, ld1, hvd1, jj1, jj2, jj3, jj4⟩ := rd1.open; subst hvd1; clear jj1 jj2 jj3 jj4; obtain ⟨gd2, ld2, hvd2, jj1, jj2, jj3, jj4⟩ := rd2.open; subst hvd2; clear jj1 jj2 jj3 jj4; have Sd := Lib.hid (And.intro rd0 (And.intro rd1 (And.intro rd2 okd))); clear rd0 rd1 rd2 okd; have hfd := fun w' : World => (show (Instr.field 26 (.agg #[.slice gd0 ld0 sd0, .slice gd1 ld1 sd1, .slice gd2 ld2 sd2]) 1).run Try.prog w' = .ok (.agg #[.slice gd1 ld1 sd1]) w' by kernel_rfl); have Sb2 := Lib.hid (Sb.out.2.1.ext (show Ext y7 y8 from x))
          go_simp
          refine hK.out _ _ ?_ (fun hHeld => ?_)
          · exact ⟨q8_1, q8_2, q8_3, q8_4, q8_5, q8_6, q8_7, q8_8, q8_9, q8_10, q8_11, q8_12, q8_13, q8_14, q8_15, q8_16⟩
          clear hK K x
          try simp only [Act.put, List.getElem_toArray, List.getElem_cons_zero, List.getElem_cons_succ, List.setIfInBounds_toArray, List.set_cons_zero, List.set_cons_succ]
          refine wpAnyH_take (i := 44) (v := ?va692_44) rfl (by kernel_rfl) (by kernel_rfl) (by kernel_rfl) (fun _ _ _ h => h) (Or.inl ⟨by rfl, fun w hSw => ?ti692_44⟩) (by assumption) ?rest692_44
          case ti692_44 => ((try dsimp only at hSw); go_simp; (first | done | with_reducible rfl))
          try simp only [Act.put, List.getElem_toArray, List.getElem_cons_zero, List.getElem_cons_succ, List.setIfInBounds_toArray, List.set_cons_zero, List.set_cons_succ]
          refine wpAnyH_ready (rs := [45]) (by kernel_rfl) (by simp) ?_
          refine AllReadyH.cons rfl (fun K hK => ?_) AllReadyH.nil
          go_simp
          refine hK.out _ _ ?_ (fun hHeld => ?_)
          · exact ⟨cell_alloc q8_1 _, cell_alloc q8_2 _, cell_alloc q8_3 _, cell_alloc q8_4 _, cell_alloc q8_5 _, cell_alloc q8_6 _, cell_alloc q8_7 _, cell_alloc q8_8 _, cell_alloc q8_9 _, cell_alloc q8_10 _, cell_alloc q8_11 _, cell_alloc q8_12 _, cell_alloc q8_13 _, cell_alloc q8_14 _, cell_alloc q8_15 _, cell_alloc q8_16 _⟩
          clear hK K
          try simp only [Act.put, List.getElem_toArray, List.getElem_cons_zero, List.getElem_cons_succ, List.setIfInBounds_toArray, List.set_cons_zero, List.set_cons_succ]
          refine wpAnyH_ready (rs := [46]) (by kernel_rfl) (by simp) ?_
          refine AllReadyH.cons rfl (fun K hK => ?_) AllReadyH.nil
          go_simp
          refine (bes_w ?_ (Sb2.out.ext ?_) (Sd.out.2.1.ext ?_)).mono ?_
          · (repeat (first | (with_reducible exact Ext.refl _) | (with_reducible apply Ext.drew) | (with_reducible apply Ext.drewN) | (with_reducible apply Ext.alloc)))
          · (repeat (first | (with_reducible exact Ext.refl _) | (with_reducible apply Ext.drew) | (with_reducible apply Ext.drewN) | (with_reducible apply Ext.alloc)))
          · (repeat (first | (with_reducible exact Ext.refl _) | (with_reducible apply Ext.drew) | (with_reducible apply Ext.drewN) | (with_reducible apply Ext.alloc)))
          intro e y9 hh
          obtain ⟨rfl, x⟩ := hh
          have Y9 : Hid (Ext Wy y9) := Lib.hid (Ext.trans Y8.out (Ext.trans (by (repeat (first | (with_reducible exact Ext.refl _) | (with_reducible apply Ext.drew) | (with_reducible apply Ext.drewN) | (with_reducible apply Ext.alloc)))) x))
          have q9_1 := Y9.out.cell q0_1
          have q9_2 := Y9.out.cell q0_2
          have q9_3 := Y9.out.cell q0_3
          have q9_4 := Y9.out.cell q0_4
          have q9_5 := Y9.out.cell q0_5
          have q9_6 := Y9.out.cell q0_6
          have q9_7 := Y9.out.cell q0_7
          have q9_8 := Y9.out.cell q0_8
          have q9_9 := Y9.out.cell q0_9
          have q9_10 := Y9.out.cell q0_10
          have q9_11 := Y9.out.cell q0_11
          have q9_12 := Y9.out.cell q0_12
          have q9_13 := Y9.out.cell q0_13
          have q9_14 := Y9.out.cell q0_14
          have q9_15 := Y9.out.cell q0_15
          have q9_16 := Y9.out.cell q0_16
          go_simp
          refine hK.out _ _ ?_ (fun hHeld => ?_)
          · exact ⟨q9_1, q9_2, q9_3, q9_4, q9_5, q9_6, q9_7, q9_8, q9_9, q9_10, q9_11, q9_12, q9_13, q9_14, q9_15, q9_16⟩
          clear hK K x
          try simp only [Act.put, List.getElem_toArray, List.getElem_cons_zero, List.getElem_cons_succ, List.setIfInBounds_toArray, List.set_cons_zero, List.set_cons_succ]
          refine wpAnyH_take (i := 47) (v := ?va733_47) rfl (by kernel_rfl) (by kernel_rfl) (by kernel_rfl) (fun _ _ _ h => h) (Or.inl ⟨by rfl, fun w hSw => ?ti733_47⟩) (by assumption) ?rest733_47
          case ti733_47 => ((try dsimp only at hSw); go_simp; (first | done | with_reducible rfl))
          try simp only [Act.put, List.getElem_toArray, List.getElem_cons_zero, List.getElem_cons_succ, List.setIfInBounds_toArray, List.set_cons_zero, List.set_cons_succ]
          refine wpAnyH_take (i := 48) (v := ?va736_48) rfl (by kernel_rfl) (by kernel_rfl) (by kernel_rfl) (fun _ _ _ h => h) (Or.inl ⟨by rfl, fun w hSw => ?ti736_48⟩) (by assumption) ?rest736_48
          case ti736_48 => ((try dsimp only at hSw); go_simp; (first | done | with_reducible rfl))
          try simp only [Act.put, List.getElem_toArray, List.getElem_cons_zero, List.getElem_cons_succ, List.setIfInBounds_toArray, List.set_cons_zero, List.set_cons_succ]
          refine wpAnyH_take (i := 49) (v := ?va739_49) rfl (by kernel_rfl) (by kernel_rfl) (by kernel_rfl) (fun _ _ _ h => h) (Or.inl ⟨by rfl, fun w hSw => ?ti739_49⟩) (by assumption) ?rest739_49
          case ti739_49 => ((try dsimp only at hSw); go_simp; (first | done | with_reducible rfl))
          try simp only [Act.put, List.getElem_toArray, List.getElem_cons_zero, List.getElem_cons_succ, List.setIfInBounds_toArray, List.set_cons_zero, List.set_cons_succ]
          refine wpAnyH_take (i := 50) (v := ?va742_50) rfl (by kernel_rfl) (by kernel_rfl) (by kernel_rfl) (fun _ _ _ h => h) (Or.inl ⟨by rfl, fun w hSw => ?ti742_50⟩) (by assumption) ?rest742_50
          case ti742_50 => ((try dsimp only at hSw); go_simp; (first | done | with_reducible rfl))
          try simp only [Act.put, List.getElem_toArray, List.getElem_cons_zero, List.getElem_cons_succ, List.setIfInBounds_toArray, List.set_cons_zero, List.set_cons_succ]
          refine wpAnyH_take (i := 53) (v := ?va745_53) rfl (by kernel_rfl) (by kernel_rfl) (by kernel_rfl) (fun _ _ _ h => h) (Or.inl ⟨by rfl, fun w hSw => ?ti745_53⟩) (by assumption) ?rest745_53
          case ti745_53 => ((try dsimp only at hSw); go_simp; (first | done | with_reducible rfl))
          try simp only [Act.put, List.getElem_toArray, List.getElem_cons_zero, List.getElem_cons_succ, List.setIfInBounds_toArray, List.set_cons_zero, List.set_cons_succ]
          refine wpAnyH_take (i := 56) (v := ?va748_56) rfl (by kernel_rfl) (by kernel_rfl) (by kernel_rfl) (fun _ _ _ h => h) (Or.inl ⟨by rfl, fun w hSw => ?ti748_56⟩) (by assumption) ?rest748_56
          case ti748_56 => ((try dsimp only at hSw); go_simp; (first | done | with_reducible rfl))
          try simp only [Act.put, List.getElem_toArray, List.getElem_cons_zero, List.getElem_cons_succ, List.setIfInBounds_toArray, List.set_cons_zero, List.set_cons_succ]
          refine wpAnyH_ready (rs := [51]) (by kernel_rfl) (by simp) ?_
          refine AllReadyH.cons rfl (fun K hK => ?_) AllReadyH.nil
          go_simp
          refine (MOf_calls n e2 f0 f1 f2 _ _ _ c0 c1 c2 k0' k1' k2' _ NN.out NE2.out (I0.out.ext ?_) (I1.out.ext ?_) (I2.out.ext ?_) ND.out.1 ND.out.2.1 ND.out.2.2 NT.out.1 NT.out.2.1 NT.out.2.2).mono ?_
          · (refine Ext.trans Y9.out ?_; (repeat (first | (with_reducible exact Ext.refl _) | (with_reducible apply Ext.drew) | (with_reducible apply Ext.drewN) | (with_reducible apply Ext.alloc))))
          · (refine Ext.trans Y9.out ?_; (repeat (first | (with_reducible exact Ext.refl _) | (with_reducible apply Ext.drew) | (with_reducible apply Ext.drewN) | (with_reducible apply Ext.alloc))))
          · (refine Ext.trans Y9.out ?_; (repeat (first | (with_reducible exact Ext.refl _) | (with_reducible apply Ext.drew) | (with_reducible apply Ext.drewN) | (with_reducible apply Ext.alloc))))
          intro e y10 hh
          obtain ⟨vv0, vv1, vv2, sf0, sf1, sf2, Lf, Tf, Rf, rfl, rf0, rf1, rf2, okf, x⟩ := hh
          have Y10 : Hid (Ext Wy y10) := Lib.hid (Ext.trans Y9.out (Ext.trans (by (repeat (first | (with_reducible exact Ext.refl _) | (with_reducible apply Ext.drew) | (with_reducible apply Ext.drewN) | (with_reducible apply Ext.alloc)))) x))
          have q10_1 := Y10.out.cell q0_1
          have q10_2 := Y10.out.cell q0_2
          have q10_3 := Y10.out.cell q0_3
          have q10_4 := Y10.out.cell q0_4
          have q10_5 := Y10.out.cell q0_5
          have q10_6 := Y10.out.cell q0_6
          have q10_7 := Y10.out.cell q0_7
          have q10_8 := Y10.out.cell q0_8
          have q10_9 := Y10.out.cell q0_9
          have q10_10 := Y10.out.cell q0_10
          have q10_11 := Y10.out.cell q0_11
          have q10_12 := Y10.out.cell q0_12
          have q10_13 := Y10.out.cell q0_13
          have q10_14 := Y10.out.cell q0_14
          have q10_15 := Y10.out.cell q0_15
          have q10_16 := Y10.out.cell q0_16
          obtain ⟨gf0, lf0, hvf0, jj1, jj2, jj3, jj4⟩ := rf0.open; subst hvf0; clear jj1 jj2 jj3 jj4; obtain ⟨gf1, lf1, hvf1, jj1, jj2, jj3, jj4⟩ := rf1.open; subst hvf1; clear jj1 jj2 jj3 jj4; obtain ⟨gf2, lf2, hvf2, jj1, jj2, jj3, jj4⟩ := rf2.open; subst hvf2; clear jj1 jj2 jj3 jj4; have Sf := Lib.hid (And.intro rf0 (And.intro rf1 (And.intro rf2 okf))); clear rf0 rf1 rf2 okf; have hff := fun w' : World => (show (Instr.field 26 (.agg #[.slice gf0 lf0 sf0, .slice gf1 lf1 sf1, .slice gf2 lf2 sf2]) 1).run Try.prog w' = .ok (.agg #[.slice gf1 lf1 sf1]) w' by kernel_rfl)
          go_simp
          refine hK.out _ _ ?_ (fun hHeld => ?_)
          · exact ⟨q10_1, q10_2, q10_3, q10_4, q10_5, q10_6, q10_7, q10_8, q10_9, q10_10, q10_11, q10_12, q10_13, q10_14, q10_15, q10_16⟩
          clear hK K x
          try simp only [Act.put, List.getElem_toArray, List.getElem_cons_zero, List.getElem_cons_succ, List.setIfInBounds_toArray, List.set_cons_zero, List.set_cons_succ]
          refine wpAnyH_take (i := 52) (v := ?va783_52) rfl (by kernel_rfl) (by kernel_rfl) (by kernel_rfl) (fun _ _ _ h => h) (Or.inl ⟨by rfl, fun w hSw => ?ti783_52⟩) (by assumption) ?rest783_52
          case ti783_52 => ((try dsimp only at hSw); go_simp; (first | done | with_reducible rfl))
          try simp only [Act.put, List.getElem_toArray, List.getElem_cons_zero, List.getElem_cons_succ, List.setIfInBounds_toArray, List.set_cons_zero, List.set_cons_succ]
          refine wpAnyH_ready (rs := [54]) (by kernel_rfl) (by simp) ?_
          refine AllReadyH.cons rfl (fun K hK => ?_) AllReadyH.nil
          go_simp
          refine (MOf_calls n 3 f2 f0 f1 _ _ _ c2 c0 c1 k2' k0' k1' _ NN.out (by omega) (I2.out.ext ?_) (I0.out.ext ?_) (I1.out.ext ?_) ND.out.2.2 ND.out.1 ND.out.2.1 NT.out.2.2 NT.out.1 NT.out.2.1).mono ?_
          · (refine Ext.trans Y10.out ?_; (repeat (first | (with_reducible exact Ext.refl _) | (with_reducible apply Ext.drew) | (with_reducible apply Ext.drewN) | (with_reducible apply Ext.alloc))))
          · (refine Ext.trans Y10.out ?_; (repeat (first | (with_reducible exact Ext.refl _) | (with_reducible apply Ext.drew) | (with_reducible apply Ext.drewN) | (with_reducible apply Ext.alloc))))
          · (refine Ext.trans Y10.out ?_; (repeat (first | (with_reducible exact Ext.refl _) | (with_reducible apply Ext.drew) | (with_reducible apply Ext.drewN) | (with_reducible apply Ext.alloc))))
          intro e y11 hh
          obtain ⟨vv0, vv1, vv2, sg0, sg1, sg2, Lg, Tg, Rg, rfl, rg0, rg1, rg2, okg, x⟩ := hh
          have Y11 : Hid (Ext Wy y11) := Lib.hid (Ext.trans Y10.out (Ext.trans (by (repeat (first | (with_reducible exact Ext.refl _) | (with_reducible apply Ext.drew) | (with_reducible apply Ext.drewN) | (with_reducible apply Ext.alloc)))) x))
          have q11_1 := Y11.out.cell q0_1
          have q11_2 := Y11.out.cell q0_2
          have q11_3 := Y11.out.cell q0_3
          have q11_4 := Y11.out.cell q0_4
          have q11_5 := Y11.out.cell q0_5
          have q11_6 := Y11.out.cell q0_6
          have q11_7 := Y11.out.cell q0_7
          have q11_8 := Y11.out.cell q0_8
          have q11_9 := Y11.out.cell q0_9
          have q11_10 := Y11.out.cell q0_10
          have q11_11 := Y11.out.cell q0_11
          have q11_12 := Y11.out.cell q0_12
          have q11_13 := Y11.out.cell q0_13
          have q11_14 := Y11.out.cell q0_14
          have q11_15 := Y11.out.cell q0_15
          have q11_16 := Y11.out.cell q0_16
          obtain ⟨gg0, lg0, hvg0, jj1, jj2, jj3, jj4⟩ := rg0.open; subst hvg0; clear jj1 jj2 jj3 jj4; obtain ⟨gg1, lg1, hvg1, jj1, jj2, jj3, jj4⟩ := rg1.open; subst hvg1; clear jj1 jj2 jj3 jj4; obtain ⟨gg2, lg2, hvg2, jj1, jj2, jj3, jj4⟩ := rg2.open; subst hvg2; clear jj1 jj2 jj3 jj4; have Sg := Lib.hid (And.intro rg0 (And.intro rg1 (And.intro rg2 okg))); clear rg0 rg1 rg2 okg; have hfg := fun w' : World => (show (Instr.field 26 (.agg #[.slice gg0 lg0 sg0, .slice gg1 lg1 sg1, .slice gg2 lg2 sg2]) 0).run Try.prog w' = .ok (.agg #[.slice gg0 lg0 sg0]) w' by kernel_rfl); have Sf2 := Lib.hid (Sf.out.2.1.ext (show Ext y10 y11 from x))
          go_simp
          refine hK.out _ _ ?_ (fun hHeld => ?_)
          · exact ⟨q11_1, q11_2, q11_3, q11_4, q11_5, q11_6, q11_7, q11_8, q11_9, q11_10, q11_11, q11_12, q11_13, q11_14, q11_15, q11_16⟩
          clear hK K x
          try simp only [Act.put, List.getElem_toArray, List.getElem_cons_zero, List.getElem_cons_succ, List.setIfInBounds_toArray, List.set_cons_zero, List.set_cons_succ]
          refine wpAnyH_take (i := 55) (v := ?va818_55) rfl (by kernel_rfl) (by kernel_rfl) (by kernel_rfl) (fun _ _ _ h => h) (Or.inl ⟨by rfl, fun w hSw => ?ti818_55⟩) (by assumption) ?rest818_55
          case ti818_55 => ((try dsimp only at hSw); go_simp; (first | done | with_reducible rfl))
          try simp only [Act.put, List.getElem_toArray, List.getElem_cons_zero, List.getElem_cons_succ, List.setIfInBounds_toArray, List.set_cons_zero, List.set_cons_succ]
          refine wpAnyH_ready (rs := [57]) (by kernel_rfl) (by simp) ?_
          refine AllReadyH.cons rfl (fun K hK => ?_) AllReadyH.nil
          go_simp
          refine (MOf_calls n e2 f0 f1 f2 _ _ _ c0 c1 c2 k0' k1' k2' _ NN.out NE2.out (I0.out.ext ?_) (I1.out.ext ?_) (I2.out.ext ?_) ND.out.1 ND.out.2.1 ND.out.2.2 NT.out.1 NT.out.2.1 NT.out.2.2).mono ?_
          · (refine Ext.trans Y11.out ?_; (repeat (first | (with_reducible exact Ext.refl _) | (with_reducible apply Ext.drew) | (with_reducible apply Ext.drewN) | (with_reducible apply Ext.alloc))))
          · (refine Ext.trans Y11.out ?_; (repeat (first | (with_reducible exact Ext.refl _) | (with_reducible apply Ext.drew) | (with_reducible apply Ext.drewN) | (with_reducible apply Ext.alloc))))
          · (refine Ext.trans Y11.out ?_; (repeat (first | (with_reducible exact Ext.refl _) | (with_reducible apply Ext.drew) | (with_reducible apply Ext.drewN) | (with_reducible apply Ext.alloc))))
          intro e y12 hh
          obtain ⟨vv0, vv1, vv2, sh0, sh1, sh2, Lh, Th, Rh, rfl, rh0, rh1, rh2, okh, x⟩ := hh
          have Y12 : Hid (Ext Wy y12) := Lib.hid (Ext.trans Y11.out (Ext.trans (by (repeat (first | (with_reducible exact Ext.refl _) | (with_reducible apply Ext.drew) | (with_reducible apply Ext.drewN) | (with_reducible apply Ext.alloc)))) x))
          have q12_1 := Y12.out.cell q0_1
          have q12_2 := Y12.out.cell q0_2
          have q12_3 := Y12.out.cell q0_3
          have q12_4 := Y12.out.cell q0_4
          have q12_5 := Y12.out.cell q0_5
          have q12_6 := Y12.out.cell q0_6
          have q12_7 := Y12.out.cell q0_7
          have q12_8 := Y12.out.cell q0_8
          have q12_9 := Y12.out.cell q0_9
          have q12_10 := Y12.out.cell q0_10
          have q12_11 := Y12.out.cell q0_11
          have q12_12 := Y12.out.cell q0_12
          have q12_13 := Y12.out.cell q0_13
          have q12_14 := Y12.out.cell q0_14
          have q12_15 := Y12.out.cell q0_15
          have q12_16 := Y12.out.cell q0_16
          obtain ⟨gh0, lh0, hvh0, jj1, jj2, jj3, jj4⟩ := rh0.open; subst hvh0; clear jj1 jj2 jj3 jj4; obtain ⟨gh1, lh1, hvh1, jj1, jj2, jj3, jj4⟩ := rh1.open; subst hvh1; clear jj1 jj2 jj3 jj4; obtain ⟨gh2, lh2, hvh2, jj1, jj2, jj3, jj4⟩ := rh2.open; subst hvh2; clear jj1 jj2 jj3 jj4; have Sh := Lib.hid (And.intro rh0 (And.intro rh1 (And.intro rh2 okh))); clear rh0 rh1 rh2 okh; have hfh := fun w' : World => (show (Instr.field 26 (.agg #[.slice gh0 lh0 sh0, .slice gh1 lh1 sh1, .slice gh2 lh2 sh2]) 0).run Try.prog w' = .ok (.agg #[.slice gh0 lh0 sh0]) w' by kernel_rfl); have Sf3 := Lib.hid (Sf2.out.ext (show Ext y11 y12 from x)); have Sg3 := Lib.hid (Sg.out.1.ext (show Ext y11 y12 from x))
          go_simp
          refine hK.out _ _ ?_ (fun hHeld => ?_)
          · exact ⟨q12_1, q12_2, q12_3, q12_4, q12_5, q12_6, q12_7, q12_8, q12_9, q12_10, q12_11, q12_12, q12_13, q12_14, q12_15, q12_16⟩
          clear hK K x
          try simp only [Act.put, List.getElem_toArray, List.getElem_cons_zero, List.getElem_cons_succ, List.setIfInBounds_toArray, List.set_cons_zero, List.set_cons_succ]
          refine wpAnyH_take (i := 58) (v := ?va853_58) rfl (by kernel_rfl) (by kernel_rfl) (by kernel_rfl) (fun _ _ _ h => h) (Or.inl ⟨by rfl, fun w hSw => ?ti853_58⟩) (by assumption) ?rest853_58
          case ti853_58 => ((try dsimp only at hSw); go_simp; (first | done | with_reducible rfl))
          try simp only [Act.put, List.getElem_toArray, List.getElem_cons_zero, List.getElem_cons_succ, List.setIfInBounds_toArray, List.set_cons_zero, List.set_cons_succ]
          refine wpAnyH_ready (rs := [59]) (by kernel_rfl) (by simp) ?_
          refine AllReadyH.cons rfl (fun K hK => ?_) AllReadyH.nil
          go_simp
          refine hK.out _ _ ?_ (fun hHeld => ?_)
          · exact ⟨cell_alloc q12_1 _, cell_alloc q12_2 _, cell_alloc q12_3 _, cell_alloc q12_4 _, cell_alloc q12_5 _, cell_alloc q12_6 _, cell_alloc q12_7 _, cell_alloc q12_8 _, cell_alloc q12_9 _, cell_alloc q12_10 _, cell_alloc q12_11 _, cell_alloc q12_12 _, cell_alloc q12_13 _, cell_alloc q12_14 _, cell_alloc q12_15 _, cell_alloc q12_16 _⟩
          clear hK K
          try simp only [Act.put, List.getElem_toArray, List.getElem_cons_zero, List.getElem_cons_succ, List.setIfInBounds_toArray, List.set_cons_zero, List.set_cons_succ]
          refine wpAnyH_ready (rs := [60]) (by kernel_rfl) (by simp) ?_
          refine AllReadyH.cons rfl (fun K hK => ?_) AllReadyH.nil
          go_simp
          refine (abo_w ?_ (Sf3.out.ext ?_) (Sg3.out.ext ?_) (Sh.out.1.ext ?_)).mono ?_
          · (repeat (first | (with_reducible exact Ext.refl _) | (with_reducible apply Ext.drew) | (with_reducible apply Ext.drewN) | (with_reducible apply Ext.alloc)))
          · (repeat (first | (with_reducible exact Ext.refl _) | (with_reducible apply Ext.drew) | (with_reducible apply Ext.drewN) | (with_reducible apply Ext.alloc)))
          · (repeat (first | (with_reducible exact Ext.refl _) | (with_reducible apply Ext.drew) | (with_reducible apply Ext.drewN) | (with_reducible apply Ext.alloc)))
          · (repeat (first | (with_reducible exact Ext.refl _) | (with_reducible apply Ext.drew) | (with_reducible apply Ext.drewN) | (with_reducible apply Ext.alloc)))
          intro e y13 hh
          obtain ⟨rfl, x⟩ := hh
          have Y13 : Hid (Ext Wy y13) := Lib.hid (Ext.trans Y12.out (Ext.trans (by (repeat (first | (with_reducible exact Ext.refl _) | (with_reducible apply Ext.drew) | (with_reducible apply Ext.drewN) | (with_reducible apply Ext.alloc)))) x))
          have q13_1 := Y13.out.cell q0_1
          have q13_2 := Y13.out.cell q0_2
          have q13_3 := Y13.out.cell q0_3
          have q13_4 := Y13.out.cell q0_4
          have q13_5 := Y13.out.cell q0_5
          have q13_6 := Y13.out.cell q0_6
          have q13_7 := Y13.out.cell q0_7
          have q13_8 := Y13.out.cell q0_8
          have q13_9 := Y13.out.cell q0_9
          have q13_10 := Y13.out.cell q0_10
          have q13_11 := Y13.out.cell q0_11
          have q13_12 := Y13.out.cell q0_12
          have q13_13 := Y13.out.cell q0_13
          have q13_14 := Y13.out.cell q0_14
          have q13_15 := Y13.out.cell q0_15
          have q13_16 := Y13.out.cell q0_16
          go_simp
          refine hK.out _ _ ?_ (fun hHeld => ?_)
          · exact ⟨q13_1, q13_2, q13_3, q13_4, q13_5, q13_6, q13_7, q13_8, q13_9, q13_10, q13_11, q13_12, q13_13, q13_14, q13_15, q13_16⟩
          clear hK K x
          try simp only [Act.put, List.getElem_toArray, List.getElem_cons_zero, List.getElem_cons_succ, List.setIfInBounds_toArray, List.set_cons_zero, List.set_cons_succ]
          refine wpAnyH_take (i := 61) (v := ?va895_61) rfl (by kernel_rfl) (by kernel_rfl) (by kernel_rfl) (fun _ _ _ h => h) (Or.inl ⟨by rfl, fun w hSw => ?ti895_61⟩) (by assumption) ?rest895_61
          case ti895_61 => ((try dsimp only at hSw); go_simp; (first | done | with_reducible rfl))
          try simp only [Act.put, List.getElem_toArray, List.getElem_cons_zero, List.getElem_cons_succ, List.setIfInBounds_toArray, List.set_cons_zero, List.set_cons_succ]
          refine wpAnyH_take (i := 62) (v := ?va898_62) rfl (by kernel_rfl) (by kernel_rfl) (by kernel_rfl) (fun _ _ _ h => h) (Or.inl ⟨by rfl, fun w hSw => ?ti898_62⟩) (by assumption) ?rest898_62
          case ti898_62 => ((try dsimp only at hSw); go_simp; (first | done | with_reducible rfl))
          try simp only [Act.put, List.getElem_toArray, List.getElem_cons_zero, List.getElem_cons_succ, List.setIfInBounds_toArray, List.set_cons_zero, List.set_cons_succ]
          refine wpAnyH_done (by kernel_rfl) ?_ _
          have XE := Lib.hid (X_2.out.trans Y13.out)
          go_wp2
          go_roundw
          case rel => exact ⟨n + 1, _, by omega, by go_num, rfl, ⟨k0, k1⟩, XE⟩
          case measure => simp [intOf]; omega
    · obtain rfl : n = 24 := by omega
      have hlt2 : ¬ ((24 : Nat) : Int) < 24 := by omega
      go_wp2_with fail
      refine (MotifsCheck_walk _ _ _ 0 0 0 [] [] [] 1 1 _ (RR.nil _) (RR.nil _) (RR.nil _) InC.nil InC.nil InC.nil).mono ?_
      rintro e w1 ⟨rfl, x⟩
      have X_1 := Lib.hid (HX.out.trans x)
      clear HX
      clear x
      go_wp2_with fail
      refine (MotifsBeside_walk _ 0 [] _ (BB.nil _)).mono ?_
      rintro e w2 ⟨rfl, x⟩
      have X_2 := Lib.hid (X_1.out.trans x)
      clear X_1
      clear x
      have hmk : ∀ w' : World, (Instr.makeSlice 40 (.int .i64 65) (.int .i64 65)).run Try.prog w' = .ok (.slice (some ⟨w'.heap.size, 0, none⟩) 65 65) (w'.alloc (.cells (madeCells #[.slice none 0 0] 65) 24)) := fun w' => run_make_lc1 (P := Try.prog) eiC .i64 .i64 65 65 (by omega) (by omega) (by omega) w'
      go_wp2_with fail
      refine (abo_65).mono ?_
      rintro e w3 ⟨rfl, x⟩
      have X_3 := Lib.hid (X_2.out.trans x)
      clear X_2
      clear x
      go_wp2_with fail
      refine (bes_65).mono ?_
      rintro e w4 ⟨rfl, x⟩
      have X_4 := Lib.hid (X_3.out.trans x)
      clear X_3
      clear x
      go_wp2_with fail
      refine (lives15_calls _).mono ?_
      rintro e w5 ⟨rfl, x⟩
      have X_5 := Lib.hid (X_4.out.trans x)
      clear X_4
      clear x
      go_wp2
      go_ret
      exact ⟨rfl, X_5.out⟩
end Go.Proofs.Ytlmkcojimhbmiaa
