/- The iterator over the pairs of strands that are wanted. -/
import Derived.Test.YtpcbadagffeehaaPb
namespace Go.Proofs.Ytpcbadagffeehaa
set_option linter.unusedVariables false
set_option linter.unusedSimpArgs false
open Go Go.RowKit Go.Shelf
attribute [local go_sem] Oper.semAt_some

/-! ### What a step keeps -/
/-- The blocks in Y are as they were; the streams too; no block has gone. -/
structure KL (Y : Nat → Prop) (w w' : World) : Prop where
  os : w'.os = w.os
  tape : w'.tape = w.tape
  output : w'.output = w.output
  size : w.heap.size ≤ w'.heap.size
  block : ∀ b o, Y b → w.heap[b]? = some o → w'.heap[b]? = some o
theorem KL.of_ext {Y : Nat → Prop} {w w' : World} (h : Ext w w') : KL Y w w' := ⟨h.os, h.tape, h.output, h.size, fun b o _ hb => h.block hb⟩
theorem KL.refl (Y : Nat → Prop) (w : World) : KL Y w w := KL.of_ext (Ext.refl w)
theorem KL.trans {Y : Nat → Prop} {a b c : World} (h : KL Y a b) (k : KL Y b c) : KL Y a c :=
  ⟨k.os.trans h.os, k.tape.trans h.tape, k.output.trans h.output, Nat.le_trans h.size k.size, fun i o hi ho => k.block i o hi (h.block i o hi ho)⟩
theorem KL.setCell {Y : Nat → Prop} {w w' : World} (h : KL Y w w') {p : Addr} (hp : ¬ Y p.block) (u : Value) : KL Y w (w'.setCell p u) :=
  h.trans ⟨rfl, rfl, rfl, by simp [World.setCell], fun b o hb ho => (Below.heap_setCell _ _ _ _ (fun e => hp (e ▸ hb))).trans ho⟩
theorem KL.alloc {Y : Nat → Prop} {w w' : World} (h : KL Y w w') (o : Obj) : KL Y w (w'.alloc o) := h.trans (KL.of_ext ((Ext.refl w').alloc o))
theorem KL.ext {Y : Nat → Prop} {w w' w'' : World} (h : KL Y w w') (k : Ext w' w'') : KL Y w w'' := h.trans (KL.of_ext k)
theorem KL.drewN {Y : Nat → Prop} {w w' : World} (h : KL Y w w') (n : Nat) : KL Y w (w'.drewN n) := h.ext ((Ext.refl w').drewN n)
theorem KL.grown {Y : Nat → Prop} {w w' w'' : World} {row : Option Nat} (h : KL Y w w') (hg : w'.grownBy w'' row) (hr : ∀ k, row = some k → ¬ Y k) : KL Y w w'' :=
  h.trans ⟨hg.os, hg.tape, hg.output, hg.size, fun b o hb ho => (hg.block b (lt_of_block ho) (fun e => hr b e.symm hb)).trans ho⟩
theorem KL.cell {Y : Nat → Prop} {w w' : World} (h : KL Y w w') {a : Addr} {v : Value} (ha : Y a.block) (hc : w.cell? a = some v) : w'.cell? a = some v := by
  have hlt := World.block_lt_of_cell? w a hc
  have hb : w.heap[a.block]? = some w.heap[a.block] := Array.getElem?_eq_getElem hlt
  have := h.block _ _ ha hb
  exact (World.cell?_of_block (w := w) (this.trans hb.symm)).trans hc
theorem KL.toExt {Y : Nat → Prop} {w w0 w' : World} (h : Ext w w0) (k : KL Y w0 w') (hY : ∀ b, b < w.heap.size → Y b) : Ext w w' :=
  Below.trans h ⟨k.os, k.tape, k.output, k.size, fun b hb => by
    have hlt : b < w0.heap.size := Nat.lt_of_lt_of_le hb h.size
    have hb0 : w0.heap[b]? = some w0.heap[b] := Array.getElem?_eq_getElem hlt
    rw [k.block _ _ (hY b hb) hb0, hb0]⟩
theorem KL.putObj {Y : Nat → Prop} {w : World} (hY : ∀ b, Y b → b < w.heap.size) (W : World) (l : Nat) (o o' : Obj) (hl : w.heap.size ≤ l) (h : W.heap[l]? = some o) (_ : o.isCells = false) (_ : o.isWalk = false) : KL Y W (W.putObj l o') :=
  (KL.refl Y W).grown (grownBy_putObj' W l o') (fun k e hk => by cases e; have := hY _ hk; omega)
theorem Ext.toGrown {w w' : World} (h : Ext w w') : w.grownBy w' none := ⟨h.os, h.tape, h.output, h.size, fun k hk _ => Below.block h k hk⟩

/-! ### The pairs in their order -/
def pick (n : Nat) (want : Nat → Nat → Bool) (a b : Nat) : Option (Pr n) :=
  if h : 1 ≤ a ∧ a < b ∧ b ≤ n then (if want a b then some ⟨(a, b), h⟩ else none) else none
def prow (n : Nat) (want : Nat → Nat → Bool) (a k : Nat) : List (Pr n) := (List.range k).filterMap (pick n want a)
def prows (n : Nat) (want : Nat → Nat → Bool) (k : Nat) : List (Pr n) := (List.range k).flatMap fun a => prow n want a (n + 1)
theorem prow_succ (n : Nat) (want : Nat → Nat → Bool) (a k : Nat) : prow n want a (k + 1) = prow n want a k ++ (pick n want a k).toList := by
  unfold prow; rw [List.range_succ, List.filterMap_append]; cases h : pick n want a k <;> simp [List.filterMap_cons, h]
theorem prows_succ (n : Nat) (want : Nat → Nat → Bool) (k : Nat) : prows n want (k + 1) = prows n want k ++ prow n want k (n + 1) := by
  unfold prows; rw [List.range_succ, List.flatMap_append]; simp
theorem pick_yes {n : Nat} {want : Nat → Nat → Bool} {a b : Nat} (h : 1 ≤ a ∧ a < b ∧ b ≤ n) (hw : want a b = true) : pick n want a b = some ⟨(a, b), h⟩ := by unfold pick; rw [dif_pos h, if_pos hw]
theorem pick_no {n : Nat} {want : Nat → Nat → Bool} {a b : Nat} (hw : want a b = false) : pick n want a b = none := by unfold pick; split <;> simp [hw]
theorem pick_out {n : Nat} {want : Nat → Nat → Bool} {a b : Nat} (h : ¬ (1 ≤ a ∧ a < b ∧ b ≤ n)) : pick n want a b = none := by unfold pick; rw [dif_neg h]
theorem prow_nil {n : Nat} {want : Nat → Nat → Bool} {a k : Nat} (h : k ≤ a + 1) : prow n want a k = [] := by
  unfold prow
  rw [List.filterMap_eq_nil_iff]
  intro b hb
  exact pick_out (by have := List.mem_range.1 hb; omega)
theorem prow_zero {n : Nat} {want : Nat → Nat → Bool} {k : Nat} : prow n want 0 k = [] := by
  unfold prow
  rw [List.filterMap_eq_nil_iff]
  intro b hb
  exact pick_out (by omega)
theorem prows_one (n : Nat) (want : Nat → Nat → Bool) : prows n want 1 = [] := by rw [prows_succ, prow_zero]; rfl
theorem prow_prefix (n : Nat) (want : Nat → Nat → Bool) (a : Nat) {j k : Nat} (h : j ≤ k) : prow n want a j <+: prow n want a k := by
  obtain ⟨d, rfl⟩ := Nat.le.dest h
  induction d with
  | zero => exact List.prefix_refl _
  | succ d ih => exact (ih (by omega)).trans (by rw [← Nat.add_assoc, prow_succ]; exact List.prefix_append _ _)
theorem prows_prefix (n : Nat) (want : Nat → Nat → Bool) {j k : Nat} (h : j ≤ k) : prows n want j <+: prows n want k := by
  obtain ⟨d, rfl⟩ := Nat.le.dest h
  induction d with
  | zero => exact List.prefix_refl _
  | succ d ih => exact (ih (by omega)).trans (by rw [← Nat.add_assoc, prows_succ]; exact List.prefix_append _ _)
theorem at_prefix (n : Nat) (want : Nat → Nat → Bool) {a b : Nat} (ha : a < n) (hb : b ≤ n) : prows n want a ++ prow n want a (b + 1) <+: prows n want n :=
  List.IsPrefix.trans (by rw [prows_succ]; exact (List.prefix_append_right_inj _).2 (prow_prefix n want a (by omega))) (prows_prefix n want (show a + 1 ≤ n by omega))

/-- All of them. -/
def prsAll (n : Nat) (want : Nat → Nat → Bool) : List (Pr n) := prows n want n
/-- Stops on its way. -/
theorem prows_end (n : Nat) (want : Nat → Nat → Bool) (k : Nat) (h : n ≤ k) : prows n want k = prows n want n := by
  obtain ⟨d, rfl⟩ := Nat.le.dest h
  induction d with
  | zero => rfl
  | succ d ih => rw [← Nat.add_assoc, prows_succ, ih (by omega)]; rw [show prow n want (n + d) (n + 1) = [] from prow_nil (by omega), List.append_nil]

set_option maxHeartbeats 1000000 in
theorem pairs_calls (n : Int) (g : Nat) (lb : Array Value) (w : World) :
    Calls Try.prog 35 #[.int .i64 n, .func (.func g) #[] lb] w fun e w' => e = .returned (.func (.func 47) #[] #[.pointer (some ⟨w.heap.size, 0, none⟩), .pointer (some ⟨w.heap.size + 1, 0, none⟩)]) ∧ w' = (w.alloc (.cells #[.int .i64 n] 3)).alloc (.cells #[.func (.func g) #[] lb] 59) := by
  go_enter Try.func35, Try.ntmps35
  go_wp2
  go_ret
  exact ⟨rfl, rfl⟩

theorem prow_len (n : Nat) (want : Nat → Nat → Bool) (a k : Nat) : (prow n want a k).length ≤ k := by
  unfold prow; exact Nat.le_trans (List.length_filterMap_le _ _) (by simp)
theorem prows_len (n : Nat) (want : Nat → Nat → Bool) (k : Nat) : (prows n want k).length ≤ k * (n + 1) := by
  induction k with
  | zero => simp [prows]
  | succ k ih => rw [prows_succ, List.length_append, Nat.succ_mul]; have := prow_len n want k (n + 1); omega
theorem prsAll_len {n : Nat} (hn : n ≤ 8) (want : Nat → Nat → Bool) : (prsAll n want).length ≤ 72 :=
  Nat.le_trans (prows_len n want n) (Nat.le_trans (Nat.mul_le_mul hn (show n + 1 ≤ 9 by omega)) (by omega))

set_option maxRecDepth 100000 in
set_option maxHeartbeats 2000000 in
theorem pairs_c_in (m : Nat) (hm : 1 ≤ m) (l Bn Bf Bp n : Nat) (hn : n ≤ 8) (want : Nat → Nat → Bool) (Kp : World → World → Prop) (kt : ∀ {A B C : World}, Kp A B → Kp B C → Kp A C) (ke : ∀ {A B : World}, Ext A B → Kp A B)
    (J Jx : List (Pr n) → World → Prop) (H : Nat) (hJ : AbidesFrom H J)
    (hY : ∀ pre x W, J pre W → pre.length < (prsAll n want).length → YieldAt Fence.wide (m - 1) Try.prog l #[x.val] W fun e W' =>
      (e = .returned (.bool true) ∧ J (pre ++ [x]) W' ∧ Kp W W') ∨ (e = .returned (.bool false) ∧ Jx (pre ++ [x]) W'))
    (W : World) (hK : ∀ W', Kp W W' → W'.cell? ⟨Bn, 0, none⟩ = some (.int .i64 (n : Int)) ∧ W'.cell? ⟨Bf, 0, none⟩ = some (.func (.func 48) #[] #[.pointer (some ⟨Bp, 0, none⟩)]) ∧
      ∀ x : Pr n, Calls Try.prog 48 #[x.val, .pointer (some ⟨Bp, 0, none⟩)] W' fun e W'' => e = .returned (.bool (want x.1.1 x.1.2)) ∧ Ext W' W'') (h0 : J [] W) :
    CallsIn Fence.wide m Try.prog 47 #[.func (.yield l) #[] #[], .pointer (some ⟨Bn, 0, none⟩), .pointer (some ⟨Bf, 0, none⟩)] W fun e W' => (∃ v, e = .returned v) ∧
      ((∃ ys, ys = prsAll n want ∧ J ys W') ∨ (∃ pre, pre <+: prsAll n want ∧ Jx pre W')) := by
  refine callsIn_of_wp Try.func47 rfl trivial ?_ rfl
  simp only [Try.ntmps47, List.size_toArray, List.length_cons, List.length_nil, Nat.reduceAdd, Nat.reduceSub, Array.replicate_succ, Array.replicate_zero, List.push_toArray, List.append_toArray, List.nil_append, List.cons_append]
  have HY := Lib.hid hY; have HK := Lib.hid hK; have HJ := Lib.hid hJ
  have k0 := ke (Ext.refl W)
  clear hY hK hJ
  gi_wp2
  gi_loopw [4] (fun i wr => ∃ a : Nat, 1 ≤ a ∧ (a : Int) ≤ max 1 (n : Int) ∧ i = .int .i64 a ∧ Hid (Kp W wr ∧ J (prows n want a) wr)) (fun i _ => n - (intOf i).toNat)
  case atStart => exact ⟨1, by omega, by omega, rfl, Lib.hid ⟨k0, by rw [prows_one]; exact h0⟩⟩
  case round =>
    obtain ⟨a, ha1, ha, rfl, Hs⟩ := hrel
    have c1 := (HK.out _ Hs.out.1).1
    by_cases hlt : a < n
    · gi_wp2
      gi_loopw [5] (fun i wr' => ∃ b : Nat, a < b ∧ b ≤ n + 1 ∧ i = .int .i64 b ∧ Hid (Kp W wr' ∧ J (prows n want a ++ prow n want a b) wr')) (fun i _ => n + 1 - (intOf i).toNat)
      case atStart => exact ⟨a + 1, by omega, by omega, by go_num, Lib.hid ⟨Hs.out.1, by rw [prow_nil (Nat.le_refl _), List.append_nil]; exact Hs.out.2⟩⟩
      case round =>
        obtain ⟨b, hb1, hb2, rfl, H2⟩ := hrel
        have d1 := (HK.out _ H2.out.1).1
        by_cases hbn : b ≤ n
        · have hx0 : Ext wr (wr.alloc (.cells #[.int .u8 (a : Int), .int .u8 (b : Int)] 36)) := (Ext.refl wr).alloc _
          have b2 := B2.new wr (.int .u8 (a : Int)) (.int .u8 (b : Int)) 36
          have q0 := b2.c0
          have q1 := b2.c1
          have hx1 := hx0
          obtain ⟨W1, hW1⟩ : ∃ W1, W1 = wr.alloc (.cells #[.int .u8 (a : Int), .int .u8 (b : Int)] 36) := ⟨_, rfl⟩
          have HW1 := Lib.hid hW1
          rw [← hW1] at hx1 b2
          have kp1 : Kp W W1 := kt H2.out.1 (ke hx1)
          have hj1 := HJ.out _ _ _ none H2.out.2 hx1.toGrown (fun r e => by cases e)
          obtain ⟨g1, g2, g3⟩ := HK.out _ kp1
          rw [hW1] at g1 g2 g3
          have g4 := g3 ⟨(a, b), ha1, hb1, hbn⟩
          have HB2 := Lib.hid b2; have HX := Lib.hid hx1; have HKP := Lib.hid kp1; have HJ1 := Lib.hid hj1
          have hd : 1 ≤ m := hm
          clear hx0 hx1 b2 hW1 kp1 hj1 g3
          unfold Pr.val at g4
          simp only at g4
          have G4 := Lib.hid (callsIn_wide.2 g4 : CallsIn Fence.wide (m - 1) _ _ _ _ _)
          clear g4
          by_cases hw : want a b = true
          · rw [hw] at G4
            have hps : prow n want a (b + 1) = prow n want a b ++ [⟨(a, b), ha1, hb1, hbn⟩] := by rw [prow_succ, pick_yes ⟨ha1, hb1, hbn⟩ hw]; rfl
            have hpf : (prows n want a ++ prow n want a b) ++ [⟨(a, b), ha1, hb1, hbn⟩] <+: prsAll n want := by
              rw [List.append_assoc, ← hps]; exact at_prefix n want hlt hbn
            have hpl : (prows n want a ++ prow n want a b).length < (prsAll n want).length := by
              have := hpf.length_le; rw [List.length_append] at this; simp only [List.length_cons, List.length_nil] at this; omega
            have HYY : Hid (∀ w', Ext W1 w' → YieldAt Fence.wide (m - 1) Try.prog l #[Pr.val ⟨(a, b), ha1, hb1, hbn⟩] w' fun e W' =>
                (e = .returned (.bool true) ∧ J ((prows n want a ++ prow n want a b) ++ [⟨(a, b), ha1, hb1, hbn⟩]) W' ∧ Kp w' W') ∨ (e = .returned (.bool false) ∧ Jx ((prows n want a ++ prow n want a b) ++ [⟨(a, b), ha1, hb1, hbn⟩]) W')) :=
              Lib.hid fun w' hx => HY.out _ _ w' (HJ.out _ _ _ none HJ1.out hx.toGrown (fun r e => by cases e)) hpl
            have Hps := Lib.hid hps; have Hpf := Lib.hid hpf
            clear hps hpf hpl
            gi_wp2_with (refine ⟨trivial, ?_⟩; gi_at_call 48; refine G4.out.mono ?_; rintro e w' ⟨rfl, hx⟩; have r0 := hx.cell q0; have r1 := hx.cell q1; have hx' := hx; rw [← HW1.out] at hx'; obtain ⟨fn, tmps, assign, body, hy, hR⟩ := HYY.out w' hx'; unfold Pr.val at hy; dsimp only at hy)
            refine hR.mono ?_
            have Hx' := Lib.hid hx'
            rintro e W2 (⟨rfl, hJ2, hk2⟩ | ⟨rfl, hx2⟩)
            · have H3 := Lib.hid hJ2; have H4 := Lib.hid hk2
              clear hJ2 hk2
              gi_wp2
              go_roundw
              case rel => exact ⟨b + 1, by omega, by omega, by go_num, Lib.hid ⟨kt HKP.out (kt (ke Hx'.out) H4.out), by rw [Hps.out, ← List.append_assoc]; exact H3.out⟩⟩
              case measure => simp [intOf]; omega
            · have H3 := Lib.hid hx2
              clear hx2
              gi_wp2
              refine bodyPost_ret (results_none rfl _ _ _) rfl ?_
              exact ⟨⟨_, rfl⟩, .inr ⟨_, Hpf.out, H3.out⟩⟩
          · rw [Bool.not_eq_true] at hw
            rw [hw] at G4
            have hps : prow n want a (b + 1) = prow n want a b := by rw [prow_succ, pick_no hw]; simp
            have Hps := Lib.hid hps
            clear hps
            gi_wp2_with (refine ⟨trivial, ?_⟩; gi_at_call 48; refine G4.out.mono ?_; rintro e w' ⟨rfl, hx⟩)
            all_goals (refine ⟨fun _ h => (by cases h), ?_⟩)
            all_goals gi_wp2
            all_goals go_roundw
            all_goals first
              | exact ⟨b + 1, by omega, by omega, by go_num, Lib.hid ⟨kt HKP.out (ke (by rw [HW1.out]; exact hx)), by rw [Hps.out]; exact HJ.out _ _ _ none HJ1.out (Ext.toGrown (by rw [HW1.out]; exact hx)) (fun r e => by cases e)⟩⟩
              | (simp [intOf]; omega)
        · gi_wp2
          go_roundw
          case rel => exact ⟨a + 1, by omega, by omega, by go_num, Lib.hid ⟨H2.out.1, by rw [prows_succ]; have := H2.out.2; rwa [show b = n + 1 by omega] at this⟩⟩
          case measure => simp [intOf]; omega
    · gi_wp2
      go_end0
      exact ⟨⟨_, rfl⟩, .inl ⟨_, rfl, by have := Hs.out.2; rw [prows_end n want a (by omega)] at this; exact this⟩⟩

theorem pairs_c_stops (m : Nat) (hm : 1 ≤ m) (Bn Bf Bp n : Nat) (hn : n ≤ 8) (want : Nat → Nat → Bool) (Y : Nat → Prop) (w0 : World)
    (hK : ∀ W', KL Y w0 W' → W'.cell? ⟨Bn, 0, none⟩ = some (.int .i64 (n : Int)) ∧ W'.cell? ⟨Bf, 0, none⟩ = some (.func (.func 48) #[] #[.pointer (some ⟨Bp, 0, none⟩)]) ∧
      ∀ x : Pr n, Calls Try.prog 48 #[x.val, .pointer (some ⟨Bp, 0, none⟩)] W' fun e W'' => e = .returned (.bool (want x.1.1 x.1.2)) ∧ Ext W' W'') :
    SeqStopsK Fence.wide m Try.prog 47 #[.pointer (some ⟨Bn, 0, none⟩), .pointer (some ⟨Bf, 0, none⟩)] (fun x : Pr n => #[x.val]) (KL Y) (fun ys => ys = prsAll n want) (fun pre => pre <+: prsAll n want) (prsAll n want).length w0 :=
  fun l J Jx W hW hJ hJx hY h0 => pairs_c_in m hm l Bn Bf Bp n hn want (KL Y) KL.trans KL.of_ext J Jx _ hJ hY W (fun W' hk => hK W' ((KL.of_ext hW).trans hk)) h0

set_option maxRecDepth 100000 in
set_option maxHeartbeats 2000000 in
theorem pairs_j1_in (m : Nat) (hm : 1 ≤ m) (l Bn Bf Bp Bq n : Nat) (hn : n ≤ 8) (want : Nat → Nat → Bool) (Kp : World → World → Prop) (kt : ∀ {A B C : World}, Kp A B → Kp B C → Kp A C) (ke : ∀ {A B : World}, Ext A B → Kp A B)
    (J Jx : List (Pr n) → World → Prop) (H : Nat) (hJ : AbidesFrom H J)
    (hY : ∀ pre x W, J pre W → pre.length < (prsAll n want).length → YieldAt Fence.wide (m - 1) Try.prog l #[x.val] W fun e W' =>
      (e = .returned (.bool true) ∧ J (pre ++ [x]) W' ∧ Kp W W') ∨ (e = .returned (.bool false) ∧ Jx (pre ++ [x]) W'))
    (W : World) (hK : ∀ W', Kp W W' → W'.cell? ⟨Bn, 0, none⟩ = some (.int .i64 (n : Int)) ∧ W'.cell? ⟨Bf, 0, none⟩ = some (.func (.func 50) #[] #[.pointer (some ⟨Bp, 0, none⟩), .pointer (some ⟨Bq, 0, none⟩)]) ∧
      ∀ x : Pr n, Calls Try.prog 50 #[x.val, .pointer (some ⟨Bp, 0, none⟩), .pointer (some ⟨Bq, 0, none⟩)] W' fun e W'' => e = .returned (.bool (want x.1.1 x.1.2)) ∧ Ext W' W'') (h0 : J [] W) :
    CallsIn Fence.wide m Try.prog 47 #[.func (.yield l) #[] #[], .pointer (some ⟨Bn, 0, none⟩), .pointer (some ⟨Bf, 0, none⟩)] W fun e W' => (∃ v, e = .returned v) ∧
      ((∃ ys, ys = prsAll n want ∧ J ys W') ∨ (∃ pre, pre <+: prsAll n want ∧ Jx pre W')) := by
  refine callsIn_of_wp Try.func47 rfl trivial ?_ rfl
  simp only [Try.ntmps47, List.size_toArray, List.length_cons, List.length_nil, Nat.reduceAdd, Nat.reduceSub, Array.replicate_succ, Array.replicate_zero, List.push_toArray, List.append_toArray, List.nil_append, List.cons_append]
  have HY := Lib.hid hY; have HK := Lib.hid hK; have HJ := Lib.hid hJ
  have k0 := ke (Ext.refl W)
  clear hY hK hJ
  gi_wp2
  gi_loopw [4] (fun i wr => ∃ a : Nat, 1 ≤ a ∧ (a : Int) ≤ max 1 (n : Int) ∧ i = .int .i64 a ∧ Hid (Kp W wr ∧ J (prows n want a) wr)) (fun i _ => n - (intOf i).toNat)
  case atStart => exact ⟨1, by omega, by omega, rfl, Lib.hid ⟨k0, by rw [prows_one]; exact h0⟩⟩
  case round =>
    obtain ⟨a, ha1, ha, rfl, Hs⟩ := hrel
    have c1 := (HK.out _ Hs.out.1).1
    by_cases hlt : a < n
    · gi_wp2
      gi_loopw [5] (fun i wr' => ∃ b : Nat, a < b ∧ b ≤ n + 1 ∧ i = .int .i64 b ∧ Hid (Kp W wr' ∧ J (prows n want a ++ prow n want a b) wr')) (fun i _ => n + 1 - (intOf i).toNat)
      case atStart => exact ⟨a + 1, by omega, by omega, by go_num, Lib.hid ⟨Hs.out.1, by rw [prow_nil (Nat.le_refl _), List.append_nil]; exact Hs.out.2⟩⟩
      case round =>
        obtain ⟨b, hb1, hb2, rfl, H2⟩ := hrel
        have d1 := (HK.out _ H2.out.1).1
        by_cases hbn : b ≤ n
        · have hx0 : Ext wr (wr.alloc (.cells #[.int .u8 (a : Int), .int .u8 (b : Int)] 36)) := (Ext.refl wr).alloc _
          have b2 := B2.new wr (.int .u8 (a : Int)) (.int .u8 (b : Int)) 36
          have q0 := b2.c0
          have q1 := b2.c1
          have hx1 := hx0
          obtain ⟨W1, hW1⟩ : ∃ W1, W1 = wr.alloc (.cells #[.int .u8 (a : Int), .int .u8 (b : Int)] 36) := ⟨_, rfl⟩
          have HW1 := Lib.hid hW1
          rw [← hW1] at hx1 b2
          have kp1 : Kp W W1 := kt H2.out.1 (ke hx1)
          have hj1 := HJ.out _ _ _ none H2.out.2 hx1.toGrown (fun r e => by cases e)
          obtain ⟨g1, g2, g3⟩ := HK.out _ kp1
          rw [hW1] at g1 g2 g3
          have g4 := g3 ⟨(a, b), ha1, hb1, hbn⟩
          have HB2 := Lib.hid b2; have HX := Lib.hid hx1; have HKP := Lib.hid kp1; have HJ1 := Lib.hid hj1
          have hd : 1 ≤ m := hm
          clear hx0 hx1 b2 hW1 kp1 hj1 g3
          unfold Pr.val at g4
          simp only at g4
          have G4 := Lib.hid (callsIn_wide.2 g4 : CallsIn Fence.wide (m - 1) _ _ _ _ _)
          clear g4
          by_cases hw : want a b = true
          · rw [hw] at G4
            have hps : prow n want a (b + 1) = prow n want a b ++ [⟨(a, b), ha1, hb1, hbn⟩] := by rw [prow_succ, pick_yes ⟨ha1, hb1, hbn⟩ hw]; rfl
            have hpf : (prows n want a ++ prow n want a b) ++ [⟨(a, b), ha1, hb1, hbn⟩] <+: prsAll n want := by
              rw [List.append_assoc, ← hps]; exact at_prefix n want hlt hbn
            have hpl : (prows n want a ++ prow n want a b).length < (prsAll n want).length := by
              have := hpf.length_le; rw [List.length_append] at this; simp only [List.length_cons, List.length_nil] at this; omega
            have HYY : Hid (∀ w', Ext W1 w' → YieldAt Fence.wide (m - 1) Try.prog l #[Pr.val ⟨(a, b), ha1, hb1, hbn⟩] w' fun e W' =>
                (e = .returned (.bool true) ∧ J ((prows n want a ++ prow n want a b) ++ [⟨(a, b), ha1, hb1, hbn⟩]) W' ∧ Kp w' W') ∨ (e = .returned (.bool false) ∧ Jx ((prows n want a ++ prow n want a b) ++ [⟨(a, b), ha1, hb1, hbn⟩]) W')) :=
              Lib.hid fun w' hx => HY.out _ _ w' (HJ.out _ _ _ none HJ1.out hx.toGrown (fun r e => by cases e)) hpl
            have Hps := Lib.hid hps; have Hpf := Lib.hid hpf
            clear hps hpf hpl
            gi_wp2_with (refine ⟨trivial, ?_⟩; gi_at_call 50; refine G4.out.mono ?_; rintro e w' ⟨rfl, hx⟩; have r0 := hx.cell q0; have r1 := hx.cell q1; have hx' := hx; rw [← HW1.out] at hx'; obtain ⟨fn, tmps, assign, body, hy, hR⟩ := HYY.out w' hx'; unfold Pr.val at hy; dsimp only at hy)
            refine hR.mono ?_
            have Hx' := Lib.hid hx'
            rintro e W2 (⟨rfl, hJ2, hk2⟩ | ⟨rfl, hx2⟩)
            · have H3 := Lib.hid hJ2; have H4 := Lib.hid hk2
              clear hJ2 hk2
              gi_wp2
              go_roundw
              case rel => exact ⟨b + 1, by omega, by omega, by go_num, Lib.hid ⟨kt HKP.out (kt (ke Hx'.out) H4.out), by rw [Hps.out, ← List.append_assoc]; exact H3.out⟩⟩
              case measure => simp [intOf]; omega
            · have H3 := Lib.hid hx2
              clear hx2
              gi_wp2
              refine bodyPost_ret (results_none rfl _ _ _) rfl ?_
              exact ⟨⟨_, rfl⟩, .inr ⟨_, Hpf.out, H3.out⟩⟩
          · rw [Bool.not_eq_true] at hw
            rw [hw] at G4
            have hps : prow n want a (b + 1) = prow n want a b := by rw [prow_succ, pick_no hw]; simp
            have Hps := Lib.hid hps
            clear hps
            gi_wp2_with (refine ⟨trivial, ?_⟩; gi_at_call 50; refine G4.out.mono ?_; rintro e w' ⟨rfl, hx⟩)
            all_goals (refine ⟨fun _ h => (by cases h), ?_⟩)
            all_goals gi_wp2
            all_goals go_roundw
            all_goals first
              | exact ⟨b + 1, by omega, by omega, by go_num, Lib.hid ⟨kt HKP.out (ke (by rw [HW1.out]; exact hx)), by rw [Hps.out]; exact HJ.out _ _ _ none HJ1.out (Ext.toGrown (by rw [HW1.out]; exact hx)) (fun r e => by cases e)⟩⟩
              | (simp [intOf]; omega)
        · gi_wp2
          go_roundw
          case rel => exact ⟨a + 1, by omega, by omega, by go_num, Lib.hid ⟨H2.out.1, by rw [prows_succ]; have := H2.out.2; rwa [show b = n + 1 by omega] at this⟩⟩
          case measure => simp [intOf]; omega
    · gi_wp2
      go_end0
      exact ⟨⟨_, rfl⟩, .inl ⟨_, rfl, by have := Hs.out.2; rw [prows_end n want a (by omega)] at this; exact this⟩⟩

theorem pairs_j1_stops (m : Nat) (hm : 1 ≤ m) (Bn Bf Bp Bq n : Nat) (hn : n ≤ 8) (want : Nat → Nat → Bool) (Y : Nat → Prop) (w0 : World)
    (hK : ∀ W', KL Y w0 W' → W'.cell? ⟨Bn, 0, none⟩ = some (.int .i64 (n : Int)) ∧ W'.cell? ⟨Bf, 0, none⟩ = some (.func (.func 50) #[] #[.pointer (some ⟨Bp, 0, none⟩), .pointer (some ⟨Bq, 0, none⟩)]) ∧
      ∀ x : Pr n, Calls Try.prog 50 #[x.val, .pointer (some ⟨Bp, 0, none⟩), .pointer (some ⟨Bq, 0, none⟩)] W' fun e W'' => e = .returned (.bool (want x.1.1 x.1.2)) ∧ Ext W' W'') :
    SeqStopsK Fence.wide m Try.prog 47 #[.pointer (some ⟨Bn, 0, none⟩), .pointer (some ⟨Bf, 0, none⟩)] (fun x : Pr n => #[x.val]) (KL Y) (fun ys => ys = prsAll n want) (fun pre => pre <+: prsAll n want) (prsAll n want).length w0 :=
  fun l J Jx W hW hJ hJx hY h0 => pairs_j1_in m hm l Bn Bf Bp Bq n hn want (KL Y) KL.trans KL.of_ext J Jx _ hJ hY W (fun W' hk => hK W' ((KL.of_ext hW).trans hk)) h0

set_option maxRecDepth 100000 in
set_option maxHeartbeats 2000000 in
theorem pairs_j2_in (m : Nat) (hm : 1 ≤ m) (l Bn Bf Bp n : Nat) (hn : n ≤ 8) (want : Nat → Nat → Bool) (Kp : World → World → Prop) (kt : ∀ {A B C : World}, Kp A B → Kp B C → Kp A C) (ke : ∀ {A B : World}, Ext A B → Kp A B)
    (J Jx : List (Pr n) → World → Prop) (H : Nat) (hJ : AbidesFrom H J)
    (hY : ∀ pre x W, J pre W → pre.length < (prsAll n want).length → YieldAt Fence.wide (m - 1) Try.prog l #[x.val] W fun e W' =>
      (e = .returned (.bool true) ∧ J (pre ++ [x]) W' ∧ Kp W W') ∨ (e = .returned (.bool false) ∧ Jx (pre ++ [x]) W'))
    (W : World) (hK : ∀ W', Kp W W' → W'.cell? ⟨Bn, 0, none⟩ = some (.int .i64 (n : Int)) ∧ W'.cell? ⟨Bf, 0, none⟩ = some (.func (.func 51) #[] #[.pointer (some ⟨Bp, 0, none⟩)]) ∧
      ∀ x : Pr n, Calls Try.prog 51 #[x.val, .pointer (some ⟨Bp, 0, none⟩)] W' fun e W'' => e = .returned (.bool (want x.1.1 x.1.2)) ∧ Ext W' W'') (h0 : J [] W) :
    CallsIn Fence.wide m Try.prog 47 #[.func (.yield l) #[] #[], .pointer (some ⟨Bn, 0, none⟩), .pointer (some ⟨Bf, 0, none⟩)] W fun e W' => (∃ v, e = .returned v) ∧
      ((∃ ys, ys = prsAll n want ∧ J ys W') ∨ (∃ pre, pre <+: prsAll n want ∧ Jx pre W')) := by
  refine callsIn_of_wp Try.func47 rfl trivial ?_ rfl
  simp only [Try.ntmps47, List.size_toArray, List.length_cons, List.length_nil, Nat.reduceAdd, Nat.reduceSub, Array.replicate_succ, Array.replicate_zero, List.push_toArray, List.append_toArray, List.nil_append, List.cons_append]
  have HY := Lib.hid hY; have HK := Lib.hid hK; have HJ := Lib.hid hJ
  have k0 := ke (Ext.refl W)
  clear hY hK hJ
  gi_wp2
  gi_loopw [4] (fun i wr => ∃ a : Nat, 1 ≤ a ∧ (a : Int) ≤ max 1 (n : Int) ∧ i = .int .i64 a ∧ Hid (Kp W wr ∧ J (prows n want a) wr)) (fun i _ => n - (intOf i).toNat)
  case atStart => exact ⟨1, by omega, by omega, rfl, Lib.hid ⟨k0, by rw [prows_one]; exact h0⟩⟩
  case round =>
    obtain ⟨a, ha1, ha, rfl, Hs⟩ := hrel
    have c1 := (HK.out _ Hs.out.1).1
    by_cases hlt : a < n
    · gi_wp2
      gi_loopw [5] (fun i wr' => ∃ b : Nat, a < b ∧ b ≤ n + 1 ∧ i = .int .i64 b ∧ Hid (Kp W wr' ∧ J (prows n want a ++ prow n want a b) wr')) (fun i _ => n + 1 - (intOf i).toNat)
      case atStart => exact ⟨a + 1, by omega, by omega, by go_num, Lib.hid ⟨Hs.out.1, by rw [prow_nil (Nat.le_refl _), List.append_nil]; exact Hs.out.2⟩⟩
      case round =>
        obtain ⟨b, hb1, hb2, rfl, H2⟩ := hrel
        have d1 := (HK.out _ H2.out.1).1
        by_cases hbn : b ≤ n
        · have hx0 : Ext wr (wr.alloc (.cells #[.int .u8 (a : Int), .int .u8 (b : Int)] 36)) := (Ext.refl wr).alloc _
          have b2 := B2.new wr (.int .u8 (a : Int)) (.int .u8 (b : Int)) 36
          have q0 := b2.c0
          have q1 := b2.c1
          have hx1 := hx0
          obtain ⟨W1, hW1⟩ : ∃ W1, W1 = wr.alloc (.cells #[.int .u8 (a : Int), .int .u8 (b : Int)] 36) := ⟨_, rfl⟩
          have HW1 := Lib.hid hW1
          rw [← hW1] at hx1 b2
          have kp1 : Kp W W1 := kt H2.out.1 (ke hx1)
          have hj1 := HJ.out _ _ _ none H2.out.2 hx1.toGrown (fun r e => by cases e)
          obtain ⟨g1, g2, g3⟩ := HK.out _ kp1
          rw [hW1] at g1 g2 g3
          have g4 := g3 ⟨(a, b), ha1, hb1, hbn⟩
          have HB2 := Lib.hid b2; have HX := Lib.hid hx1; have HKP := Lib.hid kp1; have HJ1 := Lib.hid hj1
          have hd : 1 ≤ m := hm
          clear hx0 hx1 b2 hW1 kp1 hj1 g3
          unfold Pr.val at g4
          simp only at g4
          have G4 := Lib.hid (callsIn_wide.2 g4 : CallsIn Fence.wide (m - 1) _ _ _ _ _)
          clear g4
          by_cases hw : want a b = true
          · rw [hw] at G4
            have hps : prow n want a (b + 1) = prow n want a b ++ [⟨(a, b), ha1, hb1, hbn⟩] := by rw [prow_succ, pick_yes ⟨ha1, hb1, hbn⟩ hw]; rfl
            have hpf : (prows n want a ++ prow n want a b) ++ [⟨(a, b), ha1, hb1, hbn⟩] <+: prsAll n want := by
              rw [List.append_assoc, ← hps]; exact at_prefix n want hlt hbn
            have hpl : (prows n want a ++ prow n want a b).length < (prsAll n want).length := by
              have := hpf.length_le; rw [List.length_append] at this; simp only [List.length_cons, List.length_nil] at this; omega
            have HYY : Hid (∀ w', Ext W1 w' → YieldAt Fence.wide (m - 1) Try.prog l #[Pr.val ⟨(a, b), ha1, hb1, hbn⟩] w' fun e W' =>
                (e = .returned (.bool true) ∧ J ((prows n want a ++ prow n want a b) ++ [⟨(a, b), ha1, hb1, hbn⟩]) W' ∧ Kp w' W') ∨ (e = .returned (.bool false) ∧ Jx ((prows n want a ++ prow n want a b) ++ [⟨(a, b), ha1, hb1, hbn⟩]) W')) :=
              Lib.hid fun w' hx => HY.out _ _ w' (HJ.out _ _ _ none HJ1.out hx.toGrown (fun r e => by cases e)) hpl
            have Hps := Lib.hid hps; have Hpf := Lib.hid hpf
            clear hps hpf hpl
            gi_wp2_with (refine ⟨trivial, ?_⟩; gi_at_call 51; refine G4.out.mono ?_; rintro e w' ⟨rfl, hx⟩; have r0 := hx.cell q0; have r1 := hx.cell q1; have hx' := hx; rw [← HW1.out] at hx'; obtain ⟨fn, tmps, assign, body, hy, hR⟩ := HYY.out w' hx'; unfold Pr.val at hy; dsimp only at hy)
            refine hR.mono ?_
            have Hx' := Lib.hid hx'
            rintro e W2 (⟨rfl, hJ2, hk2⟩ | ⟨rfl, hx2⟩)
            · have H3 := Lib.hid hJ2; have H4 := Lib.hid hk2
              clear hJ2 hk2
              gi_wp2
              go_roundw
              case rel => exact ⟨b + 1, by omega, by omega, by go_num, Lib.hid ⟨kt HKP.out (kt (ke Hx'.out) H4.out), by rw [Hps.out, ← List.append_assoc]; exact H3.out⟩⟩
              case measure => simp [intOf]; omega
            · have H3 := Lib.hid hx2
              clear hx2
              gi_wp2
              refine bodyPost_ret (results_none rfl _ _ _) rfl ?_
              exact ⟨⟨_, rfl⟩, .inr ⟨_, Hpf.out, H3.out⟩⟩
          · rw [Bool.not_eq_true] at hw
            rw [hw] at G4
            have hps : prow n want a (b + 1) = prow n want a b := by rw [prow_succ, pick_no hw]; simp
            have Hps := Lib.hid hps
            clear hps
            gi_wp2_with (refine ⟨trivial, ?_⟩; gi_at_call 51; refine G4.out.mono ?_; rintro e w' ⟨rfl, hx⟩)
            all_goals (refine ⟨fun _ h => (by cases h), ?_⟩)
            all_goals gi_wp2
            all_goals go_roundw
            all_goals first
              | exact ⟨b + 1, by omega, by omega, by go_num, Lib.hid ⟨kt HKP.out (ke (by rw [HW1.out]; exact hx)), by rw [Hps.out]; exact HJ.out _ _ _ none HJ1.out (Ext.toGrown (by rw [HW1.out]; exact hx)) (fun r e => by cases e)⟩⟩
              | (simp [intOf]; omega)
        · gi_wp2
          go_roundw
          case rel => exact ⟨a + 1, by omega, by omega, by go_num, Lib.hid ⟨H2.out.1, by rw [prows_succ]; have := H2.out.2; rwa [show b = n + 1 by omega] at this⟩⟩
          case measure => simp [intOf]; omega
    · gi_wp2
      go_end0
      exact ⟨⟨_, rfl⟩, .inl ⟨_, rfl, by have := Hs.out.2; rw [prows_end n want a (by omega)] at this; exact this⟩⟩

theorem pairs_j2_stops (m : Nat) (hm : 1 ≤ m) (Bn Bf Bp n : Nat) (hn : n ≤ 8) (want : Nat → Nat → Bool) (Y : Nat → Prop) (w0 : World)
    (hK : ∀ W', KL Y w0 W' → W'.cell? ⟨Bn, 0, none⟩ = some (.int .i64 (n : Int)) ∧ W'.cell? ⟨Bf, 0, none⟩ = some (.func (.func 51) #[] #[.pointer (some ⟨Bp, 0, none⟩)]) ∧
      ∀ x : Pr n, Calls Try.prog 51 #[x.val, .pointer (some ⟨Bp, 0, none⟩)] W' fun e W'' => e = .returned (.bool (want x.1.1 x.1.2)) ∧ Ext W' W'') :
    SeqStopsK Fence.wide m Try.prog 47 #[.pointer (some ⟨Bn, 0, none⟩), .pointer (some ⟨Bf, 0, none⟩)] (fun x : Pr n => #[x.val]) (KL Y) (fun ys => ys = prsAll n want) (fun pre => pre <+: prsAll n want) (prsAll n want).length w0 :=
  fun l J Jx W hW hJ hJx hY h0 => pairs_j2_in m hm l Bn Bf Bp n hn want (KL Y) KL.trans KL.of_ext J Jx _ hJ hY W (fun W' hk => hK W' ((KL.of_ext hW).trans hk)) h0
end Go.Proofs.Ytpcbadagffeehaa
