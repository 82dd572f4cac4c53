/- Contracts of the law's own functions: Of, As. -/
import Derived.Test.YtpcbadagffeehaaSa
import Derived.Test.YtpcbadagffeehaaQe
import Derived.Test.YtpcbadagffeehaaLibc
namespace Go.Proofs.Ytpcbadagffeehaa
set_option linter.unusedVariables false
set_option linter.unusedSimpArgs false
open Go Go.RowKit

theorem cutLo {k : IntKind} {w : World} {b o n c : Nat} {xs : List Int} (h : IS k w (.slice (some ⟨b, o, none⟩) n c) c xs) (i : Nat) (hi : i ≤ n) :
    IS k w (.slice (some ⟨b, o, none⟩) i i) i (xs.take i) := by
  obtain ⟨h1, h2, ao, hv, hao⟩ := h.open
  simp only [Value.slice.injEq] at hv
  obtain ⟨rfl, rfl, _⟩ := hv
  rcases hao with ⟨_, h0, h9⟩ | ⟨b', o', he, hc⟩
  · exact IS.mk (by simp; omega) (Nat.le_refl _) (by omega) fun j hj => by omega
  · simp only [Option.some.injEq, Addr.mk.injEq, and_true] at he
    obtain ⟨rfl, rfl⟩ := he
    exact IS.mk (by simp; omega) (Nat.le_refl _) (by omega) fun j hj => by rw [gi_take hj]; exact hc j (by omega)
theorem cutHi {k : IntKind} {w : World} {b o n c : Nat} {xs : List Int} (h : IS k w (.slice (some ⟨b, o, none⟩) n c) c xs) (i : Nat) (hi : i ≤ n) :
    IS k w (.slice (if c = i then some ⟨b, o, none⟩ else some ⟨b, o + i, none⟩) (n - i) (c - i)) (c - i) (xs.drop i) := by
  obtain ⟨h1, h2, ao, hv, hao⟩ := h.open
  simp only [Value.slice.injEq] at hv
  obtain ⟨rfl, rfl, _⟩ := hv
  rcases hao with ⟨_, h0, h9⟩ | ⟨b', o', he, hc⟩
  · split <;> exact IS.mk (by simp) (by omega) (by omega) fun j hj => by omega
  · simp only [Option.some.injEq, Addr.mk.injEq, and_true] at he
    obtain ⟨rfl, rfl⟩ := he
    split
    · exact IS.mk (by simp) (by omega) (by omega) fun j hj => by omega
    · exact IS.mk (by simp) (by omega) (by omega) fun j hj => by rw [gi_drop, Nat.add_assoc]; exact hc (i + j) (by omega)
/-- The first i of a slice, with all its capacity. -/
theorem cutTo {k : IntKind} {w : World} {b o n c : Nat} {xs : List Int} (h : IS k w (.slice (some ⟨b, o, none⟩) n c) c xs) (i : Nat) (hi : i ≤ n) :
    IS k w (.slice (some ⟨b, o, none⟩) i c) c (xs.take i) := by
  obtain ⟨h1, h2, ao, hv, hao⟩ := h.open
  simp only [Value.slice.injEq] at hv
  obtain ⟨rfl, rfl, _⟩ := hv
  rcases hao with ⟨_, h0, h9⟩ | ⟨b', o', he, hc⟩
  · exact IS.mk (by simp; omega) (by omega) h2 fun j hj => by omega
  · simp only [Option.some.injEq, Addr.mk.injEq, and_true] at he
    obtain ⟨rfl, rfl⟩ := he
    exact IS.mk (by simp; omega) (by omega) h2 fun j hj => by rw [gi_take hj]; exact hc j (by omega)

/-- 'append(s, x...)' where s has no spare capacity: where the new row lies. -/
theorem app_fullB {P : Program} {t e : TypeId} {z : Value} {bytes : Nat} (ei : EI P t e z bytes) {w : World} {ops : Array Oper} {rest : List Oper} {o : Oper} {a : Act} {Q : Exit → Act → World → Prop}
    (hg : o.guard = none) (s x : Operand) (hop : o.op = Op.call { callee := Callee.builtin Builtin.append, args := #[s, x], argTypes := #[t, t] })
    (sv : Value) (xs : List Value) (n : Nat) (hs : a.eval s = sv) (hsv : VS w sv n xs) (hn : xs.length = n)
    (y : Value) (c : Nat) (ys : List Value) (hx : a.eval x = y) (hy : VS w y c ys) (h1 : ∀ u ∈ ys, u.oneCell' = true)
    (hbytes : (xs.length + ys.length) * bytes ≤ 140737488355328) (hlen : xs.length + ys.length ≤ 140737488355328)
    (hK : ∀ v' c' w', VS w' v' c' (xs ++ ys) → (v' = sv ∨ ∀ g, v'.ownBlock = some g → w.heap.size ≤ g) → Ext w w' → wpList P ops Q rest (a.put o.dst v') w') :
    wpList P ops Q (o :: rest) a w := by
  obtain ⟨i, hi, hz0, hz1, hz2⟩ := info_parts ei.info
  subst hn
  have hy' := hy
  obtain ⟨bo, rfl, hbl, hbm, hbno, hbc⟩ := hy
  have hsv' := hsv
  obtain ⟨ao, rfl, hl, hm, hno, hc⟩ := hsv
  have hzs : z.cells.size = 1 := by rw [ei.cell]; rfl
  by_cases h0 : ys.length = 0
  · obtain rfl : ys = [] := List.eq_nil_of_length_eq_zero h0
    refine wpList_plain hg fun K hK' => ?_
    have hrun : (Builtin.append_ #[t, t] o.type #[.slice ao xs.length xs.length, .slice bo 0 c]).run P w = .ok (.slice ao xs.length xs.length) w := by
      cases bo with
      | none => cases ao <;> simp [Builtin.append_, run_underlying ei.und, sizeOf, typeInfo, hi, Builtin.lenOf, Builtin.firstCells, storeCells]
      | some b => cases ao <;> simp [Builtin.append_, run_underlying ei.und, sizeOf, typeInfo, hi, Builtin.lenOf, Builtin.firstCells, loadCells, loadCellsFrom, storeCells]
    unfold Oper.wp
    simp [execOp, hop, resolve, invoke, builtin, hs, hx, hrun, Result.andThen]
    exact hK' _ _ (hK _ _ _ (by simpa using hsv') (.inl rfl) (Ext.refl _))
  · obtain ⟨ad, rfl⟩ : ∃ ad, bo = some ad := by
      cases bo with
      | none => have := hbno rfl; omega
      | some ad => exact ⟨ad, rfl⟩
    refine wpList_append_grows w hg s x t hop e i z 1 bytes ei.und hi hz0 hz1 hz2 hzs (by decide) ao xs.length xs.length xs hs (fun h => ⟨hno h, hno h⟩) (by simp) (VS.cells hl hc) ad ys.length c ys hx (by simp) (VS.cells hbl hbc ad rfl) h1 (by omega) (by unfold maxLen; omega) hbytes ?_
    intro v' w' h2 h3
    obtain ⟨c', hc'⟩ := VS.of_own h2
    exact hK v' c' w' hc' (.inr fun g hg => (h2.lt g hg).1) (grown_ext h3)

/-- A slice keeps when another row has grown. -/
theorem IS.grown {k : IntKind} {w w' : World} {v : Value} {c : Nat} {xs : List Int} {r : Option Nat} (h : IS k w v c xs) (hg : w.grownBy w' r) (hr : ∀ g, v.ownBlock = some g → some g ≠ r) : IS k w' v c xs := by
  obtain ⟨ao, hv, h1, h2, h3, h4⟩ := h
  refine ⟨ao, hv, h1, h2, h3, fun a ha => ⟨(h4 a ha).1, fun j u hj => ?_⟩⟩
  have hc := (h4 a ha).2 j u hj
  have hlt := World.block_lt_of_cell? w _ hc
  subst ha
  have hb := hg.block a.block hlt (hr a.block (by rw [hv]; rfl))
  exact (World.cell?_of_block (a := ⟨a.block, a.off + j, none⟩) hb).trans hc

theorem eiM : EI Try.prog 23 5 (.int .u8 0) 1 := ⟨Try.underlying23, by kernel_rfl, rfl⟩

/-- The two lists behind i rounds. -/
def OfSt (w wr : World) (vl vo : Value) (xs : List Int) (n i : Nat) : Prop :=
  (∃ c, IS .u8 wr vl c (mleft xs n i)) ∧ wr.ownsRow w.heap.size 5 1 vo i ((mout xs n i).map (Value.int .u8)) ∧ (∀ g, vl.ownBlock = some g → some g ≠ vo.ownBlock) ∧ Ext w wr

theorem idL_map (k : Nat) : ((List.range k).map fun j : Nat => Value.int .u8 ((j : Int) + 1)) = (idL k).map (Value.int .u8) := by
  have : idL k = (List.range k).map fun j : Nat => (j : Int) + 1 := gi_ext (by rw [idL_len]; simp) fun i hi => by rw [idL_len] at hi; rw [idL_gi hi, gi_range_map _ hi]
  rw [this, List.map_map]; rfl

set_option maxRecDepth 100000 in
set_option maxHeartbeats 4000000 in
theorem Of_calls (v : Value) (c : Nat) (xs : List Int) (w : World) (h : IS .u8 w v c xs) (hb : U8L xs) :
    Calls Try.prog 10 #[v] w (RetX .u8 w (mof xs)) := by
  obtain ⟨h1, h2, ao, rfl, hao⟩ := h.open
  unfold maxLen at h2
  have hn := mN_bd xs
  have hmax : (if (xs.length : Int) < 1 then (1 : Int) else (xs.length : Int)) = ((if xs.length < 1 then 1 else xs.length : Nat) : Int) := by split <;> split <;> omega
  have hmin : (if (8 : Int) < ((if xs.length < 1 then 1 else xs.length : Nat) : Int) then (8 : Int) else ((if xs.length < 1 then 1 else xs.length : Nat) : Int)) = (mN xs : Int) := by unfold mN; split <;> split <;> (try split) <;> (try split) <;> omega
  have hp := fun i (hi : i < mN xs) => (mperm (n := mN xs) (fun j hj => (hb j hj).1) i (by omega)).1
  have hmk := fun i (hi : i < mN xs) => mk_lt (xs := xs) (i := i) (l := mleft xs (mN xs) i) (by rw [hp i hi]; omega) (fun j hj => (hb j hj).1)
  have hfin : mof xs = mout xs (mN xs) (mN xs) := rfl
  have hml := fun i (hi : i ≤ mN xs) => (mperm (n := mN xs) (fun j hj => (hb j hj).1) i hi).2.1
  rw [hfin]
  clear hfin
  obtain ⟨M, hM⟩ : ∃ M : Nat, M = if xs.length < 1 then 1 else xs.length := ⟨_, rfl⟩
  rw [← hM] at hmax hmin
  obtain ⟨n, hn'⟩ : ∃ n, n = mN xs := ⟨_, rfl⟩
  rw [← hn'] at hmin hn hp hmk hml ⊢
  have hmkd : ∀ i l, mk xs i l = if i < xs.length then (gi xs i % (l.length : Int)).toNat else 0 := fun _ _ => rfl
  obtain ⟨N, hN⟩ : ∃ N, N = xs.length := ⟨_, rfl⟩
  rw [← hN] at h1 hao hmax hmkd ⊢
  have hb' : ∀ i, i < N → 0 ≤ gi xs i ∧ gi xs i ≤ 255 := fun i hi => hb i (by omega)
  have HB := Lib.hid hb'; have HP := Lib.hid hp; have HK := Lib.hid hmk; have HKD := Lib.hid hmkd; have HML := Lib.hid hml
  obtain ⟨n1, n8⟩ := hn
  clear hM hn' hN hb hb' hp hmk hmkd h hml
  go_enter Try.func10, Try.ntmps10
  go_wp2
  go_loopw [4, 5] (fun vl i wr => ∃ k : Nat, k ≤ n ∧ i = .int .i64 ((k : Int) + 1) ∧ Hid (wr.ownsRow w.heap.size 5 1 vl k ((List.range k).map fun j : Nat => Value.int .u8 ((j : Int) + 1)) ∧ Ext w wr)) (fun _ i _ => n + 1 - (intOf i).toNat)
  case atStart => exact ⟨0, Nat.zero_le _, by go_num, Lib.hid ⟨World.ownsRow_nil _ _ _ _, Ext.refl _⟩⟩
  case round =>
    obtain ⟨k, hk, rfl, H⟩ := hrel
    by_cases hlt : k < n
    · have hlt' : (k : Int) + 1 ≤ (n : Int) := by omega
      have hsz := H.out.2.size
      go_wp2_with (at_builtin; refine app_own eiU8 rfl _ _ rfl w.heap.size _ k _ rfl (H.out.1.alloc _) _ _ _ rfl (VS.one _ _ _) (one1 _) ?d1 ?d2 ?d3 ?_)
      case d1 => simp only [List.length_cons, List.length_nil]; omega
      case d2 => simp only [List.length_cons, List.length_nil]; omega
      case d3 => simp; omega
      intro v' w' hown hbel
      have HO := Lib.hid (And.intro hown hbel)
      clear hown hbel
      go_wp2
      go_roundw
      case rel =>
        refine ⟨k + 1, by omega, by go_num, Lib.hid ⟨?_, Below.trans (H.out.2.alloc _) HO.out.2⟩⟩
        rw [List.range_succ, List.map_append]
        exact HO.out.1
      case measure => simp [intOf]; omega
    · obtain rfl : k = n := by omega
      have hlt' : ¬ (k : Int) + 1 ≤ (k : Int) := by omega
      have hleft : ∃ c, IS .u8 wr u4 c (idL k) := by
        have := H.out.1
        rw [idL_map] at this
        exact IS.of_own this
      have HLF := Lib.hid hleft
      clear hleft
      obtain ⟨w1, rfl⟩ : ∃ w1 : World, w1 = wr := ⟨_, rfl⟩
      have HW1 := Lib.hid H.out.2
      clear H hlt' hlt hk
      obtain ⟨n, rfl⟩ : ∃ n : Nat, n = k := ⟨_, rfl⟩
      go_wp2
      go_loopw [4, 6, 7] (fun vl vo i wr => ∃ k : Nat, k ≤ n ∧ i = .int .i64 k ∧ Hid (OfSt w1 wr vl vo xs n k)) (fun _ _ i _ => n - (intOf i).toNat)
      case atStart => exact ⟨0, Nat.zero_le _, rfl, Lib.hid ⟨HLF.out, World.ownsRow_nil _ _ _ _, (fun g _ e => by simp [Value.ownBlock] at e), Ext.refl _⟩⟩
      case round =>
        obtain ⟨k, hk, rfl, H⟩ := hrel
        by_cases hlt : k < n
        · obtain ⟨⟨cl, his⟩, hown, hap, hx1⟩ := H.out
          clear H
          have hm := HP.out k hlt
          have hKlt := HK.out k hlt
          have hKD := HKD.out k (mleft xs n k)
          obtain ⟨b, o, rfl, hc⟩ := his.cellsN (by omega)
          have hcl : (mleft xs n k).length ≤ cl := his.len.2.2
          have hclm : cl ≤ maxLen := his.open.2.1
          unfold maxLen at hclm
          obtain ⟨K, hK⟩ : ∃ K, K = mk xs k (mleft xs n k) := ⟨_, rfl⟩
          rw [← hK] at hKlt hKD
          obtain ⟨m, hmm⟩ : ∃ m, m = (mleft xs n k).length := ⟨_, rfl⟩
          rw [← hmm] at hm hKlt hKD hc hcl his ⊢
          have HM := Lib.hid hmm
          have HKK := Lib.hid hK.symm
          clear hmm hK
          by_cases hkN : k < N
          · obtain ⟨bi, oi, rfl, hci⟩ : ∃ b o, ao = some ⟨b, o, none⟩ ∧ ∀ i, i < N → w.cell? ⟨b, o + i, none⟩ = some (.int .u8 (gi xs i)) := by
              rcases hao with ⟨_, h0, _⟩ | h
              · omega
              · exact h
            have cx := hx1.cell (HW1.out.cell (hci k hkN))
            rw [if_pos hkN] at hKD
            have hbx := HB.out k hkN
            obtain ⟨xi, hxi⟩ : ∃ x, x = gi xs k := ⟨_, rfl⟩
            rw [← hxi] at cx hKD hbx
            have hmod : xi % (m : Int) = (K : Int) := by
              have := Int.emod_nonneg xi (show ((m : Nat) : Int) ≠ 0 by omega)
              omega
            have hm0 : (0 : Int) < (m : Int) := by omega
            have hkN' : (k : Int) < (N : Int) := by omega
            have HM2 := Lib.hid hm
            clear hKD hxi hci hao hm
            have ck := hc K (by omega)
            obtain ⟨x, hx⟩ : ∃ x, x = gi (mleft xs n k) K := ⟨_, rfl⟩
            rw [← hx] at ck
            have HXG := Lib.hid hx
            have hsz := hx1.size
            have hblt : b < wr.heap.size := World.block_lt_of_cell? wr _ ck
            have HIS := Lib.hid his; have HOWN := Lib.hid hown; have HAP := Lib.hid hap; have HX1 := Lib.hid hx1
            clear hc his hown hap hx hx1
            go_wp2_with (at_builtin; refine app_lies eiU8 rfl _ _ rfl w1.heap.size _ k _ rfl (HOWN.out.alloc _) _ _ _ rfl (VS.one _ _ _) (one1 _) ?d1 ?d2 ?d3 ?d4 ?_)
            any_goals (first | omega | (simp; done) | (simp only [List.length_cons, List.length_nil]; omega) | (simp; omega))
            intro g cap w2 hown2 hgr2 hat2
            have HIS2 := Lib.hid ((HIS.out.ext ((Ext.refl wr).alloc _)).grown hgr2 HAP.out)
            have hx2 : Ext w1 w2 := Below.trans (HX1.out.alloc _) (below_of_grown (HOWN.out.alloc _) (by simp; omega) hgr2)
            have hg2 : g < w2.heap.size := (own_block hown2 rfl).choose_spec.2
            have HO2 := Lib.hid (And.intro hown2 (And.intro hat2 (And.intro hx2 hg2)))
            have HGS := Lib.hid hgr2.size
            clear hown2 hat2 hx2 hg2 hgr2
            go_wp2
            have f1 : (K : Int) ≤ (cl : Int) := by omega
            have f2 : (0 : Int) ≤ (K : Int) := by omega
            have f3 : (K : Int) + 1 ≤ (m : Int) := by omega
            have f4 : (0 : Int) ≤ (K : Int) + 1 := by omega
            have f5 : IntKind.i64.wrap ((K : Int) + 1) = (K : Int) + 1 := IntWalk.i64_in _ ⟨by omega, by omega⟩
            have f6 : ((K : Int) + 1).toNat = K + 1 := by omega
            go_still_tail 8, (by kernel_rfl)
            change wpList _ _ _ _ _ (w2.drew)
            obtain ⟨w3, hw3⟩ : ∃ w3, w3 = w2.drew := ⟨_, rfl⟩
            have hx3 : Ext w2 w3 := by rw [hw3]; exact (Ext.refl w2).drew
            have hs3 : w3.heap.size = w2.heap.size := by rw [hw3]; rfl
            rw [← hw3]
            clear hw3
            have hlen : (((mleft xs n k).take K).map (Value.int .u8)).length = K := by have := HM.out; simp; omega
            refine app_fullB eiU8 rfl _ _ rfl (.slice (some ⟨b, o, none⟩) K K) _ K rfl ((cutLo HIS2.out K (by omega)).ext hx3) hlen _ _ _ rfl ((cutHi HIS2.out (K + 1) (by omega)).ext hx3) (onesI _) ?_ ?_ ?_
            · have := HM.out; have := HM2.out; simp; omega
            · have := HM.out; have := HM2.out; simp; omega
            have Hlen := Lib.hid hlen; clear hlen f1 f2 f3 f4 f5 f6
            intro v4 c4 w4 hv4 hd4 hx4
            rw [← List.map_append] at hv4
            have HV4 := Lib.hid (And.intro hv4 (And.intro hd4 (And.intro (hx3.trans hx4) hs3)))
            clear hv4 hd4 hx4 hx3 hs3
            go_wp2
            go_roundw
            case rel =>
              obtain ⟨y1, y2, y3, y4⟩ := HV4.out
              obtain ⟨z1, z2, z3, z4⟩ := HO2.out
              refine ⟨k + 1, by omega, by go_num, Lib.hid ⟨⟨c4, ?_⟩, ?_, ?_, z3.trans y3⟩⟩
              · rw [mleft, HKK.out]; exact y1
              · rw [mout, List.map_append, HKK.out]
                have := own_ext z1 y3
                rw [HXG.out] at this
                exact this
              · intro g' hg' e
                have e' : g' = g := by simpa [Value.ownBlock] using e
                subst e'
                rcases y2 with rfl | y2
                · have hb' : b = g' := by simpa [Value.ownBlock] using hg'
                  subst hb'
                  rcases z2 with z2 | z2
                  · exact HAP.out _ rfl z2.symm
                  · first
                      | omega
                      | (simp at z2; omega)
                · have := y2 g' hg'
                  omega
            case measure => simp [intOf]; omega
          · rw [if_neg hkN] at hKD
            subst hKD
            have hkN' : ¬ (k : Int) < (N : Int) := by omega
            have HM2 := Lib.hid hm
            clear hm
            have ck := hc 0 (by omega)
            obtain ⟨x, hx⟩ : ∃ x, x = gi (mleft xs n k) 0 := ⟨_, rfl⟩
            rw [← hx] at ck
            rw [Nat.add_zero] at ck
            have HXG := Lib.hid hx
            have hsz := hx1.size
            have hblt : b < wr.heap.size := World.block_lt_of_cell? wr _ ck
            have HIS := Lib.hid his; have HOWN := Lib.hid hown; have HAP := Lib.hid hap; have HX1 := Lib.hid hx1
            clear hc his hown hap hx hx1
            go_wp2_with (at_builtin; refine app_lies eiU8 rfl _ _ rfl w1.heap.size _ k _ rfl (HOWN.out.alloc _) _ _ _ rfl (VS.one _ _ _) (one1 _) ?e1 ?e2 ?e3 ?e4 ?_)
            any_goals (first | omega | (simp; done) | (simp only [List.length_cons, List.length_nil]; omega) | (simp; omega))
            intro g cap w2 hown2 hgr2 hat2
            have HIS2 := Lib.hid ((HIS.out.ext ((Ext.refl wr).alloc _)).grown hgr2 HAP.out)
            have hx2 : Ext w1 w2 := Below.trans (HX1.out.alloc _) (below_of_grown (HOWN.out.alloc _) (by simp; omega) hgr2)
            have hg2 : g < w2.heap.size := (own_block hown2 rfl).choose_spec.2
            have HO2 := Lib.hid (And.intro hown2 (And.intro hat2 (And.intro hx2 hg2)))
            have HGS := Lib.hid hgr2.size
            clear hown2 hat2 hx2 hg2 hgr2
            go_wp2
            have f1 : (0 : Int) ≤ (cl : Int) := by omega
            have f3 : (1 : Int) ≤ (m : Int) := by omega
            have f2 : True := trivial
            have f4 : True := trivial
            have f5 : IntKind.i64.wrap 1 = 1 := by decide
            have f6 : (1 : Int).toNat = 1 := rfl
            go_still_tail 8, (by kernel_rfl)
            change wpList _ _ _ _ _ (w2.drew)
            obtain ⟨w3, hw3⟩ : ∃ w3, w3 = w2.drew := ⟨_, rfl⟩
            have hx3 : Ext w2 w3 := by rw [hw3]; exact (Ext.refl w2).drew
            have hs3 : w3.heap.size = w2.heap.size := by rw [hw3]; rfl
            rw [← hw3]
            clear hw3
            have hlen : (((mleft xs n k).take 0).map (Value.int .u8)).length = 0 := by have := HM.out; first | omega | (simp; omega) | simp
            refine app_fullB eiU8 rfl _ _ rfl (.slice (some ⟨b, o, none⟩) 0 0) _ 0 rfl ((cutLo HIS2.out 0 (by omega)).ext hx3) hlen _ _ _ rfl ((cutHi HIS2.out (1) (by omega)).ext hx3) (onesI _) ?_ ?_ ?_
            · have := HM.out; have := HM2.out; simp; omega
            · have := HM.out; have := HM2.out; simp; omega
            have Hlen := Lib.hid hlen; clear hlen f1 f2 f3 f4 f5 f6
            intro v4 c4 w4 hv4 hd4 hx4
            rw [← List.map_append] at hv4
            have HV4 := Lib.hid (And.intro hv4 (And.intro hd4 (And.intro (hx3.trans hx4) hs3)))
            clear hv4 hd4 hx4 hx3 hs3
            go_wp2
            go_roundw
            case rel =>
              obtain ⟨y1, y2, y3, y4⟩ := HV4.out
              obtain ⟨z1, z2, z3, z4⟩ := HO2.out
              refine ⟨k + 1, by omega, by go_num, Lib.hid ⟨⟨c4, ?_⟩, ?_, ?_, z3.trans y3⟩⟩
              · rw [mleft, HKK.out]; exact y1
              · rw [mout, List.map_append, HKK.out]
                have := own_ext z1 y3
                rw [HXG.out] at this
                exact this
              · intro g' hg' e
                have e' : g' = g := by simpa [Value.ownBlock] using e
                subst e'
                rcases y2 with rfl | y2
                · have hb' : b = g' := by simpa [Value.ownBlock] using hg'
                  subst hb'
                  rcases z2 with z2 | z2
                  · exact HAP.out _ rfl z2.symm
                  · first
                      | omega
                      | (simp at z2; omega)
                · have := y2 g' hg'
                  omega
            case measure => simp [intOf]; omega
        · obtain rfl : k = n := by omega
          go_wp2
          go_ret
          obtain ⟨⟨cl, his⟩, hown, hap, hx1⟩ := H.out
          obtain ⟨c', hc'⟩ := IS.of_own hown
          exact ⟨_, c', rfl, hc', HW1.out.trans hx1⟩
end Go.Proofs.Ytpcbadagffeehaa
