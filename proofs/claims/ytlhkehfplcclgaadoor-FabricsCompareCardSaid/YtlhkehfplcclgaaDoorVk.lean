/- yarns.push and Reduce, of passes in one direction: nothing cancels. -/
import Derived.Test.YtlhkehfplcclgaaDoorVj
namespace Go.Proofs.YtlhkehfplcclgaaDoor
set_option linter.unusedVariables false
set_option linter.unusedSimpArgs false
set_option maxRecDepth 8000
open Go Go.RowKit

/-- All in one direction. -/
def OneD (l : List Ps) : Prop := ∃ d, (d = 0 ∨ d = 1) ∧ ∀ p ∈ l, p.d = d
theorem one_ck (w : World) (p : Ps) : CK 4 (w.alloc (.cells #[.int .u8 p.id.y, .int .i64 p.id.n, .bool p.f, .int .u8 p.d] 50)) (.slice (some ⟨w.heap.size, 0, none⟩) 1 1) 1 [p.cs] :=
  CK.of_blk (Deep.blk_alloc_new _ _) (Ks.ps [p]) rfl (Nat.le_refl _) (by omega) rfl
theorem own_slice {w : World} {B k n : Nat} {e : TypeId} {v : Value} {xs : List Value} (h : w.ownsRow B e k v n xs) : ∃ ao c, v = .slice ao n c ∧ n ≤ c := by
  obtain ⟨_, ⟨rfl, rfl⟩ | ⟨g, cap, _, rfl, _, _, h4, _⟩⟩ := h
  · exact ⟨_, _, rfl, Nat.le_refl _⟩
  · exact ⟨_, _, rfl, h4⟩
theorem own_extk {w w' : World} {B k n : Nat} {e : TypeId} {v : Value} {xs : List Value} (h : w.ownsRow B e k v n xs) (x : Ext w w') : w'.ownsRow B e k v n xs := by
  obtain ⟨h1, h2 | ⟨g, cap, cur, h3, h4, h5, h6⟩⟩ := h
  · exact ⟨h1, .inl h2⟩
  · exact ⟨h1, .inr ⟨g, cap, cur, h3, h4, x.block h5, h6⟩⟩
theorem qi_take {l : List Ps} {k i : Nat} (h : i < k) : qi (l.take k) i = qi l i := by unfold qi; simp [List.getD, List.getElem?_take_of_lt h]
set_option maxHeartbeats 8000000 in
theorem Push_calls (sv lv : Value) (c : Nat) (l : List Ps) (w0 w : World) (hl : PL w0 lv c l) (h9 : l.length ≤ 1000) (hd : OneD l) (hb : Ext w0 w) (ho : w.ownsRow w0.heap.size 50 4 sv 0 ([] : List Value)) :
    Calls Tryd.prog 94 #[sv, lv] w fun e w' => ∃ v, e = .returned v ∧ w'.ownsRow w0.heap.size 50 4 v l.length (l.map Ps.cs).flatten ∧ Ext w0 w' := by
  obtain ⟨la, n, rfl, hn, hnc, hc9, hat⟩ := hl.open
  obtain ⟨d, hd0, hd⟩ := hd
  have n9 : n ≤ 1000 := by omega
  have Hat := Lib.hid hat
  have Hd := Lib.hid (show ∀ i, i < n → (qi l i).d = d from fun i hi => hd _ (qi_mem (by omega)))
  have Hd0 := Lib.hid hd0
  have Htk := Lib.hid (show ∀ k, k < n → ((l.take (k + 1)).map Ps.cs) = ((l.take k).map Ps.cs) ++ [(qi l k).cs] from fun k hk => by rw [qi_of (by omega), List.take_succ_eq_append_getElem (by omega), List.map_append]; rfl)
  have HN := Lib.hid hn
  have HO := Lib.hid ho
  have HX := Lib.hid hb
  obtain ⟨a0, c0, rfl, _⟩ := own_slice ho
  clear hat hd hd0 hn hl h9 ho hb
  go_enter Tryd.func94, Tryd.ntmps94
  go_wp2
  go_loopw [0, 6, 7, 10] (fun s _ _ i wr => ∃ k : Nat, k ≤ n ∧ i = .int .i64 k ∧ Hid (Ext w0 wr ∧ wr.ownsRow w0.heap.size 50 4 s k ((l.take k).map Ps.cs).flatten)) (fun _ _ _ i _ => n - (intOf i).toNat)
  case atStart => exact ⟨0, Nat.zero_le _, rfl, Lib.hid ⟨HX.out, by rw [List.take_zero]; exact HO.out⟩⟩
  case round =>
    obtain ⟨k, hk, rfl, G⟩ := hrel
    by_cases hlt : k < n
    · obtain ⟨b, o, rfl, hA⟩ := Hat.out k hlt
      obtain ⟨a1, c1, rfl, hk1⟩ := own_slice G.out.2
      have e1 : (k : Int) < n := by omega
      have e2 : (0 : Int) ≤ k := by omega
      have hAx := hA.ext G.out.1
      have hdk := Hd.out k hlt
      have htk := Htk.out k hlt
      obtain ⟨c, hc⟩ : ∃ c, c = qi l k := ⟨_, rfl⟩
      have hpr : 0 < k → ∃ p b' o', a1 = some ⟨b', o', none⟩ ∧ At4 wr b' (o' + (k - 1) * 4) p ∧ p.d = d := fun h0 => by
        obtain ⟨cc, hck⟩ := CK.of_own G.out.2 (Ks.ps (l.take k)) (by rw [List.length_map, List.length_take, ← HN.out]; omega) (by decide)
        obtain ⟨a', n', e, hn', _, _, hat⟩ := PL.open (show PL wr _ cc (l.take k) from hck)
        have e3 : a1 = a' ∧ k = n' := by simp at e; exact ⟨e.1, e.2.1⟩
        obtain ⟨b', o', e4, h5⟩ := hat (k - 1) (by omega)
        rw [qi_take (by omega)] at h5
        exact ⟨_, b', o', by rw [e3.1]; exact e4, h5, Hd.out (k - 1) (by omega)⟩
      rw [← hc] at hAx hdk htk
      have Htk2 := Lib.hid htk; have HPr := Lib.hid hpr; have Hdk := Lib.hid hdk
      obtain ⟨x0, x1, x2, x3⟩ := hAx
      obtain ⟨W1, hW1⟩ : ∃ W1, W1 = wr.alloc (.cells #[.int .u8 c.id.y, .int .i64 c.id.n, .bool c.f, .int .u8 c.d] 50) := ⟨_, rfl⟩
      have hbx : W1.heap[wr.heap.size]? = some (.cells #[.int .u8 c.id.y, .int .i64 c.id.n, .bool c.f, .int .u8 c.d] 50 (0, 0)) := by rw [hW1]; exact Deep.blk_alloc_new _ _
      have Y1 := Lib.hid (show Ext wr W1 by rw [hW1]; exact (Ext.refl _).alloc _)
      have HBx := Lib.hid hbx
      have HW1 := Lib.hid hW1
      have q0_1 : W1.cell? ⟨wr.heap.size, 0, none⟩ = some (.int .u8 c.id.y) := by simp [World.cell?, hbx]
      have q0_2 : W1.cell? ⟨wr.heap.size, 1, none⟩ = some (.int .i64 c.id.n) := by simp [World.cell?, hbx]
      have q0_3 : W1.cell? ⟨wr.heap.size, 2, none⟩ = some (.bool c.f) := by simp [World.cell?, hbx]
      have q0_4 : W1.cell? ⟨wr.heap.size, 3, none⟩ = some (.int .u8 c.d) := by simp [World.cell?, hbx]
      clear hA hc hdk htk hpr hW1 hbx
      by_cases hk0 : k = 0
      · have e7 : ¬ (0 : Int) < k := by omega
        have e7n : ¬ 0 < k := by omega
        have e8 : decide ((0 : Int) < k) = false := decide_eq_false e7
        have e8n : decide (0 < k) = false := decide_eq_false e7n
        clear hk0
        go_wp2
        rw [← HW1.out]
        clear x0 x1 x2 x3
        go_quiet (fail)
        have hob := own_extk G.out.2 (Y1.out.drewN nq)
        have HOB := Lib.hid hob
        clear hob
        go_wp2_with (at_builtin; refine app_k ekP rfl _ _ rfl w0.heap.size _ k ((l.take k).map Ps.cs) rfl (own_extk HOB.out ((Ext.refl _).alloc _)) _ 1 [c.cs] rfl (one_ck _ c) (Ks.ps [c]) ?c1 ?c2 ?c3 ?_)
        case c1 => simp; omega
        case c2 => simp; omega
        case c3 => have h1 := G.out.1.size; have h2 := Y1.out.size; have h3 := Nat.le_refl 0; simp; omega
        intro v' w' hown hgr
        have HNx := Lib.hid (show Ext w0 w' ∧ w'.ownsRow w0.heap.size 50 4 v' (k + 1) ((l.take (k + 1)).map Ps.cs).flatten from ⟨Ext.grown (G.out.1.trans ((Y1.out.drewN nq).trans ((Ext.refl _).alloc _))) hgr fun j hj => (HOB.out.lt j hj).1, by rw [Htk2.out]; simpa using hown⟩)
        clear hown hgr
        go_wp2
        go_roundw
        case rel => exact ⟨k + 1, by omega, by go_num, HNx⟩
        case measure => simp [intOf]; omega
      · have e7 : (0 : Int) < k := by omega
        have e7n : 0 < k := by omega
        have e8 : decide ((0 : Int) < k) = true := decide_eq_true e7
        have e8n : decide (0 < k) = true := decide_eq_true e7n
        have e9 : IntKind.i64.wrap ((k : Int) - 1) = (k : Int) - 1 := IntWalk.i64_in _ ⟨by omega, by omega⟩
        have e10 : ((k : Int) - 1).toNat = k - 1 := by omega
        have e11 : (0 : Int) ≤ (k : Int) - 1 := by omega
        have e13 : (1 : Int) ≤ k := by omega
        have e14 : 1 ≤ k := by omega
        have e12 : (k : Int) - 1 < k := by omega
        obtain ⟨p, b', o', rfl, hpA, hpd⟩ := HPr.out e7n
        have HCa := Lib.hid (fun w' => Cancel_calls p c w' (by rw [hpd]; exact Hd0.out) (by rw [hpd, Hdk.out]))
        obtain ⟨q0_5, q0_6, q0_7, q0_8⟩ := hpA.ext Y1.out
        clear hk0 hpA hpd
        go_wp2
        rw [← HW1.out]
        clear x0 x1 x2 x3
        go_region_held3 (fun w' => w'.cell? ⟨wr.heap.size, 0, Option.none⟩ = some (.int .u8 c.id.y) ∧ w'.cell? ⟨wr.heap.size, 1, Option.none⟩ = some (.int .i64 c.id.n) ∧ w'.cell? ⟨wr.heap.size, 2, Option.none⟩ = some (.bool c.f) ∧ w'.cell? ⟨wr.heap.size, 3, Option.none⟩ = some (.int .u8 c.d) ∧ w'.cell? ⟨b', o' + (k - 1) * 4, Option.none⟩ = some (.int .u8 p.id.y) ∧ w'.cell? ⟨b', o' + (k - 1) * 4 + 1, Option.none⟩ = some (.int .i64 p.id.n) ∧ w'.cell? ⟨b', o' + (k - 1) * 4 + 2, Option.none⟩ = some (.bool p.f) ∧ w'.cell? ⟨b', o' + (k - 1) * 4 + 3, Option.none⟩ = some (.int .u8 p.d)) (first | (with_reducible exact ⟨q0_1, q0_2, q0_3, q0_4, q0_5, q0_6, q0_7, q0_8⟩) | (with_reducible exact ⟨q1_1, q1_2, q1_3, q1_4, q1_5, q1_6, q1_7, q1_8⟩) | go_keep) (first
          | (go_at_call 95; (refine (HCa.out _).mono ?_); intro e w5 hh; obtain ⟨rfl, x⟩ := hh; have Xa : Hid (Ext W1 w5) := Lib.hid (Ext.trans (by ((repeat (first | (with_reducible exact Ext.refl _) | (with_reducible apply Ext.drew) | (with_reducible apply Ext.drewN) | (with_reducible apply Ext.alloc))); done)) x); have q1_1 := Xa.out.cell q0_1; have q1_2 := Xa.out.cell q0_2; have q1_3 := Xa.out.cell q0_3; have q1_4 := Xa.out.cell q0_4; have q1_5 := Xa.out.cell q0_5; have q1_6 := Xa.out.cell q0_6; have q1_7 := Xa.out.cell q0_7; have q1_8 := Xa.out.cell q0_8; clear x))
        have hob := own_extk G.out.2 (Y1.out.trans Xa.out)
        have HOB := Lib.hid hob
        clear hob
        go_wp2_with (at_builtin; refine app_k ekP rfl _ _ rfl w0.heap.size _ k ((l.take k).map Ps.cs) rfl (own_extk HOB.out ((Ext.refl _).alloc _)) _ 1 [c.cs] rfl (one_ck _ c) (Ks.ps [c]) ?d1 ?d2 ?d3 ?_)
        case d1 => simp; omega
        case d2 => simp; omega
        case d3 => have h1 := G.out.1.size; have h2 := Y1.out.size; have h3 := Xa.out.size; simp; omega
        intro v' w' hown hgr
        have HNx := Lib.hid (show Ext w0 w' ∧ w'.ownsRow w0.heap.size 50 4 v' (k + 1) ((l.take (k + 1)).map Ps.cs).flatten from ⟨Ext.grown (G.out.1.trans ((Y1.out.trans Xa.out).trans ((Ext.refl _).alloc _))) hgr fun j hj => (HOB.out.lt j hj).1, by rw [Htk2.out]; simpa using hown⟩)
        clear hown hgr
        go_wp2
        go_roundw
        case rel => exact ⟨k + 1, by omega, by go_num, HNx⟩
        case measure => simp [intOf]; omega
    · obtain rfl : k = n := by omega
      have e1 : ¬ (k : Int) < k := by omega
      go_wp2
      go_ret
      have h1 := G.out.2
      rw [HN.out, List.take_length] at h1
      exact ⟨_, rfl, h1, G.out.1⟩
end Go.Proofs.YtlhkehfplcclgaaDoor
