/- fabrics.names, pass. -/
import Derived.Test.YtlhkehfplcclgaaDoorKd
namespace Go.Proofs.YtlhkehfplcclgaaDoor
set_option linter.unusedVariables false
set_option linter.unusedSimpArgs false
set_option maxRecDepth 8000
open Go Go.RowKit Go.Sort

theorem ekS : EK Tryd.prog 64 9 (.string ⟨#[]⟩) 1 16 := ⟨Tryd.underlying64, by kernel_rfl, rfl, by decide⟩
/-- The cell of a text. -/
def sc (x : List UInt8) : List Value := [.string (bst x)]
theorem Ks.sc (ws : List (List UInt8)) : Ks 1 (ws.map sc) := fun x hx => by
  obtain ⟨a, _, rfl⟩ := List.mem_map.1 hx
  exact ⟨rfl, fun v hv => by simp [Go.Proofs.YtlhkehfplcclgaaDoor.sc] at hv; rw [hv]; rfl⟩
/-- A list of texts in a block of its own. -/
def SO (B : Nat) (w : World) (v : Value) (ws : List (List UInt8)) : Prop := w.ownsRow B 9 1 v ws.length (ws.map sc).flatten
theorem SO.ext {B : Nat} {w w' : World} {v : Value} {ws : List (List UInt8)} (h : SO B w v ws) (x : Ext w w') : SO B w' v ws := own_extk h x
theorem SO.ck {B : Nat} {w : World} {v : Value} {ws : List (List UInt8)} (h : SO B w v ws) : ∃ c, CK 1 w v c (ws.map sc) := CK.of_own h (Ks.sc ws) (by simp) (by decide)
theorem SO.le {B B' : Nat} {w : World} {v : Value} {ws : List (List UInt8)} (h : SO B w v ws) (hb : B' ≤ B) : SO B' w v ws := by
  obtain ⟨h1, h2 | ⟨g, cap, cur, h3, h4, h5⟩⟩ := h
  · exact ⟨h1, .inl h2⟩
  · exact ⟨h1, .inr ⟨g, cap, cur, h3, by omega, h5⟩⟩
theorem SO.new (w : World) (ws : List (List UInt8)) (h9 : ws.length ≤ 1000000) : SO w.heap.size (w.alloc (.cells (ws.map fun x => Value.string (bst x)).toArray 9)) (.slice (some ⟨w.heap.size, 0, none⟩) ws.length ws.length) ws := by
  have hf : (ws.map sc).flatten = ws.map fun x => Value.string (bst x) := by
    clear h9
    induction ws with
    | nil => rfl
    | cons x ws ih => rw [List.map_cons, List.flatten_cons, ih]; rfl
  exact ⟨by rw [hf]; simp, .inr ⟨w.heap.size, ws.length, _, rfl, Nat.le_refl _, Deep.blk_alloc_new _ _, Nat.le_refl _, by unfold maxLen; omega, by simp, by rw [hf, Nat.mul_one]; exact List.take_of_length_le (by simp)⟩⟩
theorem sc_ck (w : World) (x : List UInt8) : CK 1 (w.alloc (.cells #[.string (bst x)] 9)) (.slice (some ⟨w.heap.size, 0, none⟩) 1 1) 1 [sc x] :=
  CK.of_blk (Deep.blk_alloc_new _ _) (Ks.sc [x]) rfl (Nat.le_refl _) (by omega) rfl
/-- A list of texts is returned. -/
def RetS (w : World) (ws : List (List UInt8)) (en : Ending) (w' : World) : Prop := ∃ v, en = .returned v ∧ SO w.heap.size w' v ws ∧ Ext w w'
set_option maxHeartbeats 4000000 in
theorem Names_calls (word : List UInt8) (lv : Value) (c : Nat) (l : List Nm) (w : World) (h : NL w lv c l) (ht : PTab w) (hin : ∀ a ∈ l, a.In) (h9 : l.length ≤ 1000) :
    Calls Tryd.prog 42 #[.string (bst word), lv] w (RetS w (word :: l.map nameT)) := by
  obtain ⟨ao, n, rfl, hn, hnc, hc9, hat⟩ := h.open
  have n9 : n ≤ 1000 := by omega
  obtain ⟨W, hW⟩ : ∃ W, W = w.alloc (.cells #[.string (bst word)] 9) := ⟨_, rfl⟩
  have xW : Ext w W := by rw [hW]; exact (Ext.refl _).alloc _
  obtain ⟨U, hU⟩ : ∃ U : Nat → List (List UInt8), U = fun k => word :: (l.take k).map nameT := ⟨_, rfl⟩
  have H0 := Lib.hid (show Ext w W ∧ SO w.heap.size W (.slice (some ⟨w.heap.size, 0, none⟩) 1 1) (U 0) from ⟨xW, by rw [hU, hW]; exact SO.new w [word] (by simp)⟩)
  have HUl := Lib.hid (show ∀ k, k ≤ n → (U k).length = k + 1 from fun k hk => by rw [hU]; simp; omega)
  have HUs := Lib.hid (show ∀ k, k < n → U (k + 1) = U k ++ [nameT (ni l k)] from fun k hk => by rw [hU]; dsimp only; rw [ni_of (by omega), List.take_succ_eq_append_getElem (by omega), List.map_append]; rfl)
  have HUE := Lib.hid (show word :: l.map nameT = U n by rw [hU, hn]; dsimp only; rw [List.take_length])
  have Hat := Lib.hid (fun i (hi : i < n) => (by obtain ⟨b, o, e, ha⟩ := hat i hi; exact ⟨⟨b, o, e, ha⟩, hin _ (ni_mem (by omega))⟩ : (∃ b o, ao = some ⟨b, o, none⟩ ∧ At2 w b (o + i * 2) (ni l i)) ∧ (ni l i).In))
  have HT := Lib.hid ht
  have HW := Lib.hid hW
  rw [HUE.out]
  clear h hat hn hin h9 hU xW hW ht
  go_enter Tryd.func42, Tryd.ntmps42
  generalize bst word = WD at *
  go_wp2
  rw [← HW.out]
  go_loopg [5, 7, 12] n (fun gk r _ i wr => ∃ k : Nat, k + gk = n ∧ i = .int .i64 k ∧ Hid (Ext w wr ∧ SO w.heap.size wr r (U k)))
  case atStart => exact ⟨0, by omega, rfl, H0⟩
  case round =>
    obtain ⟨k, hk, rfl, G⟩ := hrel
    have hown := G.out.2
    unfold SO at hown
    rw [HUl.out k (by omega)] at hown
    obtain ⟨ar, cr, rfl, _⟩ := own_slice hown
    have HO := Lib.hid hown
    clear hown
    by_cases hlt : k < n
    · obtain ⟨⟨b', o', rfl, hA⟩, hIn⟩ := Hat.out k hlt
      have e1 : (k : Int) < n := by omega
      have e2 : (0 : Int) ≤ k := by omega
      obtain ⟨c0, c1⟩ := hA.ext G.out.1
      have hus := HUs.out k hlt
      have hul := HUl.out (k + 1) (by omega)
      obtain ⟨a, ha⟩ : ∃ a, a = ni l k := ⟨_, rfl⟩
      rw [← ha] at c0 c1 hIn hus
      obtain ⟨W3, hW3⟩ : ∃ W3, W3 = wr.alloc (.cells #[.int .u8 a.y, .int .i64 a.n] 41) := ⟨_, rfl⟩
      have z3 : Ext wr W3 := by rw [hW3]; exact (Ext.refl _).alloc _
      have X3 := Lib.hid (G.out.1.trans z3)
      have Z3 := Lib.hid z3
      have HNm := Lib.hid (Name_calls a W3 (HT.out.ext X3.out) hIn)
      unfold Nm.val at HNm
      have HW3 := Lib.hid hW3; have HU := Lib.hid (And.intro hus hul)
      clear hW3 ha hIn hA z3 hus hul
      go_wp2_with fail
      rw [← HW3.out]
      clear c0 c1
      refine HNm.out.mono ?_
      rintro e w4 ⟨rfl, x4⟩
      have X4 := Lib.hid (X3.out.trans x4)
      have HO4 := Lib.hid (own_extk HO.out (Z3.out.trans x4))
      obtain ⟨NT, hNT⟩ : ∃ NT, NT = nameT a := ⟨_, rfl⟩
      rw [← hNT] at HU ⊢
      clear x4 hNT HNm
      go_wp2_with (at_builtin; refine app_k ekS rfl _ _ rfl w.heap.size _ (k + 1) ((U k).map sc) rfl (own_extk HO4.out ((Ext.refl _).alloc _)) _ 1 [sc NT] rfl (sc_ck _ NT) (Ks.sc [NT]) ?c1 ?c2 ?c3 ?_)
      case c1 => simp; omega
      case c2 => simp; omega
      case c3 => have h1 := X4.out.size; simp; omega
      intro v5 w5 hown hgr
      have HNx := Lib.hid (show Ext w w5 ∧ SO w.heap.size w5 v5 (U (k + 1)) from ⟨Ext.grown (X4.out.trans ((Ext.refl _).alloc _)) hgr fun j hj => (HO4.out.lt j hj).1, by unfold SO; rw [HU.out.2, HU.out.1, List.map_append]; simpa using hown⟩)
      clear hown hgr
      go_wp2
      go_roundg (n - (k + 1))
      case measure => omega
      case rel => exact ⟨k + 1, by omega, by go_num, HNx⟩
    · obtain rfl : k = n := by omega
      have e1 : ¬ (k : Int) < k := by omega
      go_wp2
      go_ret
      exact ⟨_, rfl, G.out.2, G.out.1⟩
theorem bst_nil' (x : ByteArray) : x ++ bst [] = x := by
  apply ByteArray.ext
  rw [ByteArray.data_append]
  unfold bst; simp
def passT (p : Ps) : List UInt8 := nameT p.id ++ (if p.d = 1 then [62] else [60]) ++ (if p.f = true then [43] else [])
set_option maxHeartbeats 4000000 in
theorem Pass_calls (p : Ps) (w : World) (ht : PTab w) (hp : p.In) : Calls Tryd.prog 61 #[p.val] w fun e w' => e = .returned (.string (bst (passT p))) ∧ Ext w w' := by
  have hl := nameT_len hp.1
  obtain ⟨W, hW⟩ : ∃ W, W = w.alloc (.cells #[.int .u8 p.id.y, .int .i64 p.id.n, .bool p.f, .int .u8 p.d] 50) := ⟨_, rfl⟩
  have XW := Lib.hid (show Ext w W by rw [hW]; exact (Ext.refl _).alloc _)
  have HB := Lib.hid (show B4 W w.heap.size (.int .u8 p.id.y) (.int .i64 p.id.n) (.bool p.f) (.int .u8 p.d) 50 by rw [hW]; exact B4.new _ _ _ _ _ _)
  have HNm := Lib.hid (Name_calls p.id W (ht.ext XW.out) hp.1)
  unfold Nm.val at HNm
  obtain ⟨S1, hS1⟩ : ∃ S1, S1 = bst (nameT p.id) := ⟨_, rfl⟩
  rw [← hS1] at HNm
  have z1 : S1.size ≤ 43 := by rw [hS1, bst_size]; exact hl
  have y1 : ¬ 9223372036854775807 < S1.size + 1 := by omega
  have y2 : ¬ 9223372036854775807 < S1.size + 1 + 1 := by omega
  obtain ⟨R, hR⟩ : ∃ R, R = bst (passT p) := ⟨_, rfl⟩
  have HE := Lib.hid (show S1 ++ (if p.d = 1 then bst [62] else bst [60]) ++ (if p.f = true then bst [43] else bst []) = R by
    rw [hS1, hR]; unfold passT
    split <;> split <;> rw [bst_app, bst_app])
  rw [← hR]
  clear hR
  have HW := Lib.hid hW
  unfold Ps.val
  clear hW hS1 hl
  go_enter Tryd.func61, Tryd.ntmps61
  go_wp2_with fail
  rw [← HW.out]
  refine HNm.out.mono ?_
  rintro e w1 ⟨rfl, x1⟩
  have X1 := Lib.hid (XW.out.trans x1)
  have c2 := (HB.out.ext x1).c2
  have c3 := (HB.out.ext x1).c3
  clear x1
  generalize p.d = D at *
  generalize p.f = F at *
  by_cases hD : D = 1
  · have q1 : (D == 1) = true := by rw [hD]; rfl
    have hE := HE.out
    rw [if_pos hD] at hE
    have HE2 := Lib.hid hE
    clear hD hE
    cases F
    · go_wp2
      go_ret
      have h3 := HE2.out
      rw [if_neg (by decide), bst_nil'] at h3
      rw [← h3]
      exact ⟨rfl, X1.out⟩
    · go_wp2
      go_ret
      have h3 := HE2.out
      rw [if_pos (by trivial)] at h3
      rw [← h3]
      exact ⟨rfl, X1.out⟩
  · have q1 : (D == 1) = false := beq_eq_false_iff_ne.2 hD
    have hE := HE.out
    rw [if_neg hD] at hE
    have HE2 := Lib.hid hE
    clear hD hE
    cases F
    · go_wp2
      go_ret
      have h3 := HE2.out
      rw [if_neg (by decide), bst_nil'] at h3
      rw [← h3]
      exact ⟨rfl, X1.out⟩
    · go_wp2
      go_ret
      have h3 := HE2.out
      rw [if_pos (by trivial)] at h3
      rw [← h3]
      exact ⟨rfl, X1.out⟩
end Go.Proofs.YtlhkehfplcclgaaDoor
