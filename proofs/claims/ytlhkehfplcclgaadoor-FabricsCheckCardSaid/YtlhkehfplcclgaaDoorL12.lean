/- Texts of this claim in one file: libraries and walks. -/
import Derived.Shelf.Strings.Builder1
import Derived.Test.YtlhkehfplcclgaaDoorL0
import Derived.Test.YtlhkehfplcclgaaDoorL11
/- fabrics.names, pass. -/
namespace Go.Proofs.YtlhkehfplcclgaaDoor
set_option linter.unusedVariables false
set_option linter.unusedSimpArgs false
set_option maxRecDepth 8000
open Go Go.RowKit Go.Sort

theorem ekS : EK Tryd.prog 64 9 (.string ⟨#[]⟩) 1 16 := ⟨Tryd.underlying64, by kernel_rfl, rfl, by decide⟩
/-- The cell of a text. -/
def sc (x : List UInt8) : List Value := [.string (bst x)]
theorem Ks.sc (ws : List (List UInt8)) : Ks 1 (ws.map sc) := fun x hx => by
  obtain ⟨a, _, rfl⟩ := List.mem_map.1 hx
  exact ⟨rfl, fun v hv => by simp [Go.Proofs.YtlhkehfplcclgaaDoor.sc] at hv; rw [hv]; rfl⟩
/-- A list of texts in a block of its own. -/
def SO (B : Nat) (w : World) (v : Value) (ws : List (List UInt8)) : Prop := w.ownsRow B 9 1 v ws.length (ws.map sc).flatten
theorem SO.ext {B : Nat} {w w' : World} {v : Value} {ws : List (List UInt8)} (h : SO B w v ws) (x : Ext w w') : SO B w' v ws := own_extk h x
theorem SO.ck {B : Nat} {w : World} {v : Value} {ws : List (List UInt8)} (h : SO B w v ws) : ∃ c, CK 1 w v c (ws.map sc) := CK.of_own h (Ks.sc ws) (by simp) (by decide)
theorem SO.le {B B' : Nat} {w : World} {v : Value} {ws : List (List UInt8)} (h : SO B w v ws) (hb : B' ≤ B) : SO B' w v ws := by
  obtain ⟨h1, h2 | ⟨g, cap, cur, h3, h4, h5⟩⟩ := h
  · exact ⟨h1, .inl h2⟩
  · exact ⟨h1, .inr ⟨g, cap, cur, h3, by omega, h5⟩⟩
theorem SO.new (w : World) (ws : List (List UInt8)) (h9 : ws.length ≤ 1000000) : SO w.heap.size (w.alloc (.cells (ws.map fun x => Value.string (bst x)).toArray 9)) (.slice (some ⟨w.heap.size, 0, none⟩) ws.length ws.length) ws := by
  have hf : (ws.map sc).flatten = ws.map fun x => Value.string (bst x) := by
    clear h9
    induction ws with
    | nil => rfl
    | cons x ws ih => rw [List.map_cons, List.flatten_cons, ih]; rfl
  exact ⟨by rw [hf]; simp, .inr ⟨w.heap.size, ws.length, _, rfl, Nat.le_refl _, Deep.blk_alloc_new _ _, Nat.le_refl _, by unfold maxLen; omega, by simp, by rw [hf, Nat.mul_one]; exact List.take_of_length_le (by simp)⟩⟩
theorem sc_ck (w : World) (x : List UInt8) : CK 1 (w.alloc (.cells #[.string (bst x)] 9)) (.slice (some ⟨w.heap.size, 0, none⟩) 1 1) 1 [sc x] :=
  CK.of_blk (Deep.blk_alloc_new _ _) (Ks.sc [x]) rfl (Nat.le_refl _) (by omega) rfl
/-- A list of texts is returned. -/
def RetS (w : World) (ws : List (List UInt8)) (en : Ending) (w' : World) : Prop := ∃ v, en = .returned v ∧ SO w.heap.size w' v ws ∧ Ext w w'
set_option maxHeartbeats 4000000 in
theorem Names_calls (word : List UInt8) (lv : Value) (c : Nat) (l : List Nm) (w : World) (h : NL w lv c l) (ht : PTab w) (hin : ∀ a ∈ l, a.In) (h9 : l.length ≤ 1000) :
    Calls Tryd.prog 42 #[.string (bst word), lv] w (RetS w (word :: l.map nameT)) := by
  obtain ⟨ao, n, rfl, hn, hnc, hc9, hat⟩ := h.open
  have n9 : n ≤ 1000 := by omega
  obtain ⟨W, hW⟩ : ∃ W, W = w.alloc (.cells #[.string (bst word)] 9) := ⟨_, rfl⟩
  have xW : Ext w W := by rw [hW]; exact (Ext.refl _).alloc _
  obtain ⟨U, hU⟩ : ∃ U : Nat → List (List UInt8), U = fun k => word :: (l.take k).map nameT := ⟨_, rfl⟩
  have H0 := Lib.hid (show Ext w W ∧ SO w.heap.size W (.slice (some ⟨w.heap.size, 0, none⟩) 1 1) (U 0) from ⟨xW, by rw [hU, hW]; exact SO.new w [word] (by simp)⟩)
  have HUl := Lib.hid (show ∀ k, k ≤ n → (U k).length = k + 1 from fun k hk => by rw [hU]; simp; omega)
  have HUs := Lib.hid (show ∀ k, k < n → U (k + 1) = U k ++ [nameT (ni l k)] from fun k hk => by rw [hU]; dsimp only; rw [ni_of (by omega), List.take_succ_eq_append_getElem (by omega), List.map_append]; rfl)
  have HUE := Lib.hid (show word :: l.map nameT = U n by rw [hU, hn]; dsimp only; rw [List.take_length])
  have Hat := Lib.hid (fun i (hi : i < n) => (by obtain ⟨b, o, e, ha⟩ := hat i hi; exact ⟨⟨b, o, e, ha⟩, hin _ (ni_mem (by omega))⟩ : (∃ b o, ao = some ⟨b, o, none⟩ ∧ At2 w b (o + i * 2) (ni l i)) ∧ (ni l i).In))
  have HT := Lib.hid ht
  have HW := Lib.hid hW
  rw [HUE.out]
  clear h hat hn hin h9 hU xW hW ht
  go_enter Tryd.func42, Tryd.ntmps42
  generalize bst word = WD at *
  go_wp2
  rw [← HW.out]
  go_loopg [5, 7, 12] n (fun gk r _ i wr => ∃ k : Nat, k + gk = n ∧ i = .int .i64 k ∧ Hid (Ext w wr ∧ SO w.heap.size wr r (U k)))
  case atStart => exact ⟨0, by omega, rfl, H0⟩
  case round =>
    obtain ⟨k, hk, rfl, G⟩ := hrel
    have hown := G.out.2
    unfold SO at hown
    rw [HUl.out k (by omega)] at hown
    obtain ⟨ar, cr, rfl, _⟩ := own_slice hown
    have HO := Lib.hid hown
    clear hown
    by_cases hlt : k < n
    · obtain ⟨⟨b', o', rfl, hA⟩, hIn⟩ := Hat.out k hlt
      have e1 : (k : Int) < n := by omega
      have e2 : (0 : Int) ≤ k := by omega
      obtain ⟨c0, c1⟩ := hA.ext G.out.1
      have hus := HUs.out k hlt
      have hul := HUl.out (k + 1) (by omega)
      obtain ⟨a, ha⟩ : ∃ a, a = ni l k := ⟨_, rfl⟩
      rw [← ha] at c0 c1 hIn hus
      obtain ⟨W3, hW3⟩ : ∃ W3, W3 = wr.alloc (.cells #[.int .u8 a.y, .int .i64 a.n] 41) := ⟨_, rfl⟩
      have z3 : Ext wr W3 := by rw [hW3]; exact (Ext.refl _).alloc _
      have X3 := Lib.hid (G.out.1.trans z3)
      have Z3 := Lib.hid z3
      have HNm := Lib.hid (Name_calls a W3 (HT.out.ext X3.out) hIn)
      unfold Nm.val at HNm
      have HW3 := Lib.hid hW3; have HU := Lib.hid (And.intro hus hul)
      clear hW3 ha hIn hA z3 hus hul
      go_wp2_with fail
      rw [← HW3.out]
      clear c0 c1
      refine HNm.out.mono ?_
      rintro e w4 ⟨rfl, x4⟩
      have X4 := Lib.hid (X3.out.trans x4)
      have HO4 := Lib.hid (own_extk HO.out (Z3.out.trans x4))
      obtain ⟨NT, hNT⟩ : ∃ NT, NT = nameT a := ⟨_, rfl⟩
      rw [← hNT] at HU ⊢
      clear x4 hNT HNm
      go_wp2_with (at_builtin; refine app_k ekS rfl _ _ rfl w.heap.size _ (k + 1) ((U k).map sc) rfl (own_extk HO4.out ((Ext.refl _).alloc _)) _ 1 [sc NT] rfl (sc_ck _ NT) (Ks.sc [NT]) ?c1 ?c2 ?c3 ?_)
      case c1 => simp; omega
      case c2 => simp; omega
      case c3 => have h1 := X4.out.size; simp; omega
      intro v5 w5 hown hgr
      have HNx := Lib.hid (show Ext w w5 ∧ SO w.heap.size w5 v5 (U (k + 1)) from ⟨Ext.grown (X4.out.trans ((Ext.refl _).alloc _)) hgr fun j hj => (HO4.out.lt j hj).1, by unfold SO; rw [HU.out.2, HU.out.1, List.map_append]; simpa using hown⟩)
      clear hown hgr
      go_wp2
      go_roundg (n - (k + 1))
      case measure => omega
      case rel => exact ⟨k + 1, by omega, by go_num, HNx⟩
    · obtain rfl : k = n := by omega
      have e1 : ¬ (k : Int) < k := by omega
      go_wp2
      go_ret
      exact ⟨_, rfl, G.out.2, G.out.1⟩
theorem bst_nil' (x : ByteArray) : x ++ bst [] = x := by
  apply ByteArray.ext
  rw [ByteArray.data_append]
  unfold bst; simp
def passT (p : Ps) : List UInt8 := nameT p.id ++ (if p.d = 1 then [62] else [60]) ++ (if p.f = true then [43] else [])
set_option maxHeartbeats 4000000 in
theorem Pass_calls (p : Ps) (w : World) (ht : PTab w) (hp : p.In) : Calls Tryd.prog 61 #[p.val] w fun e w' => e = .returned (.string (bst (passT p))) ∧ Ext w w' := by
  have hl := nameT_len hp.1
  obtain ⟨W, hW⟩ : ∃ W, W = w.alloc (.cells #[.int .u8 p.id.y, .int .i64 p.id.n, .bool p.f, .int .u8 p.d] 50) := ⟨_, rfl⟩
  have XW := Lib.hid (show Ext w W by rw [hW]; exact (Ext.refl _).alloc _)
  have HB := Lib.hid (show B4 W w.heap.size (.int .u8 p.id.y) (.int .i64 p.id.n) (.bool p.f) (.int .u8 p.d) 50 by rw [hW]; exact B4.new _ _ _ _ _ _)
  have HNm := Lib.hid (Name_calls p.id W (ht.ext XW.out) hp.1)
  unfold Nm.val at HNm
  obtain ⟨S1, hS1⟩ : ∃ S1, S1 = bst (nameT p.id) := ⟨_, rfl⟩
  rw [← hS1] at HNm
  have z1 : S1.size ≤ 43 := by rw [hS1, bst_size]; exact hl
  have y1 : ¬ 9223372036854775807 < S1.size + 1 := by omega
  have y2 : ¬ 9223372036854775807 < S1.size + 1 + 1 := by omega
  obtain ⟨R, hR⟩ : ∃ R, R = bst (passT p) := ⟨_, rfl⟩
  have HE := Lib.hid (show S1 ++ (if p.d = 1 then bst [62] else bst [60]) ++ (if p.f = true then bst [43] else bst []) = R by
    rw [hS1, hR]; unfold passT
    split <;> split <;> rw [bst_app, bst_app])
  rw [← hR]
  clear hR
  have HW := Lib.hid hW
  unfold Ps.val
  clear hW hS1 hl
  go_enter Tryd.func61, Tryd.ntmps61
  go_wp2_with fail
  rw [← HW.out]
  refine HNm.out.mono ?_
  rintro e w1 ⟨rfl, x1⟩
  have X1 := Lib.hid (XW.out.trans x1)
  have c2 := (HB.out.ext x1).c2
  have c3 := (HB.out.ext x1).c3
  clear x1
  generalize p.d = D at *
  generalize p.f = F at *
  by_cases hD : D = 1
  · have q1 : (D == 1) = true := by rw [hD]; rfl
    have hE := HE.out
    rw [if_pos hD] at hE
    have HE2 := Lib.hid hE
    clear hD hE
    cases F
    · go_wp2
      go_ret
      have h3 := HE2.out
      rw [if_neg (by decide), bst_nil'] at h3
      rw [← h3]
      exact ⟨rfl, X1.out⟩
    · go_wp2
      go_ret
      have h3 := HE2.out
      rw [if_pos (by trivial)] at h3
      rw [← h3]
      exact ⟨rfl, X1.out⟩
  · have q1 : (D == 1) = false := beq_eq_false_iff_ne.2 hD
    have hE := HE.out
    rw [if_neg hD] at hE
    have HE2 := Lib.hid hE
    clear hD hE
    cases F
    · go_wp2
      go_ret
      have h3 := HE2.out
      rw [if_neg (by decide), bst_nil'] at h3
      rw [← h3]
      exact ⟨rfl, X1.out⟩
    · go_wp2
      go_ret
      have h3 := HE2.out
      rw [if_pos (by trivial)] at h3
      rw [← h3]
      exact ⟨rfl, X1.out⟩
end Go.Proofs.YtlhkehfplcclgaaDoor
/- fabrics.describe. -/
namespace Go.Proofs.YtlhkehfplcclgaaDoor
set_option linter.unusedVariables false
set_option linter.unusedSimpArgs false
set_option maxRecDepth 8000
open Go Go.RowKit Go.Sort

def frontT : List UInt8 := [102, 114, 111, 110, 116]
def backT : List UInt8 := [98, 97, 99, 107]
def newT : List UInt8 := [110, 101, 119]
def throughT : List UInt8 := [116, 104, 114, 111, 117, 103, 104]
def pastT : List UInt8 := [112, 97, 115, 116]
/-- The words of a loop. -/
def d1T (a : Nm) (l : Lp) : List (List UInt8) := [nameT a, if l.bed = 1 then backT else frontT]
def d2T (a : Nm) (l : Lp) : List (List UInt8) := d1T a l ++ if l.new = true then [newT] else []
def d3T (a : Nm) (l : Lp) : List (List UInt8) := d2T a l ++ if l.thr = [] then [] else throughT :: l.thr.map nameT
def d4T (a : Nm) (l : Lp) : List (List UInt8) := d3T a l ++ if l.past = [] then [] else [pastT]
def descT (a : Nm) (l : Lp) : List (List UInt8) := d4T a l ++ l.past.map passT
set_option maxHeartbeats 8000000 in
theorem Desc_calls (a : Nm) (l : Lp) (u v : Value) (d1 d2 : Nat) (w : World) (hu : NL w u d1 l.thr) (hv : PL w v d2 l.past) (ht : PTab w) (ha : a.In) (hl : l.In) (h1 : l.thr.length ≤ 1000) (h2 : l.past.length ≤ 1000) :
    Calls Tryd.prog 39 #[a.val, .agg #[.int .u8 l.bed, .bool l.new, u, v]] w (RetS w (descT a l)) := by
  have HNs := Lib.hid (fun w' (x : Ext w w') => Names_calls throughT u d1 l.thr w' (hu.ext x) (ht.ext x) hl.2.1 h1)
  obtain ⟨ua, un, rfl, hun, hud, hu9, huat⟩ := hu.open
  obtain ⟨va, vn, rfl, hvn, hvd, hv9, hvat⟩ := hv.open
  obtain ⟨W, hW⟩ : ∃ W, W = (w.alloc (.cells #[.int .u8 a.y, .int .i64 a.n] 41)).alloc (.cells #[.int .u8 l.bed, .bool l.new, .slice ua un d1, .slice va vn d2] 46) := ⟨_, rfl⟩
  have xW : Ext w W := by rw [hW]; exact ((Ext.refl _).alloc _).alloc _
  have hA : BN W w.heap.size a := by rw [hW]; exact (BN.new w a).ext ((Ext.refl _).alloc _)
  have HB := Lib.hid (show B4 W (w.heap.size + 1) (.int .u8 l.bed) (.bool l.new) (.slice ua un d1) (.slice va vn d2) 46 by rw [hW]; have := B4.new (w.alloc (.cells #[.int .u8 a.y, .int .i64 a.n] 41)) (.int .u8 l.bed) (.bool l.new) (.slice ua un d1) (.slice va vn d2) 46; simpa using this)
  have HNm := Lib.hid (fun w' (x : Ext w w') => Name_calls a w' (ht.ext x) ha)
  obtain ⟨a0, a1⟩ := hA.at
  simp only [Nat.zero_add] at a1
  have Hv := Lib.hid (fun i (hi : i < vn) => (by obtain ⟨b, o, e, ha⟩ := hvat i hi; exact ⟨⟨b, o, e, ha⟩, hl.2.2 _ (qi_mem (by omega))⟩ : (∃ b o, va = some ⟨b, o, none⟩ ∧ At4 w b (o + i * 4) (qi l.past i)) ∧ (qi l.past i).In))
  have HT := Lib.hid ht; have XW := Lib.hid xW; have HW := Lib.hid hW; have Hun := Lib.hid hun; have Hvn := Lib.hid hvn
  have un9 : un ≤ 1000 := by omega
  have vn9 : vn ≤ 1000 := by omega
  have hwl : w.heap.size + 1 < W.heap.size := HB.out.lt
  obtain ⟨R, hR⟩ : ∃ R, R = descT a l := ⟨_, rfl⟩
  rw [← hR]
  have HR := Lib.hid hR
  unfold Nm.val at HNm ⊢
  clear hu hv huat hvat hun hvn h1 h2 ha hl ht hW xW hA hR
  go_enter Tryd.func39, Tryd.ntmps39
  go_wp2_with fail
  rw [← HW.out]
  clear a0 a1
  refine (HNm.out W XW.out).mono ?_
  rintro e w1 ⟨rfl, x1⟩
  have X1 := Lib.hid x1
  clear x1
  obtain ⟨NT, hNT⟩ : ∃ NT, NT = nameT a := ⟨_, rfl⟩
  rw [← hNT]
  obtain ⟨W2, hW2⟩ : ∃ W2, W2 = w1.alloc (.cells #[.string (bst NT), .string { data := #[102, 114, 111, 110, 116] }] 9) := ⟨_, rfl⟩
  obtain ⟨g, hg⟩ : ∃ g, g = w1.heap.size := ⟨_, rfl⟩
  have hgW : W.heap.size ≤ g := by rw [hg]; exact X1.out.size
  have S2 := Lib.hid (show Ext W W2 ∧ W2.heap[g]? = some (.cells #[.string (bst NT), .string { data := #[102, 114, 111, 110, 116] }] 9 (0, 0)) from ⟨by rw [hW2]; exact X1.out.trans ((Ext.refl _).alloc _), by rw [hW2, hg]; exact Deep.blk_alloc_new _ _⟩)
  have HW2 := Lib.hid hW2; have Hg := Lib.hid hg; have HNT := Lib.hid hNT
  have cb := cell_alloc (HB.out.ext X1.out).c0 (.cells #[.string (bst NT), .string { data := #[102, 114, 111, 110, 116] }] 9)
  have cl : w.heap.size + 1 < w1.heap.size := (HB.out.ext X1.out).lt
  clear hW2 hg hNT
  go_upto_if 13 with fail
  rw [← HW2.out, ← Hg.out]
  clear cb cl
  obtain ⟨BD, hBD⟩ : ∃ BD, BD = l.bed := ⟨_, rfl⟩
  obtain ⟨L1, hL1⟩ : ∃ L1, L1 = d1T a l := ⟨_, rfl⟩
  have HL1 := Lib.hid (And.intro hL1 hBD)
  have hB0 := HB.out
  have cc0 := (HB.out.ext S2.out.1).c0
  rw [← hBD] at cc0 ⊢
  clear hL1 hBD
  go_cut [5] from 8 to 50 (fun p wx => Hid (SO W.heap.size wx p L1 ∧ Ext W wx))
  case first =>
    by_cases hb1 : BD = 1
    · have q1 : (BD == 1) = true := by rw [hb1]; rfl
      have hb := S2.out.2
      have fz : W2.frozen? ⟨g, 1, none⟩ = false := by simp [World.frozen?, hb]
      have c1 : W2.cell? ⟨g, 1, none⟩ = some (.string { data := #[102, 114, 111, 110, 116] }) := by simp [World.cell?, hb]
      have HF := Lib.hid (show SO W.heap.size (W2.setCell ⟨g, 1, none⟩ (.string { data := #[98, 97, 99, 107] })) (.slice (some ⟨g, 0, none⟩) 2 2) L1 ∧ Ext W (W2.setCell ⟨g, 1, none⟩ (.string { data := #[98, 97, 99, 107] })) from ⟨by
        have hb' : (W2.setCell ⟨g, 1, none⟩ (.string { data := #[98, 97, 99, 107] })).heap[g]? = some (.cells #[.string (bst NT), .string (bst backT)] 9 (0, 0)) := by
          simp [World.setCell, Array.getElem?_modify, hb]; rfl
        rw [HL1.out.1]
        unfold d1T
        rw [if_pos (by rw [← HL1.out.2]; exact hb1), ← HNT.out]
        exact ⟨rfl, .inr ⟨g, 2, _, rfl, hgW, hb', Nat.le_refl _, by unfold maxLen; omega, rfl, rfl⟩⟩, Ext.setCell S2.out.1 hgW _⟩)
      clear hb1 hb hB0
      go_wp2_with fail
      go_meet
      case rel => exact HF
    · have q1 : (BD == 1) = false := beq_eq_false_iff_ne.2 hb1
      have HF := Lib.hid (show SO W.heap.size W2 (.slice (some ⟨g, 0, none⟩) 2 2) L1 ∧ Ext W W2 from ⟨by
        rw [HL1.out.1]
        unfold d1T
        rw [if_neg (by rw [← HL1.out.2]; exact hb1), ← HNT.out]
        exact ⟨rfl, .inr ⟨g, 2, _, rfl, hgW, S2.out.2, Nat.le_refl _, by unfold maxLen; omega, rfl, rfl⟩⟩, S2.out.1⟩)
      clear hb1 hB0
      go_wp2_with fail
      go_meet
      case rel => exact HF
  case rest =>
    have hlen : (d1T a l).length ≤ 2 ∧ (d2T a l).length ≤ 3 ∧ (d3T a l).length ≤ 1004 ∧ (d4T a l).length ≤ 1005 := by
      have h1 : (d1T a l).length = 2 := rfl
      have h2 : (d2T a l).length ≤ 3 := by unfold d2T; rw [List.length_append, h1]; split <;> simp
      have h3 : (d3T a l).length ≤ 1004 := by
        unfold d3T; rw [List.length_append]
        split
        · simp; omega
        · rw [List.length_cons, List.length_map, ← Hun.out]; omega
      have h4 : (d4T a l).length ≤ 1005 := by
        unfold d4T; rw [List.length_append]
        split
        · simp; omega
        · simp; omega
      omega
    have HLen := Lib.hid hlen
    clear hlen
    have R1 := hcut
    clear hcut
    obtain ⟨wq1, hwq⟩ : ∃ wq, wq = wc := ⟨_, rfl⟩
    subst hwq
    have hown := R1.out.1
    unfold SO at hown
    obtain ⟨m1, hm⟩ : ∃ m, m = L1.length := ⟨_, rfl⟩
    rw [← hm] at hown
    obtain ⟨al1, cl1, rfl, _⟩ := own_slice hown
    have HO1 := Lib.hid hown
    have Hm1 := Lib.hid hm
    have hm91 : m1 ≤ 100000 := by rw [hm, HL1.out.1]; have := HLen.out; omega
    clear hown hm
    obtain ⟨NW, hNW⟩ : ∃ NW, NW = l.new := ⟨_, rfl⟩
    obtain ⟨L2, hL2⟩ : ∃ L2, L2 = d2T a l := ⟨_, rfl⟩
    have HL2 := Lib.hid (And.intro hL2 hNW)
    have cc1 := (HB.out.ext R1.out.2).c1
    rw [← hNW] at cc1
    clear hNW hL2
    go_upto_if 17 with fail
    go_cut [5] from 8 to 50 (fun p wx => Hid (SO W.heap.size wx p L2 ∧ Ext W wx))
    case first =>
      cases hN : NW with
      | true =>
        have HE := Lib.hid (show L2 = L1 ++ [newT] by rw [HL2.out.1, HL1.out.1]; unfold d2T; rw [← HL2.out.2, hN, if_pos rfl])
        clear hN
        go_wp2_with (at_builtin; refine app_k ekS rfl _ _ rfl W.heap.size _ m1 (L1.map sc) rfl (own_extk HO1.out ((Ext.refl _).alloc _)) _ 1 [sc newT] rfl (sc_ck _ newT) (Ks.sc [newT]) ?ca1 ?ca2 ?ca3 ?_)
        case ca1 => simp; omega
        case ca2 => simp; omega
        case ca3 => have h1 := R1.out.2.size; simp; omega
        intro v5 w5 hown hgr
        have HNx := Lib.hid (show SO W.heap.size w5 v5 L2 ∧ Ext W w5 from ⟨by unfold SO; rw [HE.out, List.length_append, List.map_append, ← Hm1.out]; simpa using hown, Ext.grown (R1.out.2.trans ((Ext.refl _).alloc _)) hgr fun j hj => (HO1.out.lt j hj).1⟩)
        clear hown hgr
        go_wp2_with fail
        go_meet
        case rel => exact HNx
      | false =>
        have HE := Lib.hid (show L2 = L1 by rw [HL2.out.1, HL1.out.1]; unfold d2T; rw [← HL2.out.2, hN, if_neg (by decide), List.append_nil])
        have HNx := Lib.hid (show SO W.heap.size wq1 (.slice al1 m1 cl1) L2 ∧ Ext W wq1 from ⟨by rw [HE.out]; exact R1.out.1, R1.out.2⟩)
        clear hN
        go_wp2_with fail
        go_meet
        case rel => exact HNx
    case rest =>
      have R2 := hcut
      clear hcut
      obtain ⟨wq2, hwq⟩ : ∃ wq, wq = wc := ⟨_, rfl⟩
      subst hwq
      have hown := R2.out.1
      unfold SO at hown
      obtain ⟨m2, hm⟩ : ∃ m, m = L2.length := ⟨_, rfl⟩
      rw [← hm] at hown
      obtain ⟨al2, cl2, rfl, _⟩ := own_slice hown
      have HO2 := Lib.hid hown
      have Hm2 := Lib.hid hm
      have hm92 : m2 ≤ 100000 := by rw [hm, HL2.out.1]; have := HLen.out; omega
      clear hown hm
      obtain ⟨L3, hL3⟩ : ∃ L3, L3 = d3T a l := ⟨_, rfl⟩
      have HL3 := Lib.hid (And.intro hL3 trivial)
      have cc1 := (HB.out.ext R2.out.2).c2
      clear hL3
      go_upto_if 24 with fail
      go_cut [5] from 8 to 50 (fun p wx => Hid (SO W.heap.size wx p L3 ∧ Ext W wx))
      case first =>
        by_cases hN : 0 < un
        · have HE := Lib.hid (show L3 = L2 ++ throughT :: l.thr.map nameT by rw [HL3.out.1, HL2.out.1]; unfold d3T; rw [if_neg (fun e => by have := Hun.out; rw [e] at this; simp at this; omega)])
          have e1 : (0 : Int) < un := by omega
          go_wp2_with fail
          refine (HNs.out wq2 (XW.out.trans R2.out.2)).mono ?_
          rintro e w4 ⟨vN, rfl, hso, x4⟩
          have X4 := Lib.hid (R2.out.2.trans x4)
          have HO4 := Lib.hid (own_extk HO2.out x4)
          obtain ⟨cN, hcN⟩ := hso.ck
          obtain ⟨Z, hZ⟩ : ∃ Z, Z = throughT :: l.thr.map nameT := ⟨_, rfl⟩
          have hZn : Z.length = un + 1 := by rw [hZ, List.length_cons, List.length_map, Hun.out]
          rw [← hZ] at HE hcN
          have HZ := Lib.hid (And.intro hcN hZn)
          obtain ⟨aN, nN, rfl, hnN⟩ : ∃ aN nN, vN = .slice aN nN cN ∧ nN = un + 1 := by obtain ⟨ao, e1, _⟩ := hcN; exact ⟨ao, _, e1, by rw [List.length_map, hZn]⟩
          clear hso hcN hZ hZn x4 hnN
          go_wp2_with (at_builtin; refine app_k ekS rfl _ _ rfl W.heap.size _ m2 (L2.map sc) rfl HO4.out _ cN (Z.map sc) rfl HZ.out.1 (Ks.sc Z) ?cb1 ?cb2 ?cb3 ?_)
          case cb1 => rw [List.length_map, HZ.out.2]; omega
          case cb2 => rw [List.length_map, HZ.out.2]; omega
          case cb3 => exact X4.out.size
          intro v5 w5 hown hgr
          have HNx := Lib.hid (show SO W.heap.size w5 v5 L3 ∧ Ext W w5 from ⟨by unfold SO; rw [HE.out, List.length_append, List.map_append, ← Hm2.out]; simpa using hown, Ext.grown X4.out hgr fun j hj => (HO4.out.lt j hj).1⟩)
          clear hown hgr
          go_wp2_with fail
          go_meet
          case rel => exact HNx
        · have HE := Lib.hid (show L3 = L2 by rw [HL3.out.1, HL2.out.1]; unfold d3T; rw [if_pos (List.eq_nil_of_length_eq_zero (by have := Hun.out; omega)), List.append_nil])
          have e1 : ¬ (0 : Int) < un := by omega
          have HNx := Lib.hid (show SO W.heap.size wq2 (.slice al2 m2 cl2) L3 ∧ Ext W wq2 from ⟨by rw [HE.out]; exact R2.out.1, R2.out.2⟩)
          go_wp2_with fail
          go_meet
          case rel => exact HNx
      case rest =>
        have R3 := hcut
        clear hcut
        obtain ⟨wq3, hwq⟩ : ∃ wq, wq = wc := ⟨_, rfl⟩
        subst hwq
        have hown := R3.out.1
        unfold SO at hown
        obtain ⟨m3, hm⟩ : ∃ m, m = L3.length := ⟨_, rfl⟩
        rw [← hm] at hown
        obtain ⟨al3, cl3, rfl, _⟩ := own_slice hown
        have HO3 := Lib.hid hown
        have Hm3 := Lib.hid hm
        have hm93 : m3 ≤ 100000 := by rw [hm, HL3.out.1]; have := HLen.out; omega
        clear hown hm
        obtain ⟨L4, hL4⟩ : ∃ L4, L4 = d4T a l := ⟨_, rfl⟩
        have HL4 := Lib.hid (And.intro hL4 trivial)
        have cc1 := (HB.out.ext R3.out.2).c3
        clear hL4
        go_upto_if 33 with fail
        go_cut [5] from 8 to 50 (fun p wx => Hid (SO W.heap.size wx p L4 ∧ Ext W wx))
        case first =>
          by_cases hN : 0 < vn
          · have HE := Lib.hid (show L4 = L3 ++ [pastT] by rw [HL4.out.1, HL3.out.1]; unfold d4T; rw [if_neg (fun e => by have := Hvn.out; rw [e] at this; simp at this; omega)])
            have e1 : (0 : Int) < vn := by omega
            go_wp2_with (at_builtin; refine app_k ekS rfl _ _ rfl W.heap.size _ m3 (L3.map sc) rfl (own_extk HO3.out ((Ext.refl _).alloc _)) _ 1 [sc pastT] rfl (sc_ck _ pastT) (Ks.sc [pastT]) ?cc1 ?cc2 ?cc3 ?_)
            case cc1 => simp; omega
            case cc2 => simp; omega
            case cc3 => have h1 := R3.out.2.size; simp; omega
            intro v5 w5 hown hgr
            have HNx := Lib.hid (show SO W.heap.size w5 v5 L4 ∧ Ext W w5 from ⟨by unfold SO; rw [HE.out, List.length_append, List.map_append, ← Hm3.out]; simpa using hown, Ext.grown (R3.out.2.trans ((Ext.refl _).alloc _)) hgr fun j hj => (HO3.out.lt j hj).1⟩)
            clear hown hgr
            go_wp2_with fail
            go_meet
            case rel => exact HNx
          · have HE := Lib.hid (show L4 = L3 by rw [HL4.out.1, HL3.out.1]; unfold d4T; rw [if_pos (List.eq_nil_of_length_eq_zero (by have := Hvn.out; omega)), List.append_nil])
            have e1 : ¬ (0 : Int) < vn := by omega
            have HNx := Lib.hid (show SO W.heap.size wq3 (.slice al3 m3 cl3) L4 ∧ Ext W wq3 from ⟨by rw [HE.out]; exact R3.out.1, R3.out.2⟩)
            go_wp2_with fail
            go_meet
            case rel => exact HNx
        case rest =>
          have R4 := hcut
          clear hcut
          obtain ⟨wq4, hwq⟩ : ∃ wq, wq = wc := ⟨_, rfl⟩
          subst hwq
          have hown := R4.out.1
          unfold SO at hown
          obtain ⟨m4, hm⟩ : ∃ m, m = L4.length := ⟨_, rfl⟩
          rw [← hm] at hown
          obtain ⟨al4, cl4, rfl, _⟩ := own_slice hown
          have HO4 := Lib.hid hown
          have Hm4 := Lib.hid hm
          have hm94 : m4 ≤ 100000 := by rw [hm, HL4.out.1]; have := HLen.out; omega
          clear hown hm
          have cc1 := (HB.out.ext R4.out.2).c3
          obtain ⟨U, hU⟩ : ∃ U : Nat → List (List UInt8), U = fun k => L4 ++ (l.past.take k).map passT := ⟨_, rfl⟩
          have HU0 := Lib.hid (show U 0 = L4 by rw [hU]; simp)
          have HUl := Lib.hid (show ∀ k, k ≤ vn → (U k).length = m4 + k from fun k hk => by rw [hU]; have := Hvn.out; dsimp only; rw [List.length_append, ← Hm4.out, List.length_map, List.length_take]; omega)
          have HUs := Lib.hid (show ∀ k, k < vn → U (k + 1) = U k ++ [passT (qi l.past k)] from fun k hk => by rw [hU]; have := Hvn.out; dsimp only; rw [qi_of (by omega), List.take_succ_eq_append_getElem (by omega), List.map_append, List.append_assoc]; rfl)
          have HUE := Lib.hid (show R = U vn by rw [HR.out, hU]; dsimp only; rw [Hvn.out, List.take_length, HL4.out.1]; rfl)
          clear hU
          go_wp2
          clear cc1
          go_loopg [5, 7, 40] vn (fun gk r _ i wr => ∃ k : Nat, k + gk = vn ∧ i = .int .i64 k ∧ Hid (Ext W wr ∧ SO W.heap.size wr r (U k)))
          case atStart => exact ⟨0, by omega, rfl, Lib.hid ⟨R4.out.2, by rw [HU0.out]; exact R4.out.1⟩⟩
          case round =>
            obtain ⟨k, hk, rfl, G⟩ := hrel
            have hown := G.out.2
            unfold SO at hown
            rw [HUl.out k (by omega)] at hown
            obtain ⟨ar, cr, rfl, _⟩ := own_slice hown
            have HO := Lib.hid hown
            clear hown
            by_cases hlt : k < vn
            · obtain ⟨⟨b', o', rfl, hA⟩, hIn⟩ := Hv.out k hlt
              have e1 : (k : Int) < vn := by omega
              have e2 : (0 : Int) ≤ k := by omega
              obtain ⟨c0, c1, c2, c3⟩ := hA.ext (XW.out.trans G.out.1)
              have hus := HUs.out k hlt
              have hul := HUl.out (k + 1) (by omega)
              obtain ⟨p, hp⟩ : ∃ p, p = qi l.past k := ⟨_, rfl⟩
              rw [← hp] at c0 c1 c2 c3 hIn hus
              obtain ⟨W3, hW3⟩ : ∃ W3, W3 = wr.alloc (.cells #[.int .u8 p.id.y, .int .i64 p.id.n, .bool p.f, .int .u8 p.d] 50) := ⟨_, rfl⟩
              have z3 : Ext wr W3 := by rw [hW3]; exact (Ext.refl _).alloc _
              have X3 := Lib.hid (G.out.1.trans z3)
              have Z3 := Lib.hid z3
              have HPs := Lib.hid (Pass_calls p W3 (HT.out.ext (XW.out.trans X3.out)) hIn)
              unfold Ps.val at HPs
              have HW3 := Lib.hid hW3; have HU := Lib.hid (And.intro hus hul)
              clear hW3 hp hIn hA z3 hus hul
              go_wp2_with fail
              rw [← HW3.out]
              clear c0 c1 c2 c3
              refine HPs.out.mono ?_
              rintro e w4 ⟨rfl, x4⟩
              have X4 := Lib.hid (X3.out.trans x4)
              have HO4 := Lib.hid (own_extk HO.out (Z3.out.trans x4))
              obtain ⟨PT, hPT⟩ : ∃ PT, PT = passT p := ⟨_, rfl⟩
              rw [← hPT] at HU ⊢
              clear x4 hPT HPs
              go_wp2_with (at_builtin; refine app_k ekS rfl _ _ rfl W.heap.size _ (m4 + k) ((U k).map sc) rfl (own_extk HO4.out ((Ext.refl _).alloc _)) _ 1 [sc PT] rfl (sc_ck _ PT) (Ks.sc [PT]) ?cd1 ?cd2 ?cd3 ?_)
              case cd1 => simp; omega
              case cd2 => simp; omega
              case cd3 => have h1 := X4.out.size; simp; omega
              intro v5 w5 hown hgr
              have HNx := Lib.hid (show Ext W w5 ∧ SO W.heap.size w5 v5 (U (k + 1)) from ⟨Ext.grown (X4.out.trans ((Ext.refl _).alloc _)) hgr fun j hj => (HO4.out.lt j hj).1, by unfold SO; rw [HU.out.2, HU.out.1, List.map_append]; simpa [Nat.add_assoc] using hown⟩)
              clear hown hgr
              go_wp2
              go_roundg (vn - (k + 1))
              case measure => omega
              case rel => exact ⟨k + 1, by omega, by go_num, HNx⟩
            · obtain rfl : k = vn := by omega
              have e1 : ¬ (k : Int) < k := by omega
              go_wp2
              go_ret
              exact ⟨_, rfl, by rw [HUE.out]; exact SO.le G.out.2 (by have := XW.out.size; omega), XW.out.trans G.out.1⟩
end Go.Proofs.YtlhkehfplcclgaaDoor
/- Contracts of strings.Builder's copyCheck and WriteByte (the shelf's walks, turned to this dump, whose copyCheck ends otherwise at a copied builder). -/
namespace Go.Proofs.YtlhkehfplcclgaaDoor
set_option linter.unusedVariables false
set_option linter.unusedSimpArgs false
open Go Go.RowKit Go.Shelf

theorem bld_info : (Tryd.prog.info? 86).map (·.size) = some 2 := by kernel_rfl

set_option maxHeartbeats 1000000 in
set_option maxRecDepth 100000 in
theorem bld_check_used (b : Nat) (w : World) (h0 : w.cell? ⟨b, 0, none⟩ = some (.pointer (some ⟨b, 0, none⟩))) :
    Calls Tryd.prog 59 #[.pointer (some ⟨b, 0, none⟩)] w fun e w' => e = .returned (.tuple #[]) ∧ w' = w := by
  obtain ⟨j, hj, _⟩ := Option.map_eq_some_iff.1 bld_info
  go_enter Tryd.func59, Tryd.ntmps59
  go_wp2
  rw [Lib.run_neq_ptr_same w _ Tryd.underlying84 hj]
  go_wp2
  go_end0
  exact ⟨rfl, rfl⟩

set_option maxHeartbeats 1000000 in
set_option maxRecDepth 100000 in
theorem bld_check_fresh (b : Nat) (w : World) (h0 : w.cell? ⟨b, 0, none⟩ = some (.pointer none)) (hsh : w.shape? b = some (86, 2)) (hfz : w.frozen? ⟨b, 0, none⟩ = false) :
    Calls Tryd.prog 59 #[.pointer (some ⟨b, 0, none⟩)] w fun e w' => e = .returned (.tuple #[]) ∧ w' = w.setCell ⟨b, 0, none⟩ (.pointer (some ⟨b, 0, none⟩)) := by
  obtain ⟨j, hj, hjs⟩ := Option.map_eq_some_iff.1 bld_info
  go_enter Tryd.func59, Tryd.ntmps59
  go_wp2
  rw [Lib.run_to_unsafe w ⟨b, 0, none⟩ Tryd.underlying84 Tryd.underlying123 hj (by rw [hjs]; decide) hsh (Nat.zero_lt_succ 1)]
  simp only [Result.andThen]
  rw [Oper.upon_value]
  go_wp2
  rw [run_callFunc_extern Tryd.func69 (by kernel_rfl) (by kernel_rfl) (by kernel_rfl) (e := Extern.AbiNoEscape.same) (by kernel_rfl)]
  rw [Lib.run_noEscape]
  simp only [Result.andThen]
  rw [Oper.upon_value]
  go_wp2
  rw [Lib.run_from_unsafe w ⟨b, 0, none⟩ Tryd.underlying123 Tryd.underlying84 hj hsh (by kernel_rfl)]
  simp only [Result.andThen]
  rw [Oper.upon_value]
  go_wp2
  go_end0
  exact ⟨rfl, rfl⟩

theorem bld_check (B b : Nat) (bs : List Value) (w : World) (h : Lib.IsBuilder 86 5 B b bs w) :
    Calls Tryd.prog 59 #[.pointer (some ⟨b, 0, none⟩)] w fun e w' => e = .returned (.tuple #[]) ∧ (Lib.BuilderAt 86 5 B b (.pointer (some ⟨b, 0, none⟩)) bs w' ∧ Below B w w') := by
  rcases h with h | h
  · refine (bld_check_fresh b w h.cell0 h.shape h.frozen0).mono ?_
    rintro e w' ⟨rfl, rfl⟩
    exact ⟨rfl, h.used _, (Below.refl B w).setCell (p := ⟨b, 0, none⟩) h.1 _⟩
  · refine (bld_check_used b w h.cell0).mono ?_
    rintro e w' ⟨rfl, rfl⟩
    exact ⟨rfl, h, Below.refl B _⟩

set_option maxHeartbeats 2000000 in
set_option maxRecDepth 100000 in
theorem bld_byte (B b : Nat) (bs : List Value) (c : Int) (w : World) (h : Lib.IsBuilder 86 5 B b bs w) (hlen : bs.length + 1 ≤ 140737488355328) (hBw : B ≤ w.heap.size) :
    Calls Tryd.prog 38 #[.pointer (some ⟨b, 0, none⟩), .int .u8 c] w fun e w' => e = .returned .nilIface ∧ (Lib.IsBuilder 86 5 B b (bs ++ [.int .u8 c]) w' ∧ Below B w w') := by
  obtain ⟨i0, hi, hz0, hz1, hz2⟩ := info_parts (show (Tryd.prog.info? 5).map (fun i => (i.zero, i.size, i.bytes)) = some (some (.int .u8 0), 1, 1) by kernel_rfl)
  go_enter Tryd.func38, Tryd.ntmps38
  go_wp2_with (go_at_call 59; refine (bld_check B b bs _ h).mono ?_)
  rintro e w1 ⟨rfl, h1, hb1⟩
  obtain ⟨hB, v, hbk, hown, hne⟩ := h1
  have c0 : w1.cell? ⟨b, 0, none⟩ = some (.pointer (some ⟨b, 0, none⟩)) := by rw [Lib.cell_of_heap hbk]; rfl
  have c1 : w1.cell? ⟨b, 1, none⟩ = some v := by rw [Lib.cell_of_heap hbk]; rfl
  go_wp2_with (at_builtin; refine wpList_append_own _ rfl _ _ 25 rfl B 5 i0 (.int .u8 0) 1 1 Tryd.underlying25 hi hz0 hz1 hz2 rfl (by decide) _ _ _ rfl (hown.alloc _) ⟨w1.heap.size, 0, none⟩ 1 1 [.int .u8 c] rfl rfl ?c1 ?c2 ?c3 ?c4 ?c5 ?_)
  case c1 =>
    intro j u hj
    match j, hj with
    | 0, hj => simp at hj; subst hj; simp [Addr.add]
  case c2 => intro u hu; simp at hu; subst hu; rfl
  case c3 => unfold maxLen; omega
  case c4 => omega
  case c5 => have := hb1.size; simp; omega
  intro v' w2 hown' hgrow _
  have hlt : b < w1.heap.size := by
    rcases Nat.lt_or_ge b w1.heap.size with h' | h'
    · exact h'
    · simp [Array.getElem?_eq_none h'] at hbk
  have hb2 : w2.heap[b]? = some (.cells #[.pointer (some ⟨b, 0, none⟩), v] 86 (0, 0)) := by
    rw [hgrow.block b (by simp; omega) (fun e => hne e.symm), Lib.alloc_old w1 _ b hlt]
    exact hbk
  have d0 : w2.cell? ⟨b, 0, none⟩ = some (.pointer (some ⟨b, 0, none⟩)) := by rw [Lib.cell_of_heap hb2]; rfl
  have d1 : w2.cell? ⟨b, 1, none⟩ = some v := by rw [Lib.cell_of_heap hb2]; rfl
  have f1 : w2.frozen? ⟨b, 1, none⟩ = false := Lib.frozen_of_heap hb2 1
  obtain ⟨g, cap, rfl⟩ : ∃ g cap, v' = .slice (some ⟨g, 0, none⟩) (bs.length + 1) cap := by
    rcases hown'.2 with ⟨_, h0⟩ | ⟨g, cap, cur, hv, _⟩
    · omega
    · exact ⟨g, cap, hv⟩
  go_wp2
  go_ret
  refine ⟨rfl, .inr ?_, ?_⟩
  · exact Lib.BuilderAt.put (T := 86) (e := 5) hB hb2 (bs' := bs ++ [.int .u8 c]) (by simpa using hown') (by decide)
  · exact ((hb1.alloc (by have := hb1.size; omega) _).grown hgrow (by have := hb1.size; simp; omega) (fun k hk => (hown.lt k hk).1)).setCell (p := ⟨b, 1, none⟩) hB _

/-- What lies in other blocks, of another type than bytes, is kept. -/
def KeptBut (b : Nat) (w w' : World) : Prop := ∀ (g : Nat) (o : Array Value) (t : TypeId), w.heap[g]? = some (.cells o t (0, 0)) → g ≠ b → t ≠ 5 → w'.heap[g]? = some (.cells o t (0, 0))
theorem bld_check2 (B b : Nat) (bs : List Value) (w : World) (h : Lib.IsBuilder 86 5 B b bs w) :
    Calls Tryd.prog 59 #[.pointer (some ⟨b, 0, none⟩)] w fun e w' => e = .returned (.tuple #[]) ∧ (Lib.BuilderAt 86 5 B b (.pointer (some ⟨b, 0, none⟩)) bs w' ∧ Below B w w' ∧ KeptBut b w w') := by
  rcases h with h | h
  · refine (bld_check_fresh b w h.cell0 h.shape h.frozen0).mono ?_
    rintro e w' ⟨rfl, rfl⟩
    exact ⟨rfl, h.used _, (Below.refl B w).setCell (p := ⟨b, 0, none⟩) h.1 _, fun g o t hg hb _ => by rw [Deep.blk_setCell_other _ _ _ _ hb]; exact hg⟩
  · refine (bld_check_used b w h.cell0).mono ?_
    rintro e w' ⟨rfl, rfl⟩
    exact ⟨rfl, h, Below.refl B _, fun g o t hg _ _ => hg⟩

set_option maxHeartbeats 2000000 in
set_option maxRecDepth 100000 in
theorem bld_byte2 (B b : Nat) (bs : List Value) (c : Int) (w : World) (h : Lib.IsBuilder 86 5 B b bs w) (hlen : bs.length + 1 ≤ 140737488355328) (hBw : B ≤ w.heap.size) :
    Calls Tryd.prog 38 #[.pointer (some ⟨b, 0, none⟩), .int .u8 c] w fun e w' => e = .returned .nilIface ∧ (Lib.IsBuilder 86 5 B b (bs ++ [.int .u8 c]) w' ∧ Below B w w' ∧ KeptBut b w w') := by
  obtain ⟨i0, hi, hz0, hz1, hz2⟩ := info_parts (show (Tryd.prog.info? 5).map (fun i => (i.zero, i.size, i.bytes)) = some (some (.int .u8 0), 1, 1) by kernel_rfl)
  go_enter Tryd.func38, Tryd.ntmps38
  go_wp2_with (go_at_call 59; refine (bld_check2 B b bs _ h).mono ?_)
  rintro e w1 ⟨rfl, h1, hb1, hk1⟩
  obtain ⟨hB, v, hbk, hown, hne⟩ := h1
  have c0 : w1.cell? ⟨b, 0, none⟩ = some (.pointer (some ⟨b, 0, none⟩)) := by rw [Lib.cell_of_heap hbk]; rfl
  have c1 : w1.cell? ⟨b, 1, none⟩ = some v := by rw [Lib.cell_of_heap hbk]; rfl
  go_wp2_with (at_builtin; refine wpList_append_own _ rfl _ _ 25 rfl B 5 i0 (.int .u8 0) 1 1 Tryd.underlying25 hi hz0 hz1 hz2 rfl (by decide) _ _ _ rfl (hown.alloc _) ⟨w1.heap.size, 0, none⟩ 1 1 [.int .u8 c] rfl rfl ?c1 ?c2 ?c3 ?c4 ?c5 ?_)
  case c1 =>
    intro j u hj
    match j, hj with
    | 0, hj => simp at hj; subst hj; simp [Addr.add]
  case c2 => intro u hu; simp at hu; subst hu; rfl
  case c3 => unfold maxLen; omega
  case c4 => omega
  case c5 => have := hb1.size; simp; omega
  intro v' w2 hown' hgrow _
  have hlt : b < w1.heap.size := by
    rcases Nat.lt_or_ge b w1.heap.size with h' | h'
    · exact h'
    · simp [Array.getElem?_eq_none h'] at hbk
  have hb2 : w2.heap[b]? = some (.cells #[.pointer (some ⟨b, 0, none⟩), v] 86 (0, 0)) := by
    rw [hgrow.block b (by simp; omega) (fun e => hne e.symm), Lib.alloc_old w1 _ b hlt]
    exact hbk
  have d0 : w2.cell? ⟨b, 0, none⟩ = some (.pointer (some ⟨b, 0, none⟩)) := by rw [Lib.cell_of_heap hb2]; rfl
  have d1 : w2.cell? ⟨b, 1, none⟩ = some v := by rw [Lib.cell_of_heap hb2]; rfl
  have f1 : w2.frozen? ⟨b, 1, none⟩ = false := Lib.frozen_of_heap hb2 1
  obtain ⟨g, cap, rfl⟩ : ∃ g cap, v' = .slice (some ⟨g, 0, none⟩) (bs.length + 1) cap := by
    rcases hown'.2 with ⟨_, h0⟩ | ⟨g, cap, cur, hv, _⟩
    · omega
    · exact ⟨g, cap, hv⟩
  go_wp2
  go_ret
  refine ⟨rfl, .inr ?_, ?_, fun q o t hq hqb hqt => ?_⟩
  rotate_left 2
  · have h1 := hk1 q o t hq hqb hqt
    have hlt : q < w1.heap.size := by
      rcases Nat.lt_or_ge q w1.heap.size with h' | h'
      · exact h'
      · rw [Array.getElem?_eq_none h'] at h1; cases h1
    have hno : some q ≠ v.ownBlock := fun e => by
      obtain ⟨_, ho⟩ := hown
      rcases ho with ⟨hv, _⟩ | ⟨g', cap', cur', hv, _, hg', _⟩
      · rw [hv] at e; cases e
      · rw [hv] at e
        obtain rfl : q = g' := Option.some.inj e
        rw [h1] at hg'
        simp at hg'
        exact hqt hg'.2
    rw [Deep.blk_setCell_other _ _ _ _ hqb, hgrow.block q (by simp; omega) hno, Lib.alloc_old w1 _ q hlt]
    exact h1
  · exact Lib.BuilderAt.put (T := 86) (e := 5) hB hb2 (bs' := bs ++ [.int .u8 c]) (by simpa using hown') (by decide)
  · exact ((hb1.alloc (by have := hb1.size; omega) _).grown hgrow (by have := hb1.size; simp; omega) (fun k hk => (hown.lt k hk).1)).setCell (p := ⟨b, 1, none⟩) hB _

set_option maxHeartbeats 2000000 in
set_option maxRecDepth 100000 in
theorem bld_string (B b : Nat) (bs : List Value) (s : ByteArray) (w : World) (h : Lib.IsBuilder 86 5 B b bs w) (hlen : bs.length + s.size ≤ 140737488355328) (hBw : B ≤ w.heap.size) :
    Calls Tryd.prog 36 #[.pointer (some ⟨b, 0, none⟩), .string s] w fun e w' => e = .returned (.tuple #[.int .i64 s.size, .nilIface]) ∧ (Lib.IsBuilder 86 5 B b (bs ++ Lib.strCells s) w' ∧ Below B w w') := by
  obtain ⟨i0, hi, hz0, hz1, hz2⟩ := info_parts (show (Tryd.prog.info? 5).map (fun i => (i.zero, i.size, i.bytes)) = some (some (.int .u8 0), 1, 1) by kernel_rfl)
  go_enter Tryd.func36, Tryd.ntmps36
  go_wp2_with (go_at_call 59; refine (bld_check B b bs _ h).mono ?_)
  rintro e w1 ⟨rfl, h1, hb1⟩
  obtain ⟨hB, v, hbk, hown, hne⟩ := h1
  have c0 : w1.cell? ⟨b, 0, none⟩ = some (.pointer (some ⟨b, 0, none⟩)) := by rw [Lib.cell_of_heap hbk]; rfl
  have c1 : w1.cell? ⟨b, 1, none⟩ = some v := by rw [Lib.cell_of_heap hbk]; rfl
  go_wp2_with (at_builtin; refine Lib.wpList_append_own_string _ rfl _ _ 25 9 rfl B 5 i0 Tryd.underlying25 Tryd.underlying9 hi hz0 hz1 hz2 _ _ _ rfl hown s rfl ?c3 ?c4 ?c5 ?_)
  case c3 => unfold maxLen; omega
  case c4 => omega
  case c5 => have := hb1.size; omega
  intro v' w2 hown' hgrow _
  have hlt : b < w1.heap.size := by
    rcases Nat.lt_or_ge b w1.heap.size with h' | h'
    · exact h'
    · simp [Array.getElem?_eq_none h'] at hbk
  have hb2 : w2.heap[b]? = some (.cells #[.pointer (some ⟨b, 0, none⟩), v] 86 (0, 0)) := by
    rw [hgrow.block b hlt (fun e => hne e.symm)]
    exact hbk
  have d0 : w2.cell? ⟨b, 0, none⟩ = some (.pointer (some ⟨b, 0, none⟩)) := by rw [Lib.cell_of_heap hb2]; rfl
  have d1 : w2.cell? ⟨b, 1, none⟩ = some v := by rw [Lib.cell_of_heap hb2]; rfl
  have f1 : w2.frozen? ⟨b, 1, none⟩ = false := Lib.frozen_of_heap hb2 1
  obtain ⟨ao, n', cap, rfl⟩ : ∃ ao n' cap, v' = .slice ao n' cap := by
    rcases hown'.2 with ⟨hv, _⟩ | ⟨g, cap, cur, hv, _⟩
    · exact ⟨_, _, _, hv⟩
    · exact ⟨_, _, _, hv⟩
  go_wp2
  go_ret2
  refine ⟨rfl, .inr ?_, ?_⟩
  · exact Lib.BuilderAt.put (T := 86) (e := 5) hB hb2 (bs' := bs ++ Lib.strCells s) (by simpa [Lib.strCells_length] using hown') (by decide)
  · exact (hb1.grown hgrow (by have := hb1.size; omega) (fun k hk => (hown.lt k hk).1)).setCell (p := ⟨b, 1, none⟩) hB _
theorem bld_lt {B b : Nat} {bs : List Value} {w : World} (h : Lib.IsBuilder 86 5 B b bs w) : b < w.heap.size := by
  rcases h with h | h <;> exact h.lt
end Go.Proofs.YtlhkehfplcclgaaDoor
/- fabrics.Text: the closure that writes a line; the text in plain Lean. -/
namespace Go.Proofs.YtlhkehfplcclgaaDoor
set_option linter.unusedVariables false
set_option linter.unusedSimpArgs false
set_option maxRecDepth 8000
open Go Go.RowKit Go.Sort Go.Shelf

def lineT (ws : List (List UInt8)) : List UInt8 := Lib.join ws [32] ++ [10]
/-- The builder at b holds the bytes. -/
def SB (B b : Nat) (w : World) (bs : List UInt8) : Prop := Lib.IsBuilder 86 5 B b (Lib.byteCells bs) w
theorem SB.ext {B b : Nat} {w w' : World} {bs : List UInt8} (h : SB B b w bs) (x : Ext w w') : SB B b w' bs := by
  have key : ∀ p, Lib.BuilderAt 86 5 B b p (Lib.byteCells bs) w → Lib.BuilderAt 86 5 B b p (Lib.byteCells bs) w' := fun p h => by
    obtain ⟨hB, v, hb, ho, hn⟩ := h
    exact ⟨hB, v, x.block hb, own_extk ho x, hn⟩
  rcases h with h | h
  · exact .inl (key _ h)
  · exact .inr (key _ h)
theorem SB.new (w : World) : SB w.heap.size w.heap.size (w.alloc (.cells #[.pointer none, .slice none 0 0] 86)) [] :=
  .inl ⟨Nat.le_refl _, .slice none 0 0, Deep.blk_alloc_new _ _, World.ownsRow_nil _ _ _ _, by simp [Value.ownBlock]⟩
theorem join_le {k : Nat} : ∀ {ws : List (List UInt8)}, (∀ x ∈ ws, x.length ≤ k) → (Lib.join ws [32]).length ≤ ws.length * (k + 1)
  | [], _ => by simp [Lib.join_nil]
  | x :: r, h => by
    have key : ∀ r : List (List UInt8), (∀ x ∈ r, x.length ≤ k) → (Lib.joinTail [32] r).length ≤ r.length * (k + 1) := by
      intro r
      induction r with
      | nil => intro _; simp [Lib.joinTail]
      | cons y r ih =>
        intro hh
        have h1 := ih fun z hz => hh z (by simp [hz])
        have h2 := hh y (by simp)
        unfold Lib.joinTail at h1 ⊢
        rw [List.map_cons, List.flatten_cons, List.length_append, List.length_cons, Nat.add_mul]
        simp only [List.length_append, List.length_cons, List.length_nil] at h1 ⊢
        omega
    have h1 := key r fun z hz => h z (by simp [hz])
    have h2 := h x (by simp)
    rw [Lib.join_cons, List.length_append, List.length_cons, Nat.add_mul]; omega
theorem lineT_le {k : Nat} {ws : List (List UInt8)} (h : ∀ x ∈ ws, x.length ≤ k) : (lineT ws).length ≤ ws.length * (k + 1) + 1 := by
  unfold lineT
  rw [List.length_append]; have := join_le h; simp; omega
set_option maxHeartbeats 2000000 in
set_option maxRecDepth 100000 in
theorem bld_string2 (B b : Nat) (bs : List Value) (s : ByteArray) (w : World) (h : Lib.IsBuilder 86 5 B b bs w) (hlen : bs.length + s.size ≤ 140737488355328) (hBw : B ≤ w.heap.size) :
    Calls Tryd.prog 36 #[.pointer (some ⟨b, 0, none⟩), .string s] w fun e w' => e = .returned (.tuple #[.int .i64 s.size, .nilIface]) ∧ (Lib.IsBuilder 86 5 B b (bs ++ Lib.strCells s) w' ∧ Below B w w' ∧ KeptBut b w w') := by
  obtain ⟨i0, hi, hz0, hz1, hz2⟩ := info_parts (show (Tryd.prog.info? 5).map (fun i => (i.zero, i.size, i.bytes)) = some (some (.int .u8 0), 1, 1) by kernel_rfl)
  go_enter Tryd.func36, Tryd.ntmps36
  go_wp2_with (go_at_call 59; refine (bld_check2 B b bs _ h).mono ?_)
  rintro e w1 ⟨rfl, h1, hb1, hk1⟩
  obtain ⟨hB, v, hbk, hown, hne⟩ := h1
  have c0 : w1.cell? ⟨b, 0, none⟩ = some (.pointer (some ⟨b, 0, none⟩)) := by rw [Lib.cell_of_heap hbk]; rfl
  have c1 : w1.cell? ⟨b, 1, none⟩ = some v := by rw [Lib.cell_of_heap hbk]; rfl
  go_wp2_with (at_builtin; refine Lib.wpList_append_own_string _ rfl _ _ 25 9 rfl B 5 i0 Tryd.underlying25 Tryd.underlying9 hi hz0 hz1 hz2 _ _ _ rfl hown s rfl ?c3 ?c4 ?c5 ?_)
  case c3 => unfold maxLen; omega
  case c4 => omega
  case c5 => have := hb1.size; omega
  intro v' w2 hown' hgrow _
  have hlt : b < w1.heap.size := by
    rcases Nat.lt_or_ge b w1.heap.size with h' | h'
    · exact h'
    · simp [Array.getElem?_eq_none h'] at hbk
  have hb2 : w2.heap[b]? = some (.cells #[.pointer (some ⟨b, 0, none⟩), v] 86 (0, 0)) := by
    rw [hgrow.block b hlt (fun e => hne e.symm)]
    exact hbk
  have d0 : w2.cell? ⟨b, 0, none⟩ = some (.pointer (some ⟨b, 0, none⟩)) := by rw [Lib.cell_of_heap hb2]; rfl
  have d1 : w2.cell? ⟨b, 1, none⟩ = some v := by rw [Lib.cell_of_heap hb2]; rfl
  have f1 : w2.frozen? ⟨b, 1, none⟩ = false := Lib.frozen_of_heap hb2 1
  obtain ⟨ao, n', cap, rfl⟩ : ∃ ao n' cap, v' = .slice ao n' cap := by
    rcases hown'.2 with ⟨hv, _⟩ | ⟨g, cap, cur, hv, _⟩
    · exact ⟨_, _, _, hv⟩
    · exact ⟨_, _, _, hv⟩
  go_wp2
  go_ret2
  refine ⟨rfl, .inr ?_, ?_, fun q o t hq hqb hqt => ?_⟩
  rotate_left 2
  · have h1 := hk1 q o t hq hqb hqt
    have hlt : q < w1.heap.size := by
      rcases Nat.lt_or_ge q w1.heap.size with h' | h'
      · exact h'
      · rw [Array.getElem?_eq_none h'] at h1; cases h1
    have hno : some q ≠ v.ownBlock := fun e => by
      obtain ⟨_, ho⟩ := hown
      rcases ho with ⟨hv, _⟩ | ⟨g', cap', cur', hv, _, hg', _⟩
      · rw [hv] at e; cases e
      · rw [hv] at e
        obtain rfl : q = g' := Option.some.inj e
        rw [h1] at hg'
        simp at hg'
        exact hqt hg'.2
    rw [Deep.blk_setCell_other _ _ _ _ hqb, hgrow.block q hlt hno]
    exact h1
  · exact Lib.BuilderAt.put (T := 86) (e := 5) hB hb2 (bs' := bs ++ Lib.strCells s) (by simpa [Lib.strCells_length] using hown') (by decide)
  · exact (hb1.grown hgrow (by have := hb1.size; omega) (fun k hk => (hown.lt k hk).1)).setCell (p := ⟨b, 1, none⟩) hB _

set_option maxHeartbeats 4000000 in
theorem Line_calls (B b : Nat) (bs : List UInt8) (v : Value) (c : Nat) (ws : List (List UInt8)) (w : World) (h : CK 1 w v c (ws.map sc)) (hb : SB B b w bs) (h0 : ws ≠ []) (h9 : ws.length ≤ 100000) (hk : (lineT ws).length ≤ 100000) (hl : bs.length ≤ 100000000000) (hB : B ≤ w.heap.size) :
    Calls Tryd.prog 35 #[v, .pointer (some ⟨b, 0, none⟩)] w fun e w' => e = .returned (.tuple #[]) ∧ SB B b w' (bs ++ lineT ws) ∧ Below B w w' ∧ KeptBut b w w' := by
  obtain ⟨n, hn⟩ : ∃ n, n = ws.length := ⟨_, rfl⟩
  have hn0 : n ≠ 0 := fun e => h0 (List.eq_nil_of_length_eq_zero (by omega))
  obtain ⟨bk, o, hv, hcs, hnc⟩ : ∃ bk o, v = .slice (some ⟨bk, o, none⟩) n c ∧ (∀ j, j < n → w.cell? ⟨bk, o + j, none⟩ = some (.string (bst (ws.getD j [])))) ∧ n ≤ c := by
    obtain ⟨ao, h1, h2, h3, h4⟩ := h
    rw [List.length_map] at h1 h2 h4
    rcases h4 with h4 | ⟨b', o', h5, h6⟩
    · omega
    · refine ⟨b', o', by rw [h1, h5, hn], fun j hj => ?_, by omega⟩
      have h7 := h6 j (by omega) 0 (by simp [List.getD, show j < ws.length by omega, sc])
      rw [Nat.mul_one, Nat.add_zero] at h7
      rw [h7]
      simp [List.getD, show j < ws.length by omega, sc]
  subst hv
  have hbk : bk < w.heap.size := World.block_lt_of_cell? w _ (hcs 0 (by omega))
  have hjl : (Lib.join ws [32]).length ≤ 100000 := by have := hk; unfold lineT at this; rw [List.length_append] at this; omega
  have hj := Tryd.strings_Join bk o c (ws.map bst) { data := #[32] } w (fun j x hx => by
    have hj2 := (List.getElem?_eq_some_iff.1 hx).1
    rw [List.length_map] at hj2
    rw [hcs j (by omega)]
    rw [List.getElem?_map, List.getElem?_eq_getElem hj2] at hx
    simp at hx
    rw [← hx]; simp [List.getD, hj2]) hbk (by rw [List.length_map]; omega) (by rw [List.length_map]; omega) (by
      rw [List.map_map, show ((fun x : ByteArray => x.data.toList) ∘ bst) = id by funext x; simp [bst], List.map_id]
      show (Lib.join ws [32]).length ≤ _
      omega)
  rw [List.length_map, ← hn, List.map_map, show ((fun x : ByteArray => x.data.toList) ∘ bst) = id by funext x; simp [bst], List.map_id] at hj
  obtain ⟨J, hJ⟩ : ∃ J, J = Lib.join ws [32] := ⟨_, rfl⟩
  have HJ := Lib.hid (show Calls Tryd.prog 37 #[.slice (some ⟨bk, o, none⟩) n c, .string { data := #[32] }] w fun e w' => e = .returned (.string (bst J)) ∧ Ext w w' by rw [hJ]; exact hj)
  have HL := Lib.hid (show lineT ws = J ++ [10] by rw [hJ]; rfl)
  rw [HL.out]
  have hJl : J.length ≤ 100000 := by rw [hJ]; exact hjl
  have HB := Lib.hid hb
  clear h hcs hj hJ hk hjl hn hb h0 h9
  go_enter Tryd.func35, Tryd.ntmps35
  go_wp2_with fail
  refine HJ.out.mono ?_
  rintro e w1 ⟨rfl, x1⟩
  have hb1 : Lib.IsBuilder 86 5 B b (Lib.byteCells bs) w1 := HB.out.ext x1
  have hs1 := x1.size
  have HS := Lib.hid (bld_string2 B b (Lib.byteCells bs) (bst J) w1 hb1 (by rw [Lib.byteCells_length, bst_size]; omega) (by omega))
  have X1 := Lib.hid (show Below B w w1 from Below.mono x1 hB)
  have K1 := Lib.hid (show KeptBut b w w1 from fun g o t hg _ _ => x1.block hg)
  clear hb1 x1
  go_wp2_with fail
  refine HS.out.mono ?_
  rintro e w2 ⟨rfl, h2, b2, k2⟩
  have X2 := Lib.hid (X1.out.trans b2)
  have K2 := Lib.hid (show KeptBut b w w2 from fun g o t hg h1 h2 => k2 g o t (K1.out g o t hg h1 h2) h1 h2)
  have hs2 := X2.out.size
  have HS2 := Lib.hid (bld_byte2 B b (Lib.byteCells bs ++ Lib.strCells (bst J)) 10 w2 h2 (by rw [List.length_append, Lib.byteCells_length, Lib.strCells_length, bst_size]; omega) (by omega))
  clear h2 b2 k2
  go_wp2_with fail
  refine HS2.out.mono ?_
  rintro e w3 ⟨rfl, h3, b3, k3⟩
  have X3 := Lib.hid (X2.out.trans b3)
  have K3 := Lib.hid (show KeptBut b w w3 from fun g o t hg h1 h2 => k3 g o t (K2.out g o t hg h1 h2) h1 h2)
  have HF := Lib.hid (show SB B b w3 (bs ++ (J ++ [10])) by
    unfold SB
    rw [← List.append_assoc, Lib.byteCells_append, Lib.byteCells_append]
    exact h3)
  clear h3 b3 k3
  go_wp2
  go_end0
  exact ⟨rfl, HF.out, X3.out, K3.out⟩
theorem KeptBut.b5 {b g : Nat} {w w' : World} {c : Xg} {t : TypeId} (k : KeptBut b w w') (h : B5 w g c t) (hg : g ≠ b) (ht : t ≠ 5) : B5 w' g c t := k g _ t h hg ht
def crossW : List UInt8 := [99, 114, 111, 115, 115]
def heldW : List UInt8 := [104, 101, 108, 100]
def fallenW : List UInt8 := [102, 97, 108, 108, 101, 110]
/-- The lines of a row before the n-th. -/
def rowP (y : Nat) (ls : List Lp) (n : Nat) : List UInt8 := ((List.range n).map fun i => lineT (descT ⟨(y : Int) + 1, (i : Nat)⟩ (li ls i))).flatten
def rowT (y : Nat) (ls : List Lp) : List UInt8 := rowP y ls ls.length
def tabP (t : Tab) (y : Nat) : List UInt8 := ((List.range y).map fun i => rowT i (yi t i)).flatten
def crW (c : Xg) : List (List UInt8) := [crossW, nameT c.a, nameT c.b, Lib.itoa c.n]
def crP (cr : List Xg) (k : Nat) : List UInt8 := ((cr.take k).map fun c => lineT (crW c)).flatten
def nmsT (word : List UInt8) (l : List Nm) : List UInt8 := if l = [] then [] else lineT (word :: l.map nameT)
def textB (f : Fab) : List UInt8 := tabP f.ys f.ys.length ++ crP f.cr f.cr.length ++ nmsT heldW f.held ++ nmsT fallenW f.fallen
def textT (f : Fab) : List UInt8 := if fchk f = 0 then textB f else []
theorem rowP_succ (y : Nat) (ls : List Lp) (n : Nat) : rowP y ls (n + 1) = rowP y ls n ++ lineT (descT ⟨(y : Int) + 1, (n : Nat)⟩ (li ls n)) := by
  unfold rowP; rw [List.range_succ, List.map_append, List.flatten_append]; simp
theorem tabP_succ (t : Tab) (y : Nat) : tabP t (y + 1) = tabP t y ++ rowT y (yi t y) := by
  unfold tabP; rw [List.range_succ, List.map_append, List.flatten_append]; simp
theorem crP_succ {cr : List Xg} {k : Nat} (h : k < cr.length) : crP cr (k + 1) = crP cr k ++ lineT (crW (xi cr k)) := by
  unfold crP; rw [xi_of h, List.take_succ_eq_append_getElem h, List.map_append, List.flatten_append]; simp
/-- A bound for so many lines. -/
def bd (n : Nat) : Nat := n * 100000
theorem bd_step {a x n : Nat} (h : a ≤ bd n) (hx : x ≤ 100000) : a + x ≤ bd (n + 1) := by unfold bd at *; rw [Nat.succ_mul]; exact Nat.add_le_add h hx
theorem bd_le {a n m : Nat} (h : a ≤ bd n) (hm : n ≤ m) : a ≤ bd m := Nat.le_trans h (Nat.mul_le_mul_right _ hm)
theorem bd_max {a n : Nat} (h : a ≤ bd n) (hn : n ≤ 200000) : a ≤ 100000000000 := Nat.le_trans (bd_le h hn) (by unfold bd; decide)
theorem itoa_le8 {n : Int} (h : -9223372036854775808 ≤ n ∧ n ≤ 9223372036854775807) : (Lib.itoa n).length ≤ 21 := Lib.itoa_length_le n h.1 h.2
theorem desc_le {a : Nm} {l : Lp} (ha : a.In) (hl : l.In) (h1 : l.thr.length ≤ 100) (h2 : l.past.length ≤ 1000) : (descT a l).length ≤ 1105 ∧ descT a l ≠ [] ∧ (lineT (descT a l)).length ≤ 100000 := by
  have hlen : (descT a l).length ≤ 1105 := by
    unfold descT d4T d3T d2T d1T
    simp only [List.length_append, List.length_cons, List.length_nil, List.length_map]
    split <;> split <;> split <;> simp <;> omega
  have hw : ∀ x ∈ descT a l, x.length ≤ 45 := fun x hx => by
    unfold descT at hx
    rcases List.mem_append.1 hx with hx | hx
    · unfold d4T at hx
      rcases List.mem_append.1 hx with hx | hx
      · unfold d3T at hx
        rcases List.mem_append.1 hx with hx | hx
        · unfold d2T at hx
          rcases List.mem_append.1 hx with hx | hx
          · unfold d1T at hx
            simp only [List.mem_cons, List.not_mem_nil, or_false] at hx
            rcases hx with rfl | rfl
            · have := nameT_len ha; omega
            · split <;> simp [backT, frontT]
          · split at hx
            · simp only [List.mem_cons, List.not_mem_nil, or_false] at hx; subst hx; simp [newT]
            · cases hx
        · split at hx
          · cases hx
          · rcases List.mem_cons.1 hx with rfl | hx
            · simp [throughT]
            · obtain ⟨z, hz, rfl⟩ := List.mem_map.1 hx
              have := nameT_len (hl.2.1 z hz); omega
      · split at hx
        · cases hx
        · simp only [List.mem_cons, List.not_mem_nil, or_false] at hx; subst hx; simp [pastT]
    · obtain ⟨p, hp, rfl⟩ := List.mem_map.1 hx
      have := nameT_len (hl.2.2 p hp).1
      unfold passT
      rw [List.length_append, List.length_append]
      split <;> split <;> simp <;> omega
  refine ⟨hlen, ?_, ?_⟩
  · unfold descT d4T d3T d2T d1T; simp
  · have h3 := lineT_le hw
    have h4 := Nat.mul_le_mul_right (45 + 1) hlen
    omega
theorem names_le {word : List UInt8} {l : List Nm} (hw : word.length ≤ 43) (hin : ∀ a ∈ l, a.In) (h9 : l.length ≤ 1000) : (lineT (word :: l.map nameT)).length ≤ 100000 := by
  have h3 := lineT_le (k := 43) (ws := word :: l.map nameT) fun x hx => by
    rcases List.mem_cons.1 hx with rfl | hx
    · exact hw
    · obtain ⟨z, hz, rfl⟩ := List.mem_map.1 hx
      exact nameT_len (hin z hz)
  rw [List.length_cons, List.length_map] at h3
  omega
theorem cr_le {c : Xg} (h : c.In) : (lineT (crW c)).length ≤ 100000 := by
  have h3 := lineT_le (k := 43) (ws := crW c) fun x hx => by
    unfold crW at hx
    simp only [List.mem_cons, List.not_mem_nil, or_false] at hx
    rcases hx with rfl | rfl | rfl | rfl
    · simp [crossW]
    · exact nameT_len h.1
    · exact nameT_len h.2.1
    · have := itoa_le8 h.2.2; omega
  have : (crW c).length = 4 := rfl
  omega
end Go.Proofs.YtlhkehfplcclgaaDoor
