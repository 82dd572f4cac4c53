/- Texts of this claim in one file: libraries and walks. -/
import Derived.Lib.SplitLaws
import Derived.Lib.Join
import Derived.RegionTactic
import Derived.Test.YtkolebjpeaigcaaDoorL0
import Derived.Test.YtkolebjpeaigcaaDoorL1
import Derived.Test.YtkolebjpeaigcaaDoorL2
import Derived.Test.YtkolebjpeaigcaaDoorL4
import Derived.Test.YtkolebjpeaigcaaDoorL5
/- Pieces between spaces; strings.Split at a space. -/
namespace Go.Proofs.YtkolebjpeaigcaaDoor
set_option linter.unusedVariables false
set_option linter.unusedSimpArgs false
set_option maxRecDepth 8000
open Go Go.RowKit

/-- The pieces between spaces. -/
def fields : List UInt8 → List (List UInt8)
  | [] => [[]]
  | b :: l => if b = 32 then [] :: fields l else
      match fields l with
      | [] => [[b]]
      | p :: ps => (b :: p) :: ps

theorem fields_ne : ∀ l, fields l ≠ []
  | [] => by simp [fields]
  | b :: l => by
    unfold fields
    split
    · simp
    · split <;> simp
theorem fields_some (l : List UInt8) : ∃ p ps, fields l = p :: ps := by
  cases h : fields l with
  | nil => exact absurd h (fields_ne l)
  | cons p ps => exact ⟨p, ps, rfl⟩
theorem fields_nil : fields [] = [[]] := rfl
theorem fields_sp (l : List UInt8) : fields (32 :: l) = [] :: fields l := by
  rw [fields, if_pos rfl]
theorem fields_cons {b : UInt8} {l p : List UInt8} {ps : List (List UInt8)} (h : b ≠ 32) (e : fields l = p :: ps) : fields (b :: l) = (b :: p) :: ps := by
  rw [fields, if_neg h, e]

theorem index_sp (l : List UInt8) : Lib.index (32 :: l) [32] = 0 := by
  rw [Lib.index]; simp [List.isPrefixOf]
theorem index_ns {b : UInt8} {l : List UInt8} (h : b ≠ 32) : Lib.index (b :: l) [32] = if Lib.index l [32] == -1 then -1 else Lib.index l [32] + 1 := by
  have hp : ([32] : List UInt8).isPrefixOf (b :: l) = false := by simp [List.isPrefixOf, Ne.symm h]
  rw [Lib.index, hp]; simp

theorem splitK_hit {k : Nat} {l : List UInt8} {j : Nat} (h : Lib.index l [32] = (j : Int)) : Lib.splitK [32] 0 (k + 1) l = l.take j :: Lib.splitK [32] 0 k (l.drop (j + 1)) := by
  have hm : ¬ (Lib.index l [32] == -1) = true := fun e => by have := beq_iff_eq.1 e; omega
  rw [Lib.splitK, if_neg hm, h]
  rfl

theorem split_fields : ∀ l : List UInt8, Lib.splitK [32] 0 (Lib.count l [32]) l = fields l
  | [] => by rw [Lib.count_miss (by simp [Lib.index])]; rfl
  | b :: l => by
    have ih := split_fields l
    by_cases h : b = 32
    · subst h
      rw [Lib.count_cons_eq, Nat.add_comm, splitK_hit (j := 0) (by rw [index_sp]; rfl), fields_sp]
      simp only [List.take_zero, Nat.zero_add, List.drop_succ_cons, List.drop_zero]
      rw [ih]
    · rw [Lib.count_cons_ne _ _ _ h]
      by_cases hm : Lib.index l [32] = -1
      · rw [Lib.count_miss hm] at ih ⊢
        have ih' : [l] = fields l := ih
        rw [fields_cons h ih'.symm]
        rfl
      · have hge := Lib.index_ge l [32]
        obtain ⟨j, hj⟩ : ∃ j : Nat, Lib.index l [32] = j := ⟨(Lib.index l [32]).toNat, by omega⟩
        have hj' : Lib.index (b :: l) [32] = ((j + 1 : Nat) : Int) := by rw [index_ns h, if_neg (fun e => hm (beq_iff_eq.1 e)), hj]; omega
        rw [Lib.count_hit (by simp) hj, Nat.add_comm, splitK_hit hj] at ih
        rw [Lib.count_hit (by simp) hj, Nat.add_comm, splitK_hit hj', fields_cons h ih.symm]
        simp

theorem join_two (x y : List UInt8) (r : List (List UInt8)) : Lib.join (x :: y :: r) [32] = x ++ 32 :: Lib.join (y :: r) [32] := by
  rw [Lib.join_cons, Lib.join_cons]; simp [Lib.joinTail]
theorem fields_app {x : List UInt8} (h : (32 : UInt8) ∉ x) (l : List UInt8) : fields (x ++ 32 :: l) = x :: fields l := by
  induction x with
  | nil => exact fields_sp l
  | cons b x ih =>
    simp only [List.mem_cons, not_or] at h
    exact fields_cons (fun e => h.1 e.symm) (ih h.2)
theorem fields_only {x : List UInt8} (h : (32 : UInt8) ∉ x) : fields x = [x] := by
  induction x with
  | nil => rfl
  | cons b x ih =>
    simp only [List.mem_cons, not_or] at h
    exact fields_cons (fun e => h.1 e.symm) (ih h.2)
theorem fields_join : ∀ xs : List (List UInt8), xs ≠ [] → (∀ x ∈ xs, (32 : UInt8) ∉ x) → fields (Lib.join xs [32]) = xs
  | [], h, _ => absurd rfl h
  | [x], _, h => by rw [Lib.join_one, fields_only (h x (by simp))]
  | x :: y :: r, _, h => by
    rw [join_two, fields_app (h x (by simp)), fields_join (y :: r) (by simp) (fun z hz => h z (by simp at hz ⊢; exact .inr hz))]

/-- The pieces as Split lays them. -/
def pieces (s : ByteArray) : List ByteArray := Lib.splitB { data := #[32] } 0 (Lib.countB s { data := #[32] }) s
theorem pieces_data (s : ByteArray) : (pieces s).map (·.data.toList) = fields s.data.toList := by
  unfold pieces
  rw [Lib.splitB_data]
  exact split_fields _
theorem pieces_len (s : ByteArray) : (pieces s).length = (fields s.data.toList).length := by rw [← pieces_data]; simp
theorem pieces_count (s : ByteArray) : Lib.countB s { data := #[32] } + 1 = (fields s.data.toList).length := by
  rw [← pieces_len]; exact (Lib.splitB_all _ (by decide) 0 _ s rfl).symm
def piece (s : ByteArray) (i : Nat) : ByteArray := (pieces s).getD i ⟨#[]⟩
def fieldAt (l : List UInt8) (i : Nat) : List UInt8 := (fields l).getD i []
theorem piece_data (s : ByteArray) {i : Nat} (h : i < (fields s.data.toList).length) : (piece s i).data.toList = fieldAt s.data.toList i := by
  unfold piece fieldAt
  rw [← pieces_data]
  rw [← pieces_len] at h
  simp [List.getD_eq_getElem?_getD, List.getElem?_eq_getElem h]
theorem fieldAt_mem {l : List UInt8} {i : Nat} (h : i < (fields l).length) : fieldAt l i ∈ fields l := by
  unfold fieldAt; rw [List.getD_eq_getElem?_getD, List.getElem?_eq_getElem h]; exact List.getElem_mem h
theorem mem_fieldAt {l p : List UInt8} (h : p ∈ fields l) : ∃ i, i < (fields l).length ∧ fieldAt l i = p := by
  obtain ⟨i, hi, rfl⟩ := List.mem_iff_getElem.1 h
  exact ⟨i, hi, by unfold fieldAt; rw [List.getD_eq_getElem?_getD, List.getElem?_eq_getElem hi]; rfl⟩
/-- Where the length of the longest text that is searched at once lies. -/
def Mx (w : World) : Prop := ∃ m, w.cell? ⟨1, 0, none⟩ = some (.int .i64 m)
theorem Mx.ext {w w' : World} (h : Mx w) (hx : Ext w w') : Mx w' := by
  obtain ⟨m, hm⟩ := h
  exact ⟨m, hx.cell hm⟩
/-- Split's result. -/
def RetP (s : ByteArray) (w : World) (e : Ending) (w' : World) : Prop :=
  e = .returned (.slice (some ⟨w.heap.size, 0, none⟩) (fields s.data.toList).length (fields s.data.toList).length) ∧ Ext w w' ∧ w.heap.size < w'.heap.size ∧ ∀ j, j < (fields s.data.toList).length → w'.cell? ⟨w.heap.size, j, none⟩ = some (.string (piece s j))
theorem Split_calls (s : ByteArray) (w : World) (hs : s.size ≤ 100000) (hm : Mx w) : Calls Tryd.prog 42 #[.string s, .string { data := #[32] }] w (RetP s w) := by
  obtain ⟨m, hm⟩ := hm
  refine (Tryd.strings_Split s { data := #[32] } m w (by omega) hm (by decide)).mono ?_
  rintro e w' ⟨rfl, rfl⟩
  refine ⟨by rw [pieces_count], (Ext.refl w).alloc _, by simp, fun j hj => ?_⟩
  have hlen : j < (pieces s).length := by rw [pieces_len]; exact hj
  have hr := World.rowIs_alloc w ((pieces s).map Value.string).toArray 9 (fun j => .string (piece s j)) (fun i hi => by
    have hi' : i < (pieces s).length := by simpa using hi
    simp [piece, List.getD_eq_getElem?_getD, List.getElem?_eq_getElem hi'])
  have := hr.cell (i := j) (by simpa using hlen)
  exact this
end Go.Proofs.YtkolebjpeaigcaaDoor
/- The texts of charts, in plain Lean: lines of words, and what Parse makes of them. -/
namespace Go.Proofs.YtkolebjpeaigcaaDoor
set_option linter.unusedVariables false
set_option linter.unusedSimpArgs false
set_option maxRecDepth 8000
open Go Go.RowKit

def ba (x : List UInt8) : ByteArray := ⟨x.toArray⟩
theorem ba_data (x : List UInt8) : (ba x).data.toList = x := rfl
theorem ba_of {s : ByteArray} {x : List UInt8} (h : s.data.toList = x) : s = ba x := by apply bytes_eq; rw [h, ba_data]
theorem ba_size (x : List UInt8) : (ba x).size = x.length := by show (ba x).data.size = _; rw [← Array.length_toList, ba_data]

/-! ### Stitches -/
theorem sb_bstr {xs : List Int} (h : Byt xs) {i : Nat} (hi : i < xs.length) : sb (bstr xs) i = gi xs i := by
  unfold sb
  rw [bstr_data]
  have := h _ (gi_mem hi)
  simp only [List.getD, List.getElem?_map, gi_some hi, Option.map_some, Option.getD_some]
  rw [UInt8.toNat_ofNat']
  omega
theorem kof_sym : ∀ j, j < 8 → kof (gi symT j) 8 = (j : Int) + 1 := by decide
theorem pst_tx {s : St} (h : s.chk = 0) : pst (bstr s.tx) = (s, 0) := by
  obtain ⟨hk, hy, hc⟩ := St.chk_ok h
  have hb := byt_tx s
  have hsz := bstr_size s.tx
  have hsb := fun i hi => sb_bstr hb (i := i) hi
  have htx : s.tx = [gi symT (s.k - 1).toNat] ++ (if s.k = 8 then [48 + s.a, 48 + s.b, if s.f then 70 else 66] else []) ++ (if s.y = 1 then [] else [48 + s.y]) := by unfold St.tx; rw [if_neg (by omega)]
  have hcd : cand (bstr s.tx) = s := by
    obtain ⟨k, y, a, b, f⟩ := s
    simp only [] at hk hy hc htx hsz hsb ⊢
    obtain ⟨j, hj⟩ : ∃ j : Nat, k = (j : Int) + 1 := ⟨(k - 1).toNat, by omega⟩
    have hj8 : j < 8 := by omega
    have hjn : (k - 1).toNat = j := by omega
    rw [hjn] at htx
    generalize St.tx ⟨k, y, a, b, f⟩ = T at *
    have h0 : sb (bstr T) 0 = gi symT j := by rw [hsb 0 (by rw [htx]; simp), htx]; rfl
    unfold cand
    rw [h0, kof_sym j hj8, ← hj, hsz]
    rcases hc with ⟨h8, rfl, rfl, rfl⟩ | ⟨h8, h1, h2, h3, h4, h5⟩
    · rw [if_neg h8, List.append_nil] at htx
      rw [if_neg (fun h => h8 h.1)]
      by_cases hy1 : y = 1
      · rw [if_pos hy1] at htx
        rw [if_neg (by rw [htx]; simp), hy1]
      · rw [if_neg hy1] at htx
        rw [if_pos (by rw [htx]; simp), hsb 1 (by rw [htx]; simp), htx]
        have : gi ([gi symT j] ++ [48 + y]) 1 = 48 + y := rfl
        rw [this]
        congr 1; omega
    · rw [if_pos h8] at htx
      by_cases hy1 : y = 1
      · rw [if_pos hy1, List.append_nil] at htx
        have hl : T.length = 4 := by rw [htx]; rfl
        rw [if_pos ⟨h8, by omega⟩, if_neg (by omega), hsb 1 (by omega), hsb 2 (by omega), hsb 3 (by omega), htx, hy1, h8]
        show (⟨8, 1, 48 + a - 48, 48 + b - 48, decide ((if f = true then (70 : Int) else 66) = 70)⟩ : St) = _
        rw [show 48 + a - 48 = a by omega, show 48 + b - 48 = b by omega]
        cases f <;> rfl
      · rw [if_neg hy1] at htx
        have hl : T.length = 5 := by rw [htx]; rfl
        rw [if_pos ⟨h8, by omega⟩, if_pos (by omega), hsb 1 (by omega), hsb 2 (by omega), hsb 3 (by omega), hsb 4 (by omega), htx, h8]
        show (⟨8, (48 + y - 48) % 256, 48 + a - 48, 48 + b - 48, decide ((if f = true then (70 : Int) else 66) = 70)⟩ : St) = _
        rw [show 48 + a - 48 = a by omega, show 48 + b - 48 = b by omega, show (48 + y - 48) % 256 = y by omega]
        cases f <;> rfl
  unfold pst
  rw [if_neg (by rw [hsz, htx]; simp), hcd, if_pos rfl]
theorem pst_x : pst (bstr [120]) = (St.none, 4) := by
  have h0 : sb (bstr [120]) 0 = 120 := rfl
  have hc : (cand (bstr [120])).tx = [] := by
    unfold cand
    rw [h0, show kof 120 8 = 0 by decide, if_neg (by decide)]
    rfl
  unfold pst
  rw [if_neg (by decide), hc, if_neg (fun h => by have := congrArg ByteArray.size h; simp [bstr_size] at this)]

/-! ### Lines of words -/
/-- A line's words: one at least, and no space and no end of a line in any. -/
def GL (ws : List (List UInt8)) : Prop := ws ≠ [] ∧ ∀ x ∈ ws, (32 : UInt8) ∉ x ∧ (10 : UInt8) ∉ x
def txL : List (List (List UInt8)) → List UInt8
  | [] => []
  | ws :: L => Lib.join ws [32] ++ 10 :: txL L
theorem join_no10 : ∀ {ws : List (List UInt8)}, (∀ x ∈ ws, (10 : UInt8) ∉ x) → (10 : UInt8) ∉ Lib.join ws [32]
  | [], _ => by rw [Lib.join_nil]; simp
  | [x], h => by rw [Lib.join_one]; exact h x (by simp)
  | x :: y :: r, h => by
    rw [join_two, List.mem_append, List.mem_cons]
    rintro (h1 | h1 | h1)
    · exact h x (by simp) h1
    · exact absurd h1 (by decide)
    · exact join_no10 (fun z hz => h z (by simp at hz ⊢; exact .inr hz)) h1
theorem index_nl (r : List UInt8) : ∀ {x : List UInt8}, (10 : UInt8) ∉ x → Lib.index (x ++ 10 :: r) [10] = (x.length : Int)
  | [], _ => by rw [List.nil_append, Lib.index]; simp [List.isPrefixOf]
  | b :: x, h => by
    simp only [List.mem_cons, not_or] at h
    have ih := index_nl r (x := x) h.2
    have hp : ([10] : List UInt8).isPrefixOf (b :: (x ++ 10 :: r)) = false := by simp [List.isPrefixOf, h.1]
    rw [List.cons_append, Lib.index, hp, ih]
    simp
theorem cut_nl {x r : List UInt8} (h : (10 : UInt8) ∉ x) : Lib.cut (x ++ 10 :: r) [10] = (x, r, true) := by
  unfold Lib.cut
  rw [index_nl r h, if_pos (by omega)]
  have e : ((x.length : Int).toNat) = x.length := by omega
  rw [e]
  simp
def rowP (ws : List (List UInt8)) : List St := ws.map fun x => (pst (ba x)).1
def okP (ws : List (List UInt8)) : Bool := ws.all fun x => decide ((pst (ba x)).2 = 0)
/-- What Parse makes of the lines from the i-th one on, behind the rows acc. -/
def pL : List (List (List UInt8)) → Nat → List (List St) → List (List St) × Int × Int
  | [], _, acc => if (cloads acc.reverse).1 ≠ 0 then ([], 0, (cloads acc.reverse).1) else (acc.reverse, 0, 0)
  | ws :: L, i, acc => if okP ws = true then pL L (i + 1) (acc ++ [rowP ws]) else ([], (i : Int) + 1, 4)
def li (L : List (List (List UInt8))) (k : Nat) : List (List UInt8) := L.getD k []
theorem li_of {L : List (List (List UInt8))} {k : Nat} (h : k < L.length) : li L k = L[k] := by unfold li; simp [List.getD, h]
theorem li_mem {L : List (List (List UInt8))} {k : Nat} (h : k < L.length) : li L k ∈ L := by rw [li_of h]; exact List.getElem_mem h
theorem drop_li {L : List (List (List UInt8))} {k : Nat} (h : k < L.length) : L.drop k = li L k :: L.drop (k + 1) := by rw [li_of h]; exact List.drop_eq_getElem_cons h
theorem pL_next {L : List (List (List UInt8))} {k : Nat} (h : k < L.length) {i : Nat} {acc : List (List St)} (hb : okP (li L k) = true) : pL (L.drop k) i acc = pL (L.drop (k + 1)) (i + 1) (acc ++ [rowP (li L k)]) := by
  rw [drop_li h, pL, if_pos hb]
theorem pL_bad {L : List (List (List UInt8))} {k : Nat} (h : k < L.length) {i : Nat} {acc : List (List St)} (hb : ¬ okP (li L k) = true) : pL (L.drop k) i acc = ([], (i : Int) + 1, 4) := by
  rw [drop_li h, pL, if_neg hb]
theorem pL_end {L : List (List (List UInt8))} {k : Nat} (h : L.length ≤ k) {i : Nat} {acc : List (List St)} : pL (L.drop k) i acc = if (cloads acc.reverse).1 ≠ 0 then ([], 0, (cloads acc.reverse).1) else (acc.reverse, 0, 0) := by
  rw [List.drop_eq_nil_of_le h, pL]
def wi (ws : List (List UInt8)) (j : Nat) : List UInt8 := ws.getD j []
theorem wi_of {ws : List (List UInt8)} {k : Nat} (h : k < ws.length) : wi ws k = ws[k] := by unfold wi; simp [List.getD, h]
theorem wi_mem {ws : List (List UInt8)} {k : Nat} (h : k < ws.length) : wi ws k ∈ ws := by rw [wi_of h]; exact List.getElem_mem h
theorem okP_bad {ws : List (List UInt8)} {j : Nat} (h : j < ws.length) (hb : (pst (ba (wi ws j))).2 ≠ 0) : ¬ okP ws = true := fun he => by
  unfold okP at he
  rw [List.all_eq_true] at he
  exact hb (by simpa using he _ (wi_mem h))
theorem okP_good {ws : List (List UInt8)} (h : ∀ j, j < ws.length → (pst (ba (wi ws j))).2 = 0) : okP ws = true := by
  unfold okP
  rw [List.all_eq_true]
  intro x hx
  obtain ⟨i, hi, rfl⟩ := List.mem_iff_getElem.1 hx
  have := h i hi
  rw [wi_of hi] at this
  simpa using this
/-- The row so far. -/
def rowU (ws : List (List UInt8)) (j : Nat) : List St := (rowP ws).take j ++ List.replicate (ws.length - j) St.none
theorem rowU_len (ws : List (List UInt8)) {j : Nat} (h : j ≤ ws.length) : (rowU ws j).length = ws.length := by unfold rowU rowP; simp; omega
theorem rowU_zero (ws : List (List UInt8)) : rowU ws 0 = List.replicate ws.length St.none := by unfold rowU; simp
theorem rowU_end (ws : List (List UInt8)) : rowU ws ws.length = rowP ws := by unfold rowU rowP; simp [List.take_of_length_le]
theorem rowU_set {ws : List (List UInt8)} {j : Nat} (h : j < ws.length) : (rowU ws j).set j (pst (ba (wi ws j))).1 = rowU ws (j + 1) := by
  have hl : (rowP ws).length = ws.length := by unfold rowP; simp
  have hg : (rowP ws)[j]'(by omega) = (pst (ba (wi ws j))).1 := by unfold rowP; rw [List.getElem_map, wi_of h]
  unfold rowU
  rw [List.set_append_right _ _ (by simp; omega)]
  have e1 : j - ((rowP ws).take j).length = 0 := by simp; omega
  rw [e1, show ws.length - j = (ws.length - (j + 1)) + 1 by omega, List.replicate_succ, List.set_cons_zero, List.take_succ_eq_append_getElem (by omega), hg]
  simp
end Go.Proofs.YtkolebjpeaigcaaDoor
/- Rows of stitches of the call's own. -/
namespace Go.Proofs.YtkolebjpeaigcaaDoor
set_option linter.unusedVariables false
set_option linter.unusedSimpArgs false
set_option maxRecDepth 8000
open Go Go.RowKit

/-- The five cells of a stitch stand in f from 5 i on. -/
def F5 (f : Nat → Value) (i : Nat) (s : St) : Prop := f (i * 5) = .int .u8 s.k ∧ f (i * 5 + 1) = .int .u8 s.y ∧ f (i * 5 + 2) = .int .i64 s.a ∧ f (i * 5 + 3) = .int .i64 s.b ∧ f (i * 5 + 4) = .bool s.f
/-- Block g has room for c stitches; the first are l. -/
def RO (w : World) (g c : Nat) (l : List St) : Prop := l.length ≤ c ∧ c ≤ maxLen ∧ ∃ f, w.rowIs g 33 (c * 5) f ∧ ∀ i, i < l.length → F5 f i (si l i)
theorem RO.ext {w w' : World} {g c : Nat} {l : List St} (h : RO w g c l) (x : Ext w w') : RO w' g c l := by
  obtain ⟨h1, h2, f, h3, h4⟩ := h
  exact ⟨h1, h2, f, x.row h3, h4⟩
theorem RO.lt {w : World} {g c : Nat} {l : List St} (h : RO w g c l) : g < w.heap.size := by
  obtain ⟨_, _, f, h3, _⟩ := h
  exact h3.lt
theorem RO.rs {w : World} {g c : Nat} {l : List St} (h : RO w g c l) : RS w (.slice (some ⟨g, 0, none⟩) l.length c) c l := by
  obtain ⟨h1, h2, f, h3, h4⟩ := h
  refine ⟨_, rfl, h1, h2, .inr ⟨g, 0, rfl, fun i hi => ?_⟩⟩
  obtain ⟨a, b, c', d, e⟩ := h4 i hi
  rw [Nat.zero_add]
  refine ⟨?_, ?_, ?_, ?_, ?_⟩
  · rw [h3.cell (by omega), a]
  · rw [h3.cell (by omega), b]
  · rw [h3.cell (by omega), c']
  · rw [h3.cell (by omega), d]
  · rw [h3.cell (by omega), e]
theorem RO.frozen {w : World} {g c : Nat} {l : List St} (h : RO w g c l) (o : Nat) : w.frozen? ⟨g, o, none⟩ = false := by
  obtain ⟨_, _, f, h3, _⟩ := h
  exact h3.frozen o
theorem RO.shapeCell {w : World} {g c : Nat} {l : List St} (h : RO w g c l) {o : Nat} (ho : o < c * 5) : ∃ v, w.cell? ⟨g, o, none⟩ = some v := by
  obtain ⟨_, _, f, h3, _⟩ := h
  exact ⟨_, h3.cell ho⟩
theorem si_set {l : List St} {i j : Nat} {s : St} (hi : i < l.length) : si (l.set i s) j = if j = i then s else si l j := by
  unfold si
  by_cases h : j = i
  · subst h; simp [List.getD, hi]
  · rw [if_neg h]
    simp only [List.getD]
    rw [List.getElem?_set_ne (by omega)]
theorem RO.setk {w : World} {g c : Nat} {l : List St} (h : RO w g c l) {i : Nat} (hi : i < l.length) (k : Int) : RO (w.setCell ⟨g, i * 5, none⟩ (.int .u8 k)) g c (l.set i { si l i with k := k }) := by
  obtain ⟨h1, h2, f, h3, h4⟩ := h
  refine ⟨by simpa using h1, h2, _, h3.set (i * 5) _, fun j hj => ?_⟩
  rw [List.length_set] at hj
  rw [si_set hi]
  obtain ⟨a, b, c', d, e⟩ := h4 j hj
  by_cases hji : j = i
  · subst hji
    rw [if_pos rfl]
    refine ⟨if_pos rfl, ?_, ?_, ?_, ?_⟩ <;> (show (if _ then _ else _) = _; rw [if_neg (by omega)]; assumption)
  · rw [if_neg hji]
    refine ⟨?_, ?_, ?_, ?_, ?_⟩ <;> (show (if _ then _ else _) = _; rw [if_neg (by omega)]; assumption)
theorem RO.sety {w : World} {g c : Nat} {l : List St} (h : RO w g c l) {i : Nat} (hi : i < l.length) (y : Int) : RO (w.setCell ⟨g, i * 5 + 1, none⟩ (.int .u8 y)) g c (l.set i { si l i with y := y }) := by
  obtain ⟨h1, h2, f, h3, h4⟩ := h
  refine ⟨by simpa using h1, h2, _, h3.set (i * 5 + 1) _, fun j hj => ?_⟩
  rw [List.length_set] at hj
  rw [si_set hi]
  obtain ⟨a, b, c', d, e⟩ := h4 j hj
  by_cases hji : j = i
  · subst hji
    rw [if_pos rfl]
    refine ⟨?_, if_pos rfl, ?_, ?_, ?_⟩ <;> (show (if _ then _ else _) = _; rw [if_neg (by omega)]; assumption)
  · rw [if_neg hji]
    refine ⟨?_, ?_, ?_, ?_, ?_⟩ <;> (show (if _ then _ else _) = _; rw [if_neg (by omega)]; assumption)
theorem RO.setOther {w : World} {g c : Nat} {l : List St} (h : RO w g c l) {a : Addr} (ha : g ≠ a.block) (v : Value) : RO (w.setCell a v) g c l := by
  obtain ⟨h1, h2, f, h3, h4⟩ := h
  exact ⟨h1, h2, f, h3.setOther ha v, h4⟩
theorem si_rep {n i : Nat} {s : St} (hi : i < n) : si (List.replicate n s) i = s := by unfold si; simp [List.getD, hi]

/-- The zero cells of a stitch. -/
def z5 : Array Value := #[.int .u8 0, .int .u8 0, .int .i64 0, .int .i64 0, .bool false]
theorem RO.made (w : World) (n : Nat) (hn : n ≤ maxLen) : RO (w.alloc (.cells (madeCells z5 (n * 5)) 33)) w.heap.size n (List.replicate n St.none) := by
  have hz : ∀ i, i < n * 5 → (madeCells z5 (n * 5))[i]? = some (z5[i % 5]!) := fun i hi => by
    unfold madeCells
    simp [hi]
    rfl
  have hr := World.rowIs_alloc w (madeCells z5 (n * 5)) 33 (fun i => z5[i % 5]!) (fun i hi => hz i (by rw [size_madeCells] at hi; exact hi))
  rw [size_madeCells] at hr
  refine ⟨by simp, hn, _, hr, fun i hi => ?_⟩
  rw [List.length_replicate] at hi
  rw [si_rep hi]
  refine ⟨?_, ?_, ?_, ?_, ?_⟩
  · show z5[(i * 5) % 5]! = _; rw [show (i * 5) % 5 = 0 by omega]; rfl
  · show z5[(i * 5 + 1) % 5]! = _; rw [show (i * 5 + 1) % 5 = 1 by omega]; rfl
  · show z5[(i * 5 + 2) % 5]! = _; rw [show (i * 5 + 2) % 5 = 2 by omega]; rfl
  · show z5[(i * 5 + 3) % 5]! = _; rw [show (i * 5 + 3) % 5 = 3 by omega]; rfl
  · show z5[(i * 5 + 4) % 5]! = _; rw [show (i * 5 + 4) % 5 = 4 by omega]; rfl
theorem run_make_st (kl kc : IntKind) (n : Nat) (hn : n ≤ 1000000) (w : World) :
    (Instr.makeSlice 37 (.int kl (n : Int)) (.int kc (n : Int))).run Tryd.prog w = .ok (.slice (some ⟨w.heap.size, 0, none⟩) n n) (w.alloc (.cells (madeCells z5 (n * 5)) 33)) := by
  obtain ⟨i, hi, hzz⟩ := Option.map_eq_some_iff.1 (show (Tryd.prog.info? 33).map (fun i => (i.zero, i.size, i.bytes)) = some (some (.agg z5), 5, 32) by kernel_rfl)
  simp only [Prod.mk.injEq] at hzz
  obtain ⟨hz, hs, hb⟩ := hzz
  have hr := run_make (P := Tryd.prog) w 37 33 i (.agg z5) Tryd.underlying37 hi hz kl kc n n (by omega) (Int.le_refl _) (by rw [hb]; omega) (by omega)
  simp only [Int.toNat_natCast, hs] at hr
  exact hr
end Go.Proofs.YtkolebjpeaigcaaDoor
/- Charts that a call makes: a block of rows, each in a block of its own. -/
namespace Go.Proofs.YtkolebjpeaigcaaDoor
set_option linter.unusedVariables false
set_option linter.unusedSimpArgs false
set_option maxRecDepth 8000
open Go Go.RowKit

def up {α : Type} (f : Nat → α) (k : Nat) (x : α) : Nat → α := fun i => if i = k then x else f i
theorem up_at {α : Type} (f : Nat → α) (k : Nat) (x : α) : up f k x k = x := if_pos rfl
theorem up_ne {α : Type} (f : Nat → α) {k i : Nat} (x : α) (h : i ≠ k) : up f k x i = f i := if_neg h
/-- Block R has room for N rows; the first k are laid: rows i in block q i, of capacity cp i. -/
structure CS (w wr : World) (R N k : Nat) (rows : Nat → List St) (q cp : Nat → Nat) : Prop where
  x : Ext w wr
  r0 : w.heap.size ≤ R
  nm : N ≤ maxLen
  row : ∃ f, wr.rowIs R 37 N f ∧ ∀ i, i < k → f i = .slice (some ⟨q i, 0, none⟩) (rows i).length (cp i)
  ro : ∀ i, i < k → RO wr (q i) (cp i) (rows i) ∧ w.heap.size ≤ q i ∧ q i ≠ R
  inj : ∀ i j, i < k → j < k → q i = q j → i = j
theorem CS.start {w wr : World} {R N : Nat} {f : Nat → Value} {rows : Nat → List St} {q cp : Nat → Nat} (x : Ext w wr) (h : w.heap.size ≤ R) (hN : N ≤ maxLen) (hr : wr.rowIs R 37 N f) : CS w wr R N 0 rows q cp :=
  ⟨x, h, hN, ⟨f, hr, fun i hi => by omega⟩, fun i hi => by omega, fun i j hi => by omega⟩
theorem CS.later {w wr w' : World} {R N k : Nat} {rows : Nat → List St} {q cp : Nat → Nat} (h : CS w wr R N k rows q cp) (x : Ext wr w') : CS w w' R N k rows q cp := by
  obtain ⟨h1, h2, h3, ⟨f, h4, h5⟩, h6, h7⟩ := h
  exact ⟨h1.trans x, h2, h3, ⟨f, x.row h4, h5⟩, fun i hi => ⟨(h6 i hi).1.ext x, (h6 i hi).2⟩, h7⟩
theorem CS.cell {w wr : World} {R N k : Nat} {rows : Nat → List St} {q cp : Nat → Nat} (h : CS w wr R N k rows q cp) {i : Nat} (hi : i < k) (hk : k ≤ N) : wr.cell? ⟨R, i, none⟩ = some (.slice (some ⟨q i, 0, none⟩) (rows i).length (cp i)) := by
  obtain ⟨f, h4, h5⟩ := h.row
  rw [h4.cell (by omega), h5 i hi]
theorem CS.ex {w wr : World} {R N k : Nat} {rows : Nat → List St} {q cp : Nat → Nat} (h : CS w wr R N k rows q cp) {i : Nat} (hi : i < N) : ∃ v, wr.cell? ⟨R, i, none⟩ = some v := by
  obtain ⟨f, h4, h5⟩ := h.row
  exact ⟨_, h4.cell hi⟩
theorem CS.frozen {w wr : World} {R N k : Nat} {rows : Nat → List St} {q cp : Nat → Nat} (h : CS w wr R N k rows q cp) (i : Nat) : wr.frozen? ⟨R, i, none⟩ = false := by
  obtain ⟨f, h4, h5⟩ := h.row
  exact h4.frozen i
theorem CS.lt {w wr : World} {R N k : Nat} {rows : Nat → List St} {q cp : Nat → Nat} (h : CS w wr R N k rows q cp) : R < wr.heap.size := by
  obtain ⟨f, h4, h5⟩ := h.row
  exact h4.lt
theorem CS.congr {w wr : World} {R N k : Nat} {rows rows' : Nat → List St} {q cp : Nat → Nat} (h : CS w wr R N k rows q cp) (e : ∀ i, i < k → rows i = rows' i) : CS w wr R N k rows' q cp := by
  obtain ⟨h1, h2, h3, ⟨f, h4, h5⟩, h6, h7⟩ := h
  exact ⟨h1, h2, h3, ⟨f, h4, fun i hi => by rw [h5 i hi, e i hi]⟩, fun i hi => by rw [← e i hi]; exact h6 i hi, h7⟩
/-- A row is laid behind the others. -/
theorem CS.put {w wr : World} {R N k g c : Nat} {rows : Nat → List St} {q cp : Nat → Nat} {l : List St} (h : CS w wr R N k rows q cp) (hk : k < N) (hg : RO wr g c l) (hw : w.heap.size ≤ g) (hR : g ≠ R) (hd : ∀ i, i < k → q i ≠ g) :
    CS w (wr.setCell ⟨R, k, none⟩ (.slice (some ⟨g, 0, none⟩) l.length c)) R N (k + 1) (up rows k l) (up q k g) (up cp k c) := by
  obtain ⟨h1, h2, h3, ⟨f, h4, h5⟩, h6, h7⟩ := h
  refine ⟨h1.setCell h2 _, h2, h3, ⟨_, h4.set k _, fun i hi => ?_⟩, fun i hi => ?_, fun i j hi hj e => ?_⟩
  · by_cases e : i = k
    · subst e; simp [up]
    · rw [up_ne _ _ e, up_ne _ _ e, up_ne _ _ e, ← h5 i (by omega)]
      exact if_neg e
  · by_cases e : i = k
    · subst e; rw [up_at, up_at, up_at]
      exact ⟨hg.setOther hR _, hw, hR⟩
    · rw [up_ne _ _ e, up_ne _ _ e, up_ne _ _ e]
      obtain ⟨a, b, c'⟩ := h6 i (by omega)
      exact ⟨a.setOther c' _, b, c'⟩
  · by_cases ei : i = k
    · by_cases ej : j = k
      · omega
      · subst ei; rw [up_at, up_ne _ _ ej] at e
        exact absurd e.symm (hd j (by omega))
    · by_cases ej : j = k
      · subst ej; rw [up_at, up_ne _ _ ei] at e
        exact absurd e (hd i (by omega))
      · rw [up_ne _ _ ei, up_ne _ _ ej] at e
        exact h7 i j (by omega) (by omega) e
/-- A cell of row j is written. -/
theorem CS.set {w wr : World} {R N k j o : Nat} {rows : Nat → List St} {q cp : Nat → Nat} {v : Value} {l' : List St} (h : CS w wr R N k rows q cp) (hj : j < k) (hl : RO (wr.setCell ⟨q j, o, none⟩ v) (q j) (cp j) l') (hlen : l'.length = (rows j).length) :
    CS w (wr.setCell ⟨q j, o, none⟩ v) R N k (up rows j l') q cp := by
  obtain ⟨h1, h2, h3, ⟨f, h4, h5⟩, h6, h7⟩ := h
  refine ⟨h1.setCell (h6 j hj).2.1 _, h2, h3, ⟨f, h4.setOther (fun e => (h6 j hj).2.2 e.symm) _, fun i hi => ?_⟩, fun i hi => ?_, h7⟩
  · by_cases e : i = j
    · subst e; rw [up_at, hlen]; exact h5 i hi
    · rw [up_ne _ _ e]; exact h5 i hi
  · by_cases e : i = j
    · subst e; rw [up_at]; exact ⟨hl, (h6 i hi).2⟩
    · rw [up_ne _ _ e]
      exact ⟨(h6 i hi).1.setOther (fun c => e (h7 i j hi hj c)) _, (h6 i hi).2⟩
/-- All rows are laid. -/
theorem CS.rr {w wr : World} {R N : Nat} {rows : Nat → List St} {q cp : Nat → Nat} (h : CS w wr R N N rows q cp) : RR wr (.slice (some ⟨R, 0, none⟩) N N) N ((List.range N).map rows) := by
  have hl : ((List.range N).map rows).length = N := by simp
  have hs : ∀ i, i < N → sw ((List.range N).map rows) i = rows i := fun i hi => by rw [sw_of_lt (by rw [hl]; exact hi)]; simp
  refine ⟨_, fun i => .slice (some ⟨q i, 0, none⟩) (rows i).length (cp i), cp, by rw [hl], by omega, h.nm, .inr ⟨R, 0, rfl, fun i hi => ?_⟩, fun i hi => ?_⟩
  · rw [hl] at hi; rw [Nat.zero_add]; exact h.cell hi (Nat.le_refl _)
  · rw [hl] at hi; rw [hs i hi]; exact (h.ro i hi).1.rs
theorem sw_range {N : Nat} {rows : Nat → List St} {l : List (List St)} (hl : l.length = N) (h : ∀ i, i < N → rows i = sw l i) : (List.range N).map rows = l := by
  apply List.ext_getElem (by simpa using hl.symm)
  intro i h1 h2
  have hi : i < N := by simpa using h1
  rw [List.getElem_map, List.getElem_range, h i hi, sw_of_lt h2]
/-- A chart and an error are returned. -/
def RetCE (w0 : World) (rows : List (List St)) (err : Int) (e : Ending) (w' : World) : Prop := ∃ v, e = .returned (.tuple #[.agg #[v], .int .i64 err]) ∧ RR w' v rows.length rows ∧ Ext w0 w'
theorem eiRows : EI Tryd.prog 25 37 (.slice Option.none 0 0) 24 := ⟨Tryd.underlying25, by kernel_rfl, rfl⟩
end Go.Proofs.YtkolebjpeaigcaaDoor
/- Rows of stitches of the call's own: their cells; append. -/
namespace Go.Proofs.YtkolebjpeaigcaaDoor
set_option linter.unusedVariables false
set_option linter.unusedSimpArgs false
set_option maxRecDepth 8000
open Go Go.RowKit

def cells (l : List St) : List Value := l.flatMap St.cs
theorem cells_len (l : List St) : (cells l).length = l.length * 5 := by
  induction l with
  | nil => rfl
  | cons s l ih => unfold cells at ih ⊢; rw [List.flatMap_cons, List.length_append, ih]; simp [St.cs]; omega
theorem cells_app (l m : List St) : cells (l ++ m) = cells l ++ cells m := by unfold cells; rw [List.flatMap_append]
theorem cells_at : ∀ (l : List St) (i : Nat), i < l.length → (cells l)[i * 5]? = some (.int .u8 (si l i).k) ∧ (cells l)[i * 5 + 1]? = some (.int .u8 (si l i).y) ∧ (cells l)[i * 5 + 2]? = some (.int .i64 (si l i).a) ∧ (cells l)[i * 5 + 3]? = some (.int .i64 (si l i).b) ∧ (cells l)[i * 5 + 4]? = some (.bool (si l i).f)
  | [], i, h => by simp at h
  | s :: l, 0, _ => ⟨rfl, rfl, rfl, rfl, rfl⟩
  | s :: l, i + 1, h => by
    have ih := cells_at l i (by simpa using h)
    have e : si (s :: l) (i + 1) = si l i := by unfold si; simp [List.getD]
    have c : ∀ d, (cells (s :: l))[(i + 1) * 5 + d]? = (cells l)[i * 5 + d]? := fun d => by
      rw [show (i + 1) * 5 + d = (i * 5 + d) + 1 + 1 + 1 + 1 + 1 by omega]; rfl
    rw [e]
    have c0 := c 0
    rw [Nat.add_zero, Nat.add_zero] at c0
    rw [c0, c 1, c 2, c 3, c 4]
    exact ih
/-- The cells in memory. -/
theorem RO.news {w : World} {g c : Nat} {l : List St} (h : RO w g c l) : ∀ j u, (cells l)[j]? = some u → w.cell? ((⟨g, 0, none⟩ : Addr).add j) = some u := by
  intro j u hu
  obtain ⟨h1, h2, f, h3, h4⟩ := h
  have hj : j < l.length * 5 := by rw [← cells_len]; exact (List.getElem?_eq_some_iff.1 hu).1
  have hadd : (⟨g, 0, none⟩ : Addr).add j = ⟨g, j, none⟩ := by simp [Addr.add]; try exact fun h => h.symm
  rw [hadd, h3.cell (by omega)]
  obtain ⟨a0, a1, a2, a3, a4⟩ := h4 (j / 5) (by omega)
  obtain ⟨b0, b1, b2, b3, b4⟩ := cells_at l (j / 5) (by omega)
  rcases (show j = j / 5 * 5 ∨ j = j / 5 * 5 + 1 ∨ j = j / 5 * 5 + 2 ∨ j = j / 5 * 5 + 3 ∨ j = j / 5 * 5 + 4 by omega) with e | e | e | e | e <;> rw [e] at hu ⊢
  · rw [a0, ← hu, b0]
  · rw [a1, ← hu, b1]
  · rw [a2, ← hu, b2]
  · rw [a3, ← hu, b3]
  · rw [a4, ← hu, b4]
theorem RO.of_own {w : World} {B n : Nat} {v : Value} {l : List St} (h : w.ownsRow B 33 5 v n (cells l)) (hn : 0 < n) : ∃ g c, v = .slice (some ⟨g, 0, none⟩) n c ∧ n = l.length ∧ B ≤ g ∧ RO w g c l := by
  obtain ⟨hl, h⟩ := h
  rw [cells_len] at hl
  rcases h with ⟨_, h⟩ | ⟨g, cap, cur, hv, hB, hb, hnc, hm, hsz, htk⟩
  · omega
  refine ⟨g, cap, hv, by omega, hB, by omega, hm, fun i => (cur[i]?).getD undef, ⟨cur, hb, hsz, fun i hi => by simp [Array.getElem?_eq_getElem (show i < cur.size by omega)]⟩, fun i hi => ?_⟩
  have hc : ∀ j, j < n * 5 → cur[j]? = (cells l)[j]? := fun j hj => by
    rw [← htk, List.getElem?_take, if_pos hj, Array.getElem?_toList]
  obtain ⟨b0, b1, b2, b3, b4⟩ := cells_at l i hi
  refine ⟨?_, ?_, ?_, ?_, ?_⟩ <;> simp only []
  · rw [hc _ (by omega), b0]; rfl
  · rw [hc _ (by omega), b1]; rfl
  · rw [hc _ (by omega), b2]; rfl
  · rw [hc _ (by omega), b3]; rfl
  · rw [hc _ (by omega), b4]; rfl
theorem cs_one (l : List St) : ∀ u ∈ cells l, u.oneCell' = true := by
  intro u hu
  obtain ⟨s, _, hs⟩ := List.mem_flatMap.1 hu
  simp [St.cs] at hs
  rcases hs with rfl | rfl | rfl | rfl | rfl <;> rfl
/-- 'append(s, x...)' of stitches of the call's own. -/
theorem app_st {w : World} {ops : Array Oper} {rest : List Oper} {o : Oper} {a : Act} {Q : Exit → Act → World → Prop}
    (hg : o.guard = none) (s x : Operand) (hop : o.op = Op.call { callee := Callee.builtin Builtin.append, args := #[s, x], argTypes := #[37, 37] })
    (B : Nat) (v : Value) (n : Nat) (xs : List Value) (hs : a.eval s = v) (hown : w.ownsRow B 33 5 v n xs)
    (g c m : Nat) (l : List St) (hx : a.eval x = .slice (some ⟨g, 0, none⟩) m c) (hm : m = l.length) (hR : RO w g c l)
    (hlen : n + m ≤ 1000000) (hB : B ≤ w.heap.size)
    (hK : ∀ v' w', w'.ownsRow B 33 5 v' (n + m) (xs ++ cells l) → Below B w w' → wpList Tryd.prog ops Q rest (a.put o.dst v') w') :
    wpList Tryd.prog ops Q (o :: rest) a w := by
  obtain ⟨i, hi, hzz⟩ := Option.map_eq_some_iff.1 (show (Tryd.prog.info? 33).map (fun i => (i.zero, i.size, i.bytes)) = some (some (.agg z5), 5, 32) by kernel_rfl)
  simp only [Prod.mk.injEq] at hzz
  obtain ⟨hz, hsz, hb⟩ := hzz
  refine wpList_append_own w hg s x 37 hop B 33 i (.agg z5) 5 32 Tryd.underlying37 hi hz hsz hb rfl (by decide) v n xs hs hown ⟨g, 0, none⟩ m c (cells l) hx (by rw [cells_len, hm]) hR.news (cs_one l) (by unfold maxLen; omega) (by omega) hB ?_
  intro v' w' h2 h3 _
  refine hK v' w' h2 ?_
  refine (Below.refl B w).grown h3 hB fun k hk => ?_
  obtain ⟨_, hv | ⟨g', cap, cur, hv, hBg, _⟩⟩ := hown
  · rw [hv.1] at hk; cases hk
  · rw [hv] at hk; injection hk with hk; rw [← hk]; exact hBg
end Go.Proofs.YtkolebjpeaigcaaDoor
/- Charts that a call builds by appending rows. -/
namespace Go.Proofs.YtkolebjpeaigcaaDoor
set_option linter.unusedVariables false
set_option linter.unusedSimpArgs false
set_option maxRecDepth 8000
open Go Go.RowKit

/-- 'append(s, x...)', s the call's own, x any slice: with all that is known of the new world. -/
theorem app_own_g {P : Program} {t e : TypeId} {z : Value} {bytes : Nat} (ei : EI P t e z bytes) {w : World} {ops : Array Oper} {rest : List Oper} {o : Oper} {a : Act} {Q : Exit → Act → World → Prop}
    (hg : o.guard = none) (s x : Operand) (hop : o.op = Op.call { callee := Callee.builtin Builtin.append, args := #[s, x], argTypes := #[t, t] })
    (B : Nat) (v : Value) (n : Nat) (xs : List Value) (hs : a.eval s = v) (hown : w.ownsRow B e 1 v n xs)
    (y : Value) (c : Nat) (ys : List Value) (hx : a.eval x = y) (hy : VS w y c ys) (h1 : ∀ u ∈ ys, u.oneCell' = true)
    (hbytes : (n + ys.length) * bytes ≤ 140737488355328) (hlen : n + ys.length ≤ 140737488355328) (hB : B ≤ w.heap.size)
    (hK : ∀ v' w', w'.ownsRow B e 1 v' (n + ys.length) (xs ++ ys) → w.grownBy w' v.ownBlock → wpList P ops Q rest (a.put o.dst v') w') :
    wpList P ops Q (o :: rest) a w := by
  obtain ⟨i, hi, hz0, hz1, hz2⟩ := info_parts ei.info
  obtain ⟨ao, rfl, hl, hm, hno, hc⟩ := hy
  have hzs : z.cells.size = 1 := by rw [ei.cell]; rfl
  cases ao with
  | none =>
    have hc0 := hno rfl
    have hys : ys = [] := List.eq_nil_of_length_eq_zero (by omega)
    subst hys
    subst hc0
    exact wpList_append_own_none hg s x t hop B e i 1 ei.und hi v n xs hs hown hx (hK v w (by simpa using hown) (World.grownBy.refl _ _))
  | some ad =>
    refine wpList_append_own w hg s x t hop B e i z 1 bytes ei.und hi hz0 hz1 hz2 hzs (by decide) v n xs hs hown ad ys.length c ys hx (by simp) (VS.cells hl hc ad rfl) h1 (by unfold maxLen; omega) hbytes hB ?_
    intro v' w' h2 h3 _
    exact hK v' w' h2 h3

/-- A block of another type is no row of the call's own. -/
theorem own_ne {w : World} {B n : Nat} {e t : TypeId} {v : Value} {xs : List Value} {z : Nat} (ho : w.ownsRow B e z v n xs) {b : Nat} {cs : Array Value} {q : Nat × Nat} (hb : w.heap[b]? = some (.cells cs t q)) (ht : t ≠ e) : v.ownBlock ≠ some b := by
  intro he
  obtain ⟨_, ⟨hv, _⟩ | ⟨g, cap, cur, hv, hB, hb2, _⟩⟩ := ho
  · rw [hv] at he; cases he
  · rw [hv] at he
    have : g = b := by simpa [Value.ownBlock] using he
    subst this
    rw [hb2] at hb
    simp only [Option.some.injEq, Obj.cells.injEq] at hb
    exact ht hb.2.1.symm
theorem blk_grown {w w' : World} {B n : Nat} {e t : TypeId} {v : Value} {xs : List Value} {z : Nat} (ho : w.ownsRow B e z v n xs) (hg : w.grownBy w' v.ownBlock) {b : Nat} {cs : Array Value} {q : Nat × Nat} (hb : w.heap[b]? = some (.cells cs t q)) (ht : t ≠ e) : w'.heap[b]? = some (.cells cs t q) := by
  have hlt : b < w.heap.size := (Array.getElem?_eq_some_iff.1 hb).1
  rw [hg.block b hlt (fun e => own_ne ho hb ht e.symm)]; exact hb
/-- A store elsewhere keeps a row of the call's own. -/
theorem own_setOther {w : World} {B n : Nat} {e : TypeId} {v u : Value} {xs : List Value} {z : Nat} (ho : w.ownsRow B e z v n xs) {a : Addr} (hne : v.ownBlock ≠ some a.block) : (w.setCell a u).ownsRow B e z v n xs := by
  obtain ⟨h1, ⟨hv, h2⟩ | ⟨g, cap, cur, hv, hB, hb2, h3⟩⟩ := ho
  · exact ⟨h1, .inl ⟨hv, h2⟩⟩
  · refine ⟨h1, .inr ⟨g, cap, cur, hv, hB, ?_, h3⟩⟩
    rw [Deep.blk_setCell_other _ _ _ _ (fun e => hne (by rw [hv, ← e]; rfl))]; exact hb2

theorem RO.block {w : World} {g c : Nat} {l : List St} (h : RO w g c l) : ∃ cs, w.heap[g]? = some (.cells cs 33 (0, 0)) := by
  obtain ⟨_, _, f, ⟨cur, h3, _⟩, _⟩ := h
  exact ⟨cur, h3⟩
theorem RO.of_block {w w' : World} {g c : Nat} {l : List St} (h : RO w g c l) (e : w'.heap[g]? = w.heap[g]?) : RO w' g c l := by
  obtain ⟨h1, h2, f, h3, h4⟩ := h
  exact ⟨h1, h2, f, h3.of_block e, h4⟩
theorem RO.grown {w w' : World} {g c B n : Nat} {e : TypeId} {l : List St} {v : Value} {xs : List Value} {z : Nat} (h : RO w g c l) (ho : w.ownsRow B e z v n xs) (hg : w.grownBy w' v.ownBlock) (ht : 33 ≠ e) : RO w' g c l := by
  obtain ⟨cs, hb⟩ := h.block
  exact h.of_block ((blk_grown ho hg hb ht).trans hb.symm)

/-- A row of stitches of the call's own, or nil. -/
def RV (w : World) (u : Value) (l : List St) : Prop := (u = .slice Option.none 0 0 ∧ l = []) ∨ ∃ q c, u = .slice (some ⟨q, 0, Option.none⟩) l.length c ∧ RO w q c l
theorem RV.ext {w w' : World} {u : Value} {l : List St} (h : RV w u l) (x : Ext w w') : RV w' u l := by
  rcases h with h | ⟨q, c, h1, h2⟩
  · exact .inl h
  · exact .inr ⟨q, c, h1, h2.ext x⟩
theorem RV.grown {w w' : World} {B n : Nat} {e : TypeId} {u : Value} {l : List St} {v : Value} {xs : List Value} {z : Nat} (h : RV w u l) (ho : w.ownsRow B e z v n xs) (hg : w.grownBy w' v.ownBlock) (ht : 33 ≠ e) : RV w' u l := by
  rcases h with h | ⟨q, c, h1, h2⟩
  · exact .inl h
  · exact .inr ⟨q, c, h1, h2.grown ho hg ht⟩
theorem RV.setOther {w : World} {u u' : Value} {l : List St} (h : RV w u l) {a : Addr} {cs : Array Value} {t : TypeId} {q : Nat × Nat} (hb : w.heap[a.block]? = some (.cells cs t q)) (ht : 33 ≠ t) : RV (w.setCell a u') u l := by
  rcases h with h | ⟨g, c, h1, h2⟩
  · exact .inl h
  · refine .inr ⟨g, c, h1, h2.setOther (fun e => ?_) _⟩
    obtain ⟨cs', hb2⟩ := h2.block
    rw [e, hb] at hb2
    simp only [Option.some.injEq, Obj.cells.injEq] at hb2
    exact ht hb2.2.1.symm
theorem RV.rs {w : World} {u : Value} {l : List St} (h : RV w u l) : ∃ c, RS w u c l := by
  rcases h with ⟨rfl, rfl⟩ | ⟨q, c, rfl, h2⟩
  · exact ⟨0, RS.nil w⟩
  · exact ⟨c, h2.rs⟩
theorem RV.form {w : World} {u : Value} {l : List St} (h : RV w u l) : ∃ a n c, u = .slice a n c ∧ n = l.length := by
  rcases h with ⟨rfl, rfl⟩ | ⟨q, c, rfl, h2⟩
  · exact ⟨_, _, _, rfl, rfl⟩
  · exact ⟨_, _, _, rfl, rfl⟩
theorem RV.of_own {w : World} {B n : Nat} {v : Value} {l : List St} (h : w.ownsRow B 33 5 v n (cells l)) : RV w v l ∧ n = l.length := by
  have hl := h.1
  rw [cells_len] at hl
  by_cases h0 : 0 < n
  · obtain ⟨g, c, hv, hn, _, hr⟩ := RO.of_own h h0
    rw [hn] at hv
    exact ⟨.inr ⟨g, c, hv, hr⟩, hn⟩
  · have hnl : l = [] := List.eq_nil_of_length_eq_zero (by omega)
    subst hnl
    have hn0 : n = 0 := by omega
    subst hn0
    refine ⟨?_, rfl⟩
    obtain ⟨_, ⟨hv, _⟩ | ⟨g, cap, cur, hv, hB, hb, hnc, hm, hsz, htk⟩⟩ := h
    · exact .inl ⟨hv, rfl⟩
    · exact .inr ⟨g, cap, hv, by simp, hm, fun i => (cur[i]?).getD undef, ⟨cur, hb, by omega, fun i hi => by simp [Array.getElem?_eq_getElem (show i < cur.size by omega)]⟩, fun i hi => by simp at hi⟩

/-- The rows that were appended so far. -/
def CO (w wr : World) (v : Value) (rows : List (List St)) : Prop :=
  Ext w wr ∧ ∃ vs : List Value, wr.ownsRow w.heap.size 37 1 v rows.length vs ∧ ∀ i, i < rows.length → ∃ u, vs[i]? = some u ∧ RV wr u (sw rows i)
theorem CO.nil {w wr : World} (x : Ext w wr) : CO w wr (.slice Option.none 0 0) [] := ⟨x, [], World.ownsRow_nil _ _ _ _, fun i hi => by simp at hi⟩
theorem CO.later {w wr w' : World} {v : Value} {rows : List (List St)} (h : CO w wr v rows) (x : Ext wr w') : CO w w' v rows := by
  obtain ⟨h1, vs, h2, h3⟩ := h
  exact ⟨h1.trans x, vs, own_ext h2 x, fun i hi => by obtain ⟨u, a, b⟩ := h3 i hi; exact ⟨u, a, b.ext x⟩⟩
theorem CO.setOther {w wr : World} {v u' : Value} {rows : List (List St)} (h : CO w wr v rows) {a : Addr} {cs : Array Value} {t : TypeId} {q : Nat × Nat} (hb : wr.heap[a.block]? = some (.cells cs t q)) (ht1 : 33 ≠ t) (ht2 : t ≠ 37) (hw : w.heap.size ≤ a.block) : CO w (wr.setCell a u') v rows := by
  obtain ⟨h1, vs, h2, h3⟩ := h
  exact ⟨h1.setCell hw _, vs, own_setOther h2 (own_ne h2 hb ht2), fun i hi => by obtain ⟨u, a', b⟩ := h3 i hi; exact ⟨u, a', b.setOther hb ht1⟩⟩
theorem CO.form {w wr : World} {v : Value} {rows : List (List St)} (h : CO w wr v rows) : ∃ a n c, v = .slice a n c ∧ n = rows.length := by
  obtain ⟨_, vs, ⟨_, ⟨hv, hn⟩ | ⟨g, cap, cur, hv, _⟩⟩, _⟩ := h
  · exact ⟨_, _, _, hv, hn.symm⟩
  · exact ⟨_, _, _, hv, rfl⟩
theorem sw_app (a : List (List St)) (x : List St) {j : Nat} (h : j < a.length) : sw (a ++ [x]) j = sw a j := by unfold sw; simp [List.getD, List.getElem?_append_left h]
theorem sw_new (a : List (List St)) (x : List St) : sw (a ++ [x]) a.length = x := by unfold sw; simp [List.getD]
theorem CO.rr {w wr : World} {v : Value} {rows : List (List St)} (h : CO w wr v rows) : ∃ c, RR wr v c rows := by
  obtain ⟨h1, vs, h2, h3⟩ := h
  obtain ⟨c, ao, hv, hl, hm, hno, hc⟩ := VS.of_own h2
  have hlen : vs.length = rows.length := by have := h2.1; omega
  have hcap : ∀ i, ∃ c', i < rows.length → RS wr (vs.getD i undef) c' (sw rows i) := fun i => by
    by_cases hi : i < rows.length
    · obtain ⟨u, a, b⟩ := h3 i hi
      obtain ⟨c', hr⟩ := b.rs
      exact ⟨c', fun _ => by rw [show vs.getD i undef = u by simp [List.getD, a]]; exact hr⟩
    · exact ⟨0, fun h => absurd h hi⟩
  refine ⟨c, ao, fun i => vs.getD i undef, fun i => (hcap i).choose, by rw [hv, hlen], by omega, hm, ?_, fun i hi => (hcap i).choose_spec hi⟩
  by_cases h0 : rows.length = 0
  · exact .inl (List.eq_nil_of_length_eq_zero h0)
  · cases ao with
    | none => have := hno rfl; omega
    | some a =>
      obtain ⟨b, o, s⟩ := a
      obtain ⟨hs, hcell⟩ := hc _ rfl
      have hs' : s = Option.none := hs (by omega)
      subst hs'
      exact .inr ⟨b, o, rfl, fun i hi => hcell i _ (by obtain ⟨u, a, _⟩ := h3 i hi; rw [a]; simp [List.getD, a])⟩
/-- 'c.Rows = append(c.Rows, row)'. -/
theorem app_row {w : World} {ops : Array Oper} {rest : List Oper} {o : Oper} {a : Act} {Q : Exit → Act → World → Prop}
    (hg : o.guard = Option.none) (s x : Operand) (hop : o.op = Op.call { callee := Callee.builtin Builtin.append, args := #[s, x], argTypes := #[25, 25] })
    (wb : World) (v : Value) (rows : List (List St)) (hs : a.eval s = v) (hco : CO wb w v rows) (u : Value) (l : List St) (hu : RV w u l)
    (g : Nat) (hx : a.eval x = .slice (some ⟨g, 0, Option.none⟩) 1 1) (hgw : g = w.heap.size) (hlen : rows.length ≤ 100000)
    (hK : ∀ v' w', CO wb w' v' (rows ++ [l]) → (∀ (b : Nat) (cs : Array Value) (t : TypeId) (q : Nat × Nat), w.heap[b]? = some (Obj.cells cs t q) → t ≠ 37 → w'.heap[b]? = some (Obj.cells cs t q)) → wpList Tryd.prog ops Q rest (a.put o.dst v') w') :
    wpList Tryd.prog ops Q (o :: rest) a (w.alloc (.cells #[u] 37)) := by
  obtain ⟨h1, vs, h2, h3⟩ := hco
  subst hgw
  have hvl : vs.length = rows.length := by have := h2.1; omega
  have h1u : ∀ y ∈ [u], y.oneCell' = true := by
    intro y hy
    obtain rfl := List.mem_singleton.1 hy
    obtain ⟨a', n', c', rfl, _⟩ := hu.form
    rfl
  have xa : Ext w (w.alloc (.cells #[u] 37)) := (Ext.refl w).alloc _
  refine app_own_g eiRows hg s x hop wb.heap.size v rows.length vs hs (own_ext h2 xa) _ 1 [u] hx (VS.one _ _ _) h1u (by simp; omega) (by simp; omega) (Nat.le_trans h1.size xa.size) ?_
  intro v' w' ho hgr
  have hst : 33 ≠ 37 := by decide
  refine hK v' w' ⟨?_, vs ++ [u], by simpa using ho, fun i hi => ?_⟩ (fun b cs t q hb ht => blk_grown (own_ext h2 xa) hgr (xa.block hb) ht)
  · refine (h1.trans xa).grown hgr fun k hk => ?_
    obtain ⟨_, ⟨hv, _⟩ | ⟨g', cap, cur, hv, hBg, _⟩⟩ := h2
    · rw [hv] at hk; cases hk
    · rw [hv] at hk; have : g' = k := by simpa [Value.ownBlock] using hk
      omega
  · rw [List.length_append, List.length_singleton] at hi
    by_cases e : i < rows.length
    · obtain ⟨u', a', b'⟩ := h3 i e
      rw [sw_app _ _ e]
      exact ⟨u', by rw [List.getElem?_append_left (by omega)]; exact a', (b'.ext xa).grown (own_ext h2 xa) hgr hst⟩
    · obtain rfl : i = rows.length := by omega
      rw [sw_new]
      exact ⟨u, by rw [List.getElem?_append_right (by omega)]; simp [hvl], (hu.ext xa).grown (own_ext h2 xa) hgr hst⟩
/-- A chart is returned. -/
def RetCC (w0 : World) (rows : List (List St)) (e : Ending) (w' : World) : Prop := ∃ v c, e = .returned (.agg #[v]) ∧ RR w' v c rows ∧ Ext w0 w'
/-- Stitches written out in a block. -/
theorem RO.lit {w : World} {l : List St} {arr : Array Value} (ha : arr = (cells l).toArray) (hl : l.length ≤ 1000) : RO (w.alloc (.cells arr 33)) w.heap.size l.length l := by
  have hr := World.rowIs_alloc w arr 33 (fun i => ((cells l)[i]?).getD undef) (fun i hi => by
    rw [ha] at hi ⊢
    rw [List.getElem?_toArray]
    have : i < (cells l).length := by simpa using hi
    simp [this])
  have hsz : arr.size = l.length * 5 := by rw [ha]; simp [cells_len]
  rw [hsz] at hr
  refine ⟨Nat.le_refl _, by unfold maxLen; omega, _, hr, fun i hi => ?_⟩
  obtain ⟨b0, b1, b2, b3, b4⟩ := cells_at l i hi
  refine ⟨?_, ?_, ?_, ?_, ?_⟩ <;> simp only []
  · rw [b0]; rfl
  · rw [b1]; rfl
  · rw [b2]; rfl
  · rw [b3]; rfl
  · rw [b4]; rfl
end Go.Proofs.YtkolebjpeaigcaaDoor
/- slices.Reverse and slices.Clip of rows. -/
namespace Go.Proofs.YtkolebjpeaigcaaDoor
set_option linter.unusedVariables false
set_option linter.unusedSimpArgs false
set_option maxRecDepth 8000
open Go Go.RowKit

/-- Nothing but block q may have changed. -/
def But (q : Nat) (w w' : World) : Prop := w'.os = w.os ∧ w'.tape = w.tape ∧ w'.output = w.output ∧ w.heap.size ≤ w'.heap.size ∧ ∀ b, b < w.heap.size → b ≠ q → w'.heap[b]? = w.heap[b]?
theorem But.refl (q : Nat) (w : World) : But q w w := ⟨rfl, rfl, rfl, Nat.le_refl _, fun _ _ _ => rfl⟩
theorem But.drew {q : Nat} {w w' : World} (h : But q w w') : But q w w'.drew := h
theorem But.set {q o : Nat} {w w' : World} (h : But q w w') (v : Value) : But q w (w'.setCell ⟨q, o, none⟩ v) := by
  obtain ⟨h1, h2, h3, h4, h5⟩ := h
  refine ⟨h1, h2, h3, by simpa [World.setCell] using h4, fun b hb hq => ?_⟩
  rw [Deep.blk_setCell_other _ _ _ _ hq]; exact h5 b hb hq
theorem But.ext {q : Nat} {w0 w w' : World} (h : But q w w') (x : Ext w0 w) (hq : w0.heap.size ≤ q) : Ext w0 w' :=
  ⟨h.1.trans x.os, h.2.1.trans x.tape, h.2.2.1.trans x.output, Nat.le_trans x.size h.2.2.2.1, fun b hb => (h.2.2.2.2 b (Nat.lt_of_lt_of_le hb x.size) (by omega)).trans (Below.block x b hb)⟩

/-- The first n turned round, as far as k steps have come. -/
def rvf (f : Nat → Value) (n k j : Nat) : Value := if j < k ∨ (n ≤ j + k ∧ j < n) then f (n - 1 - j) else f j
theorem rvf_zero (f : Nat → Value) (n : Nat) : rvf f n 0 = f := by
  funext j; unfold rvf; rw [if_neg (by omega)]
theorem rvf_step {f : Nat → Value} {n k : Nat} (h : k + k + 1 < n) : (fun i => if i = n - 1 - k then rvf f n k k else (fun i => if i = k then rvf f n k (n - 1 - k) else rvf f n k i) i) = rvf f n (k + 1) := by
  funext j
  unfold rvf
  by_cases e1 : j = n - 1 - k
  · subst e1
    rw [if_pos rfl, if_neg (by omega), if_pos (by omega)]
    congr 1; omega
  · rw [if_neg e1]
    by_cases e2 : j = k
    · subst e2
      simp only [if_true]
      rw [if_neg (by omega), if_pos (by omega)]
    · simp only [if_neg e2]
      by_cases c : j < k ∨ (n ≤ j + k ∧ j < n)
      · rw [if_pos c, if_pos (by omega)]
      · rw [if_neg c, if_neg (by omega)]
theorem rvf_end {f : Nat → Value} {n k : Nat} (h : n ≤ k + k + 1) (hk : k + k ≤ n) {j : Nat} (hj : j < n) : rvf f n k j = f (n - 1 - j) := by
  unfold rvf
  by_cases c : j < k ∨ (n ≤ j + k ∧ j < n)
  · rw [if_pos c]
  · rw [if_neg c]; congr 1; omega

set_option maxHeartbeats 2000000 in
theorem Reverse_calls (q n c : Nat) (f : Nat → Value) (w : World) (hr : w.rowIs q 37 c f) (hn : n ≤ c) (hc : n ≤ 1000000) (hf : ∀ j, j < n → ∃ a m d, f j = .slice a m d) :
    Calls Tryd.prog 44 #[.slice (some ⟨q, 0, none⟩) n c] w fun e w' => e = .returned (.tuple #[]) ∧ But q w w' ∧ ∃ f', w'.rowIs q 37 c f' ∧ ∀ j, j < n → f' j = f (n - 1 - j) := by
  have HR := Lib.hid hr
  have HF := Lib.hid hf
  clear hr hf
  have hn1 : IntKind.i64.wrap ((n : Int) - 1) = (n : Int) - 1 := IntWalk.i64_in _ ⟨by omega, by omega⟩
  go_enter Tryd.func44, Tryd.ntmps44
  go_wp2
  go_loopw [2, 3] (fun i j wr => ∃ k : Nat, k + k ≤ n ∧ i = .int .i64 k ∧ j = .int .i64 ((n : Int) - 1 - k) ∧ Hid (wr.rowIs q 37 c (rvf f n k) ∧ But q w wr)) (fun i _ _ => n - (intOf i).toNat)
  case atStart => exact ⟨0, by omega, rfl, by simp, Lib.hid ⟨by rw [rvf_zero]; exact HR.out, But.refl _ _⟩⟩
  case round =>
    obtain ⟨k, hk, rfl, rfl, H⟩ := hrel
    by_cases hlt : k + k + 1 < n
    · obtain ⟨l, hl⟩ : ∃ l : Nat, (n : Int) - 1 - k = l := ⟨n - 1 - k, by omega⟩
      rw [hl]
      have hlk : l = n - 1 - k := by omega
      have t1 : (k : Int) < (l : Int) := by omega
      have t2 : (k : Int) < (n : Int) := by omega
      have t3 : (l : Int) < (n : Int) := by omega
      have hck := H.out.1.cell (i := k) (by omega)
      have hcl := H.out.1.cell (i := l) (by omega)
      have hfz := H.out.1.frozen k
      have hfl := H.out.1.frozen l
      obtain ⟨a1, m1, d1, hv1⟩ := HF.out k (by omega)
      obtain ⟨a2, m2, d2, hv2⟩ := HF.out (n - 1 - k) (by omega)
      have e1 : rvf f n k k = .slice a1 m1 d1 := by unfold rvf; rw [if_neg (by omega)]; exact hv1
      have e2 : rvf f n k l = .slice a2 m2 d2 := by unfold rvf; rw [if_neg (by omega), hlk]; exact hv2
      rw [e1] at hck
      rw [e2] at hcl
      have hstep := rvf_step (f := f) hlt
      rw [← hlk, e1, e2] at hstep
      have HSp := Lib.hid hstep
      have hne : k ≠ l := by omega
      have w1 : IntKind.i64.wrap ((l : Int) - 1) = (l : Int) - 1 := IntWalk.i64_in _ ⟨by omega, by omega⟩
      have Hl := Lib.hid hl
      clear hstep hv1 hv2 e1 e2 hl hlk
      go_wp2
      go_region
      all_goals
        go_wp2
        go_roundw
        case rel =>
          refine ⟨k + 1, by omega, by go_num, by rw [← Hl.out]; congr 1; omega, Lib.hid ⟨?_, ((H.out.2.set _).set _).drew⟩⟩
          have := (H.out.1.set k (.slice a2 m2 d2)).set l (.slice a1 m1 d1)
          rw [HSp.out] at this
          exact this
        case measure => simp [intOf]; omega
    · have t1 : ¬ (k : Int) < (n : Int) - 1 - k := by omega
      have HE := Lib.hid (show ∀ j, j < n → rvf f n k j = f (n - 1 - j) from fun j hj => rvf_end (by omega) hk hj)
      go_wp2
      go_end0
      exact ⟨rfl, H.out.2, _, H.out.1, HE.out⟩
theorem Reverse_nil (w : World) : Calls Tryd.prog 44 #[.slice none 0 0] w fun e w' => e = .returned (.tuple #[]) ∧ w = w' := by
  go_enter Tryd.func44, Tryd.ntmps44
  go_wp2
  go_loopw [2, 3] (fun i j wr => i = .int .i64 0 ∧ j = .int .i64 (-1) ∧ Hid (w = wr)) (fun i _ _ => 0)
  case atStart => exact ⟨rfl, rfl, Lib.hid rfl⟩
  case round =>
    obtain ⟨rfl, rfl, H⟩ := hrel
    go_wp2
    go_end0
    exact ⟨rfl, H.out⟩
theorem Clip_calls (a : Option Addr) (n c : Nat) (w : World) (h : n ≤ c) (ha : ∀ x, a = some x → x.spot = none) (hz : a = none → c = 0) : Calls Tryd.prog 45 #[.slice a n c] w fun e w' => e = .returned (.slice a n n) ∧ w = w' := by
  have h1 : (n : Int) ≤ (c : Int) := by omega
  go_enter Tryd.func45, Tryd.ntmps45
  go_wp2
  go_ret
  exact ⟨rfl, rfl⟩
end Go.Proofs.YtkolebjpeaigcaaDoor
