/- Texts of this claim in one file: libraries and walks. -/
import Derived.Test.YtigffblelngpjaaDoorL8
import Derived.Test.YtigffblelngpjaaDoorL19
/- Rows of factors that are filled from the front; list[[]uint8] with the closures of Times, Inverse and Cycle (printed by gen_hg.py). -/
namespace Go.Proofs.YtigffblelngpjaaDoor
set_option linter.unusedVariables false
set_option linter.unusedSimpArgs false
set_option maxRecDepth 8000
open Go Go.RowKit

/-- The first k factors are made: the row lies in block g. -/
structure PA (n : Nat) (w wr : World) (g m k : Nat) (bs : List Nat) (ls : List (List Int)) : Prop where
  x : Ext w wr
  lo : w.heap.size ≤ g
  len : bs.length = k
  row : ∃ f, wr.rowIs g 22 m f ∧ (∀ i, i < k → f i = slc n (bs.getD i 0)) ∧ ∀ i, i < m → ∃ a b c, f i = .slice a b c
  ob : OBs wr bs ls
  nd : bs.Nodup
  lb : ∀ b ∈ bs, w.heap.size ≤ b
  pl : PML n ls
theorem PA.later {n : Nat} {w wr w' : World} {g m k : Nat} {bs : List Nat} {ls : List (List Int)} (h : PA n w wr g m k bs ls) (x : Ext wr w') : PA n w w' g m k bs ls := by
  obtain ⟨f, hr, h1, h2⟩ := h.row
  exact ⟨h.x.trans x, h.lo, h.len, ⟨f, x.row hr, h1, h2⟩, h.ob.map fun b _ y hy => hy.ext x, h.nd, h.lb, h.pl⟩
theorem PA.next {n : Nat} {w wr : World} {g m k b : Nat} {bs : List Nat} {ls : List (List Int)} {x : List Int} (h : PA n w wr g m k bs ls) (hk : k < m) (hb : OB wr b x) (hx : PM n x) (hlo : w.heap.size ≤ b) (hnb : b ∉ bs) :
    PA n w (wr.setCell ⟨g, k, none⟩ (slc n b)) g m (k + 1) (bs ++ [b]) (ls ++ [x]) := by
  obtain ⟨f, hr, h1, h2⟩ := h.row
  obtain ⟨cur, hcur, _⟩ := id hr
  have hty : 22 ≠ 5 := by decide
  have hl := h.len
  refine ⟨h.x.setCell h.lo _, h.lo, by simp [hl], ⟨_, hr.set k (slc n b), fun i i1 => ?_, fun i hi => ?_⟩, OBs.app (h.ob.map fun c _ y hy => hy.set hcur hty _) ⟨hb.set hcur hty _, trivial⟩, ?_, fun c hc => ?_, fun z hz => ?_⟩
  · by_cases e : i = k
    · simp only [if_pos e]; rw [e, ← hl]; simp [List.getD]
    · simp only [if_neg e]
      rw [h1 i (by omega)]
      simp [List.getD, List.getElem?_append_left (show i < bs.length by omega)]
  · by_cases e : i = k
    · simp only [if_pos e]; unfold slc; exact ⟨_, _, _, rfl⟩
    · simp only [if_neg e]; exact h2 i hi
  · exact List.nodup_append.2 ⟨h.nd, by simp, fun a ha c hc => by rw [List.mem_singleton.1 hc]; exact fun e => hnb (e ▸ ha)⟩
  · rcases List.mem_append.1 hc with e | e
    · exact h.lb c e
    · rw [List.mem_singleton.1 e]; exact hlo
  · rcases List.mem_append.1 hz with e | e
    · exact h.pl z e
    · rw [List.mem_singleton.1 e]; exact hx
theorem PA.fl {n : Nat} {w wr : World} {g m : Nat} {bs : List Nat} {ls : List (List Int)} (h : PA n w wr g m m bs ls) (hm : m ≤ 1000) : FL n w w.heap.size wr (.slice (some ⟨g, 0, none⟩) m m) bs ls := by
  obtain ⟨f, hr, h1, h2⟩ := h.row
  have : PF n w wr g m 0 bs ls := ⟨h.x, h.lo, by rw [h.len, Nat.sub_zero], ⟨f, hr, fun i _ i2 => by rw [Nat.sub_zero]; exact h1 i i2, h2⟩, h.ob, h.nd, h.lb, h.pl⟩
  exact this.fl hm
theorem take_ri {ls : List (List Int)} {k : Nat} (h : k < ls.length) : ls.take (k + 1) = ls.take k ++ [ri ls k] := by
  rw [List.take_add_one, List.getElem?_eq_getElem h, ri_of_lt h]; rfl
theorem RetB.len' {w0 : World} {xs : List Int} {n : Nat} {e : Ending} {w' : World} (h : RetB w0 xs e w') (hl : xs.length = n) : ∃ b, e = .returned (slc n b) ∧ OB w' b xs ∧ w0.heap.size ≤ b ∧ Ext w0 w' := by
  subst hl; exact h
/-- A list of factors of the call's own. -/
def RetFL (n : Nat) (w : World) (m : Nat) (zs : List (List Int)) (e : Ending) (w' : World) : Prop := ∃ g bs, e = .returned (.slice (some ⟨g, 0, none⟩) m m) ∧ FL n w w.heap.size w' (.slice (some ⟨g, 0, none⟩) m m) bs zs

set_option maxHeartbeats 2000000 in
theorem list_times (n : Nat) (B1 B2 m : Nat) (zs : List (List Int)) (w : World) (hm : m ≤ 1000) (h8 : n ≤ 8) (hz : zs.length = m) (hp : PML n zs)
    (hc : ∀ i, i < m → ∀ W, Ext w W → Calls Tryd.prog 46 #[.int .i64 (i : Int), .pointer (some ⟨B1, 0, none⟩), .pointer (some ⟨B2, 0, none⟩)] W (RetB W (ri zs i))) :
    Calls Tryd.prog 45 #[.int .i64 m, .func (Fn.func 46) #[] #[.pointer (some ⟨B1, 0, none⟩), .pointer (some ⟨B2, 0, none⟩)]] w (RetFL n w m zs) := by
  have hPM : ∀ i, i < m → PM n (ri zs i) := fun i hi => by rw [ri_of_lt (by omega)]; exact hp _ (List.getElem_mem _)
  have hfin : ∀ wr bs, PA n w wr w.heap.size m m bs (zs.take m) → RetFL n w m zs (.returned (.slice (some ⟨w.heap.size, 0, none⟩) m m)) wr := fun wr bs h => by
    rw [List.take_of_length_le (by omega)] at h
    exact ⟨_, bs, rfl, h.fl hm⟩
  have hnext : ∀ k, k < m → zs.take (k + 1) = zs.take k ++ [ri zs k] := fun k hk => take_ri (by omega)
  have HF := Lib.hid hfin; have HC := Lib.hid hc; have HP := Lib.hid hPM; have HN0 := Lib.hid hnext
  have hmk : ∀ w' : World, (Instr.makeSlice 28 (.int .i64 (m : Int)) (.int .i64 (m : Int))).run Tryd.prog w' = .ok (.slice (some ⟨w'.heap.size, 0, none⟩) m m) (w'.alloc (.cells (madeCells #[.slice none 0 0] m) 22)) := fun w' => run_make_lc (P := Tryd.prog) eiFs .i64 .i64 m m (by omega) (by omega) (by omega) w'
  clear hfin hc hPM hnext hz hp
  go_enter Tryd.func45, Tryd.ntmps45
  go_wp2
  go_loopw [6, 11] (fun _ i wr => ∃ (k : Nat) (bs : List Nat), k ≤ m ∧ i = .int .i64 k ∧ Hid (PA n w wr w.heap.size m k bs (zs.take k))) (fun _ i _ => m - (intOf i).toNat)
  case atStart => exact ⟨0, [], Nat.zero_le _, rfl, Lib.hid ⟨(Ext.refl w).alloc _, Nat.le_refl _, rfl, ⟨fun _ => .slice none 0 0, World.rowIs_made _ _ _ _, fun i h1 => by omega, fun i _ => ⟨_, _, _, rfl⟩⟩, trivial, List.nodup_nil, fun b hb => by (cases hb), fun z hz => by (cases hz)⟩⟩
  case round =>
    obtain ⟨k, bs, hk, rfl, H⟩ := hrel
    by_cases hlt : k < m
    · have t1 : (k : Int) < m := by omega
      have t1' : (0 : Int) ≤ k := by omega
      go_wp2_with fail
      refine (HC.out k hlt wr H.out.x).mono ?_
      intro e w1 hr
      obtain ⟨b, rfl, ob, lo, x⟩ := hr.len' (HP.out k hlt).len
      have h1 := (H.out.later x).next hlt ob (HP.out k hlt) (Nat.le_trans H.out.x.size lo) (fun e => by
        obtain ⟨z, hz⟩ := H.out.ob.mem b e
        have := hz.lt; omega)
      rw [← HN0.out k hlt] at h1
      have HN := Lib.hid h1
      obtain ⟨f, hrow, _, hsl⟩ := (H.out.later x).row
      obtain ⟨za, zb, zc, hz⟩ := hsl k hlt
      have hst := hrow.cell (i := k) hlt
      have hfz := hrow.frozen k
      rw [hz] at hst
      unfold slc at HN ⊢
      clear hrow hsl hz hr ob lo x h1
      go_wp2
      go_roundw
      case rel => exact ⟨k + 1, _, by omega, by go_num, HN⟩
      case measure => simp [intOf]; omega
    · obtain rfl : k = m := by omega
      have t1 : ¬ (k : Int) < k := by omega
      have HR := Lib.hid (HF.out wr bs H.out)
      go_wp2
      go_ret
      exact HR.out

set_option maxHeartbeats 2000000 in
theorem list_inv (n : Nat) (B1 B2 m : Nat) (zs : List (List Int)) (w : World) (hm : m ≤ 1000) (h8 : n ≤ 8) (hz : zs.length = m) (hp : PML n zs)
    (hc : ∀ i, i < m → ∀ W, Ext w W → Calls Tryd.prog 49 #[.int .i64 (i : Int), .pointer (some ⟨B1, 0, none⟩), .pointer (some ⟨B2, 0, none⟩)] W (RetB W (ri zs i))) :
    Calls Tryd.prog 45 #[.int .i64 m, .func (Fn.func 49) #[] #[.pointer (some ⟨B1, 0, none⟩), .pointer (some ⟨B2, 0, none⟩)]] w (RetFL n w m zs) := by
  have hPM : ∀ i, i < m → PM n (ri zs i) := fun i hi => by rw [ri_of_lt (by omega)]; exact hp _ (List.getElem_mem _)
  have hfin : ∀ wr bs, PA n w wr w.heap.size m m bs (zs.take m) → RetFL n w m zs (.returned (.slice (some ⟨w.heap.size, 0, none⟩) m m)) wr := fun wr bs h => by
    rw [List.take_of_length_le (by omega)] at h
    exact ⟨_, bs, rfl, h.fl hm⟩
  have hnext : ∀ k, k < m → zs.take (k + 1) = zs.take k ++ [ri zs k] := fun k hk => take_ri (by omega)
  have HF := Lib.hid hfin; have HC := Lib.hid hc; have HP := Lib.hid hPM; have HN0 := Lib.hid hnext
  have hmk : ∀ w' : World, (Instr.makeSlice 28 (.int .i64 (m : Int)) (.int .i64 (m : Int))).run Tryd.prog w' = .ok (.slice (some ⟨w'.heap.size, 0, none⟩) m m) (w'.alloc (.cells (madeCells #[.slice none 0 0] m) 22)) := fun w' => run_make_lc (P := Tryd.prog) eiFs .i64 .i64 m m (by omega) (by omega) (by omega) w'
  clear hfin hc hPM hnext hz hp
  go_enter Tryd.func45, Tryd.ntmps45
  go_wp2
  go_loopw [6, 11] (fun _ i wr => ∃ (k : Nat) (bs : List Nat), k ≤ m ∧ i = .int .i64 k ∧ Hid (PA n w wr w.heap.size m k bs (zs.take k))) (fun _ i _ => m - (intOf i).toNat)
  case atStart => exact ⟨0, [], Nat.zero_le _, rfl, Lib.hid ⟨(Ext.refl w).alloc _, Nat.le_refl _, rfl, ⟨fun _ => .slice none 0 0, World.rowIs_made _ _ _ _, fun i h1 => by omega, fun i _ => ⟨_, _, _, rfl⟩⟩, trivial, List.nodup_nil, fun b hb => by (cases hb), fun z hz => by (cases hz)⟩⟩
  case round =>
    obtain ⟨k, bs, hk, rfl, H⟩ := hrel
    by_cases hlt : k < m
    · have t1 : (k : Int) < m := by omega
      have t1' : (0 : Int) ≤ k := by omega
      go_wp2_with fail
      refine (HC.out k hlt wr H.out.x).mono ?_
      intro e w1 hr
      obtain ⟨b, rfl, ob, lo, x⟩ := hr.len' (HP.out k hlt).len
      have h1 := (H.out.later x).next hlt ob (HP.out k hlt) (Nat.le_trans H.out.x.size lo) (fun e => by
        obtain ⟨z, hz⟩ := H.out.ob.mem b e
        have := hz.lt; omega)
      rw [← HN0.out k hlt] at h1
      have HN := Lib.hid h1
      obtain ⟨f, hrow, _, hsl⟩ := (H.out.later x).row
      obtain ⟨za, zb, zc, hz⟩ := hsl k hlt
      have hst := hrow.cell (i := k) hlt
      have hfz := hrow.frozen k
      rw [hz] at hst
      unfold slc at HN ⊢
      clear hrow hsl hz hr ob lo x h1
      go_wp2
      go_roundw
      case rel => exact ⟨k + 1, _, by omega, by go_num, HN⟩
      case measure => simp [intOf]; omega
    · obtain rfl : k = m := by omega
      have t1 : ¬ (k : Int) < k := by omega
      have HR := Lib.hid (HF.out wr bs H.out)
      go_wp2
      go_ret
      exact HR.out

set_option maxHeartbeats 2000000 in
theorem list_cyc (n : Nat) (B1 B2 m : Nat) (zs : List (List Int)) (w : World) (hm : m ≤ 1000) (h8 : n ≤ 8) (hz : zs.length = m) (hp : PML n zs)
    (hc : ∀ i, i < m → ∀ W, Ext w W → Calls Tryd.prog 51 #[.int .i64 (i : Int), .pointer (some ⟨B1, 0, none⟩), .pointer (some ⟨B2, 0, none⟩)] W (RetB W (ri zs i))) :
    Calls Tryd.prog 45 #[.int .i64 m, .func (Fn.func 51) #[] #[.pointer (some ⟨B1, 0, none⟩), .pointer (some ⟨B2, 0, none⟩)]] w (RetFL n w m zs) := by
  have hPM : ∀ i, i < m → PM n (ri zs i) := fun i hi => by rw [ri_of_lt (by omega)]; exact hp _ (List.getElem_mem _)
  have hfin : ∀ wr bs, PA n w wr w.heap.size m m bs (zs.take m) → RetFL n w m zs (.returned (.slice (some ⟨w.heap.size, 0, none⟩) m m)) wr := fun wr bs h => by
    rw [List.take_of_length_le (by omega)] at h
    exact ⟨_, bs, rfl, h.fl hm⟩
  have hnext : ∀ k, k < m → zs.take (k + 1) = zs.take k ++ [ri zs k] := fun k hk => take_ri (by omega)
  have HF := Lib.hid hfin; have HC := Lib.hid hc; have HP := Lib.hid hPM; have HN0 := Lib.hid hnext
  have hmk : ∀ w' : World, (Instr.makeSlice 28 (.int .i64 (m : Int)) (.int .i64 (m : Int))).run Tryd.prog w' = .ok (.slice (some ⟨w'.heap.size, 0, none⟩) m m) (w'.alloc (.cells (madeCells #[.slice none 0 0] m) 22)) := fun w' => run_make_lc (P := Tryd.prog) eiFs .i64 .i64 m m (by omega) (by omega) (by omega) w'
  clear hfin hc hPM hnext hz hp
  go_enter Tryd.func45, Tryd.ntmps45
  go_wp2
  go_loopw [6, 11] (fun _ i wr => ∃ (k : Nat) (bs : List Nat), k ≤ m ∧ i = .int .i64 k ∧ Hid (PA n w wr w.heap.size m k bs (zs.take k))) (fun _ i _ => m - (intOf i).toNat)
  case atStart => exact ⟨0, [], Nat.zero_le _, rfl, Lib.hid ⟨(Ext.refl w).alloc _, Nat.le_refl _, rfl, ⟨fun _ => .slice none 0 0, World.rowIs_made _ _ _ _, fun i h1 => by omega, fun i _ => ⟨_, _, _, rfl⟩⟩, trivial, List.nodup_nil, fun b hb => by (cases hb), fun z hz => by (cases hz)⟩⟩
  case round =>
    obtain ⟨k, bs, hk, rfl, H⟩ := hrel
    by_cases hlt : k < m
    · have t1 : (k : Int) < m := by omega
      have t1' : (0 : Int) ≤ k := by omega
      go_wp2_with fail
      refine (HC.out k hlt wr H.out.x).mono ?_
      intro e w1 hr
      obtain ⟨b, rfl, ob, lo, x⟩ := hr.len' (HP.out k hlt).len
      have h1 := (H.out.later x).next hlt ob (HP.out k hlt) (Nat.le_trans H.out.x.size lo) (fun e => by
        obtain ⟨z, hz⟩ := H.out.ob.mem b e
        have := hz.lt; omega)
      rw [← HN0.out k hlt] at h1
      have HN := Lib.hid h1
      obtain ⟨f, hrow, _, hsl⟩ := (H.out.later x).row
      obtain ⟨za, zb, zc, hz⟩ := hsl k hlt
      have hst := hrow.cell (i := k) hlt
      have hfz := hrow.frozen k
      rw [hz] at hst
      unfold slc at HN ⊢
      clear hrow hsl hz hr ob lo x h1
      go_wp2
      go_roundw
      case rel => exact ⟨k + 1, _, by omega, by go_num, HN⟩
      case measure => simp [intOf]; omega
    · obtain rfl : k = m := by omega
      have t1 : ¬ (k : Int) < k := by omega
      have HR := Lib.hid (HF.out wr bs H.out)
      go_wp2
      go_ret
      exact HR.out
end Go.Proofs.YtigffblelngpjaaDoor
/- Boxes that hold normal forms; contracts of the closures of Times, Inverse and Cycle. -/
namespace Go.Proofs.YtigffblelngpjaaDoor
set_option linter.unusedVariables false
set_option linter.unusedSimpArgs false
set_option maxRecDepth 8000
open Go Go.RowKit

/-- A normal form in a box. -/
structure BX (n : Nat) (W : World) (B : Nat) (q : Int) (ls : List (List Int)) (a : Option Addr) (vs : Nat → Value) : Prop where
  b3 : B3 W B (.int .i64 (n : Int)) (.int .i64 q) (.slice a ls.length ls.length) 30
  at_ : ∀ i, i < ls.length → ∃ b o, a = some ⟨b, o, none⟩ ∧ W.cell? ⟨b, o + i, none⟩ = some (vs i)
  is_ : ∀ i, i < ls.length → IS .u8 W (vs i) n (ri ls i)
theorem BX.ext {n : Nat} {W W' : World} {B : Nat} {q : Int} {ls : List (List Int)} {a : Option Addr} {vs : Nat → Value} (h : BX n W B q ls a vs) (x : Ext W W') : BX n W' B q ls a vs :=
  ⟨x.block h.b3, fun i hi => by obtain ⟨b, o, e, hc⟩ := h.at_ i hi; exact ⟨b, o, e, x.cell hc⟩, fun i hi => (h.is_ i hi).ext x⟩
theorem BX.mk' {n : Nat} {w W : World} {B : Nat} {q : Int} {ls : List (List Int)} {a : Option Addr} (h : ISX .u8 w (.slice a ls.length ls.length) ls.length ls) (hp : PML n ls) (x : Ext w W) (hb : B3 W B (.int .i64 (n : Int)) (.int .i64 q) (.slice a ls.length ls.length) 30) : ∃ vs, BX n W B q ls a vs := by
  obtain ⟨vs, hat, his⟩ := h.at rfl
  refine ⟨vs, hb, fun i hi => ?_, fun i hi => ?_⟩
  · obtain ⟨b, o, e, hc⟩ := hat i hi; exact ⟨b, o, e, x.cell hc⟩
  · have := (his i hi).ext x
    have hl : (ri ls i).length = n := by rw [ri_of_lt hi]; exact (hp _ (List.getElem_mem _)).len
    rw [hl] at this; exact this
/-- Element i, for a walk. -/
theorem BX.el {n : Nat} {W : World} {B : Nat} {q : Int} {ls : List (List Int)} {a : Option Addr} {vs : Nat → Value} (h : BX n W B q ls a vs) (hp : PML n ls) {i : Nat} (hi : i < ls.length) :
    PM n (ri ls i) ∧ ∃ b o av, a = some ⟨b, o, none⟩ ∧ W.cell? ⟨b, o + i, none⟩ = some (.slice av n n) ∧ IS .u8 W (.slice av n n) n (ri ls i) := by
  have hP : PM n (ri ls i) := by rw [ri_of_lt hi]; exact hp _ (List.getElem_mem _)
  obtain ⟨b, o, e, hc⟩ := h.at_ i hi
  have hI := h.is_ i hi
  obtain ⟨_, _, av, hv, _⟩ := hI.open
  rw [hP.len] at hv
  rw [hv] at hc hI
  exact ⟨hP, b, o, av, e, hc, hI⟩

/-! ### Times -/
def timesZ (q : Int) (xs ys : List (List Int)) : List (List Int) := xs.map (flT q) ++ ys
theorem timesZ_len (q : Int) (xs ys : List (List Int)) : (timesZ q xs ys).length = xs.length + ys.length := by simp [timesZ]
theorem ri_left {xs ys : List (List Int)} {i : Nat} (h : i < xs.length) : ri (xs ++ ys) i = ri xs i := by unfold ri; simp [List.getD, List.getElem?_append_left h]
theorem ri_right {xs ys : List (List Int)} {i : Nat} (h : xs.length ≤ i) : ri (xs ++ ys) i = ri ys (i - xs.length) := by unfold ri; simp [List.getD, List.getElem?_append_right h]
theorem ri_map (f : List Int → List Int) {xs : List (List Int)} {i : Nat} (h : i < xs.length) : ri (xs.map f) i = f (ri xs i) := by unfold ri; simp [List.getD, h]
theorem timesZ_l {q : Int} {xs ys : List (List Int)} {i : Nat} (h : i < xs.length) : ri (timesZ q xs ys) i = flT q (ri xs i) := by
  unfold timesZ; rw [ri_left (by simpa using h), ri_map _ h]
theorem timesZ_r {q : Int} {xs ys : List (List Int)} {i : Nat} (h : xs.length ≤ i) : ri (timesZ q xs ys) i = ri ys (i - xs.length) := by
  unfold timesZ; rw [ri_right (by simpa using h)]; simp
theorem timesZ_pml {n : Nat} {q : Int} {xs ys : List (List Int)} (h : PML n xs) (k : PML n ys) : PML n (timesZ q xs ys) ∧ pms n (timesZ q xs ys) = flN n q (pms n xs) ++ pms n ys := by
  constructor
  · intro z hz
    rcases List.mem_append.1 hz with hz | hz
    · obtain ⟨y, hy, rfl⟩ := List.mem_map.1 hz; exact ((h y hy).flT q).1
    · exact k z hz
  · unfold timesZ pms
    rw [List.map_append, List.map_map]
    congr 1
    clear k
    induction xs with
    | nil => rw [List.map_nil, List.map_nil, flN_nil]
    | cons x xs ih =>
      have := ((h x (by simp)).flT q).2
      rw [List.map_cons, List.map_cons, ih (fun z hz => h z (by simp [hz])), show pm n x :: List.map (pm n) xs = [pm n x] ++ List.map (pm n) xs from rfl, flN_app, ← this]
      rfl
theorem RetB.of {w0 w1 : World} {xs : List Int} {e : Ending} {w' : World} (h : RetB w1 xs e w') (x : Ext w0 w1) : RetB w0 xs e w' := by
  obtain ⟨b, e1, o, l, x1⟩ := h
  exact ⟨b, e1, o, Nat.le_trans x.size l, x.trans x1⟩
set_option maxHeartbeats 4000000 in
theorem Times1_calls (n Ba Bb i : Nat) (p q : Int) (xs ys : List (List Int)) (a a' : Option Addr) (vs vs' : Nat → Value) (W : World) (h : BX n W Ba p xs a vs) (h' : BX n W Bb q ys a' vs') (hp : PML n xs) (hp' : PML n ys) (n1 : 1 ≤ n) (h8 : n ≤ 8) (hx : xs.length ≤ 256) (hy : ys.length ≤ 256) (hi : i < xs.length + ys.length) :
    Calls Tryd.prog 46 #[.int .i64 (i : Int), .pointer (some ⟨Ba, 0, none⟩), .pointer (some ⟨Bb, 0, none⟩)] W (RetB W (ri (timesZ q xs ys) i)) := by
  have c2 := h.b3.c2; have d1 := h'.b3.c1; have d2 := h'.b3.c2
  by_cases hlt : i < xs.length
  · obtain ⟨hP, b, o, av, rfl, hc, hI⟩ := h.el hp hlt
    rw [timesZ_l hlt]
    have hfl := fun W' (x : Ext W W') => FlipT_calls n q _ _ (ri xs i) W' (hI.ext x) hP n1 h8
    obtain ⟨m, hm⟩ : ∃ m, m = xs.length := ⟨_, rfl⟩
    rw [← hm] at c2 hlt hx
    have HFl := Lib.hid hfl; have HP := Lib.hid ((hP.flT q).1)
    have f1 : (i : Int) < m := by omega
    have f2 : (0 : Int) ≤ i := by omega
    clear h h' hp hp' hfl hm d2 hI hy hi hP
    go_enter Tryd.func46, Tryd.ntmps46
    go_wp2
    have q0_1 := c2; have q0_2 := d1; have q0_3 := hc
    go_region_held3 (fun w' => w'.cell? ⟨Ba, 2, Option.none⟩ = some (.slice (some ⟨b, o, none⟩) m m) ∧ w'.cell? ⟨Bb, 1, Option.none⟩ = some (.int .i64 q) ∧ w'.cell? ⟨b, o + i, Option.none⟩ = some (.slice av n n)) (first | (with_reducible exact ⟨q0_1, q0_2, q0_3⟩) | (with_reducible exact ⟨q1_1, q1_2, q1_3⟩) | go_keep) (first
      | (go_at_call 32; (refine (HFl.out _ ?_).mono ?_); (focus (repeat (first | (with_reducible exact Ext.refl _) | (with_reducible apply Ext.drew) | (with_reducible apply Ext.drewN) | (with_reducible apply Ext.alloc)))); intro e w1 hh; obtain ⟨g, rfl, ob, lo, x⟩ := hh; have Xa : Hid (Ext W w1) := Lib.hid (Ext.trans (by ((repeat (first | (with_reducible exact Ext.refl _) | (with_reducible apply Ext.drew) | (with_reducible apply Ext.drewN) | (with_reducible apply Ext.alloc))); done)) x); have q1_1 := Xa.out.cell q0_1; have q1_2 := Xa.out.cell q0_2; have q1_3 := Xa.out.cell q0_3; clear x))
    try go_wp2
    go_ret
    exact ⟨g, rfl, ob, lo, Xa.out⟩
  · have hge : xs.length ≤ i := by omega
    rw [timesZ_r hge]
    obtain ⟨j, hj⟩ : ∃ j, j = i - xs.length := ⟨_, rfl⟩
    have hjy : j < ys.length := by omega
    obtain ⟨hP, b, o, av, rfl, hc, hI⟩ := h'.el hp' hjy
    rw [← hj]
    have hcl := Clone_calls _ _ (ri ys j) W hI (by rw [hP.len]; exact n1) (by rw [hP.len]; exact h8)
    obtain ⟨m, hm⟩ : ∃ m, m = xs.length := ⟨_, rfl⟩
    obtain ⟨l, hl⟩ : ∃ m, m = ys.length := ⟨_, rfl⟩
    rw [← hm] at c2 hlt hx hj
    rw [← hl] at d2 hjy hy
    have HCl := Lib.hid hcl
    have f1 : ¬ (i : Int) < m := by omega
    have f2 : (j : Int) < l := by omega
    have f3 : (0 : Int) ≤ j := by omega
    have f4 : IntKind.i64.wrap ((i : Int) - m) = (j : Int) := by rw [show (i : Int) - m = (j : Int) by omega]; exact IntWalk.i64_in _ ⟨by omega, by omega⟩
    clear h h' hp hp' hcl hm hl hI hi hP hge hj d1
    go_enter Tryd.func46, Tryd.ntmps46
    go_wp2_with fail
    refine HCl.out.mono ?_
    rintro e w1 ⟨g, rfl, ob, lo, x⟩
    have X := Lib.hid x
    clear x
    go_wp2
    go_ret
    exact ⟨g, rfl, ob, lo, X.out⟩

/-! ### Inverse -/
def invZ (n : Nat) (q : Int) : List (List Int) → List (List Int)
  | [] => []
  | f :: l => invZ n (q + 1) l ++ [flT (q + 1) (restL f (halfL n))]
theorem invZ_len (n : Nat) : ∀ (ls : List (List Int)) (q : Int), (invZ n q ls).length = ls.length
  | [], _ => rfl
  | f :: l, q => by rw [invZ, List.length_append, invZ_len n l]; rfl
theorem invZ_ri {n : Nat} : ∀ {ls : List (List Int)} {q : Int} {i : Nat}, i < ls.length → ri (invZ n q ls) i = flT (ls.length - i + q) (restL (ri ls (ls.length - 1 - i)) (halfL n))
  | [], _, _, h => by simp at h
  | f :: l, q, i, h => by
    rw [invZ]
    by_cases hi : i < l.length
    · rw [ri_left (by rw [invZ_len]; exact hi), invZ_ri hi, show ((f :: l).length : Int) - i + q = (l.length : Int) - i + (q + 1) by simp; omega]
      congr 2
      have : (f :: l).length - 1 - i = (l.length - 1 - i) + 1 := by simp; omega
      rw [this]; rfl
    · have hi2 : i = l.length := by simp at h; omega
      subst hi2
      rw [ri_right (by rw [invZ_len]; exact Nat.le_refl _), invZ_len, Nat.sub_self, show (f :: l).length - 1 - l.length = 0 by simp, show ((f :: l).length : Int) - l.length + q = q + 1 by simp; omega]
      rfl
theorem invZ_pml {n : Nat} : ∀ {ls : List (List Int)} (q : Int), PML n ls → PML n (invZ n q ls) ∧ pms n (invZ n q ls) = invf n q (pms n ls)
  | [], _, h => ⟨h, rfl⟩
  | f :: l, q, h => by
    obtain ⟨a, b⟩ := invZ_pml (q + 1) (fun z hz => h z (by simp [hz]) : PML n l)
    have hf := (h f (by simp)).restL (PM.halfL n).1
    have hf2 := hf.1.flT (q + 1)
    rw [hf.2, (PM.halfL n).2] at hf2
    refine ⟨fun z hz => ?_, ?_⟩
    · rcases List.mem_append.1 hz with hz | hz
      · exact a z hz
      · rw [List.mem_singleton.1 hz]; exact hf2.1
    · rw [invZ]
      unfold pms at b ⊢
      rw [List.map_append, b]
      show invf n (q + 1) (List.map (pm n) l) ++ [pm n (flT (q + 1) (restL f (halfL n)))] = _
      rw [hf2.2]; rfl
theorem rest_ok {n : Nat} {xs : List Int} (h : PM n xs) (n1 : 1 ≤ n) (h8 : n ≤ 8) : restE xs (halfL n) = 0 := by
  have hh := (PM.halfL n).1
  have hb : bothE xs (halfL n) = 0 := by
    unfold bothE
    rw [if_neg (by rw [h.chk n1 h8]; simp), if_neg (by rw [hh.chk n1 h8]; simp), if_neg (by rw [h.len, hh.len]; simp)]
  unfold restE
  rw [if_neg (by rw [hb]; simp)]
  have : belowB xs (halfL n) = true := by
    unfold belowB
    refine List.all_eq_true.2 fun x _ => ?_
    obtain ⟨⟨a, b⟩, h1, h2, h3⟩ := x
    have hl := h.len
    unfold crossB
    simp only at h1 h2 h3 ⊢
    rw [halfL_gi (by omega), halfL_gi (by omega)]
    exact decide_eq_true (by omega)
  rw [if_pos this]
theorem Rest2_calls (n : Nat) (v : Value) (xs : List Int) (w : World) (h : IS .u8 w v n xs) (hp : PM n xs) (n1 : 1 ≤ n) (h8 : n ≤ 8) (g : Nat) (ho : OB w g (halfL n)) :
    Calls Tryd.prog 50 #[v, .slice (some ⟨g, 0, none⟩) n n] w fun e w' => ∃ ar, e = .returned (.tuple #[.slice ar n n, .int .i64 0]) ∧ IS .u8 w' (.slice ar n n) n (restL xs (halfL n)) ∧ Ext w w' := by
  have hh := (PM.halfL n).1
  have his := ho.is (by rw [hh.len]; omega)
  rw [hh.len] at his
  have := Rest_calls v _ n n xs (halfL n) w h his (hp.u8l h8) (hh.u8l h8) (fun _ => by
    have := pok_inR hp.inv.ok
    rw [invL_len] at this; exact this)
  rw [rest_ok hp n1 h8, if_pos rfl, if_pos rfl, hp.len] at this
  refine this.mono ?_
  intro e w' hr
  obtain ⟨v', rfl, hi, x⟩ := hr
  obtain ⟨a, m, c, rfl, hm, rfl, hi⟩ := hi.out
  rw [(hp.restL hh).1.len] at hm
  subst hm
  exact ⟨a, rfl, hi, x⟩
theorem Half2_calls (n : Nat) (w : World) (hn : n ≤ 8) : Calls Tryd.prog 35 #[.int .i64 n] w fun e w' => ∃ b, e = .returned (.slice (some ⟨b, 0, none⟩) n n) ∧ OB w' b (halfL n) ∧ w.heap.size ≤ b ∧ Ext w w' :=
  (Half_calls n w hn).mono fun e w' hr => by
    obtain ⟨b, e1, o, l, x⟩ := hr.len' (halfL_len n)
    exact ⟨b, e1, o, l, x⟩
set_option maxHeartbeats 4000000 in
theorem Inv1_calls (n Bx Bn i : Nat) (q : Int) (ls : List (List Int)) (a : Option Addr) (vs : Nat → Value) (W : World) (h : BX n W Bx q ls a vs) (hB : W.cell? ⟨Bn, 0, none⟩ = some (.int .i64 (ls.length : Int))) (hp : PML n ls) (n1 : 1 ≤ n) (h8 : n ≤ 8) (hx : ls.length ≤ 256) (hq : -2000 ≤ q ∧ q ≤ 2000) (hi : i < ls.length) :
    Calls Tryd.prog 49 #[.int .i64 (i : Int), .pointer (some ⟨Bx, 0, none⟩), .pointer (some ⟨Bn, 0, none⟩)] W (RetB W (ri (invZ n q ls) i)) := by
  have c0 := h.b3.c0; have c1 := h.b3.c1; have c2 := h.b3.c2
  rw [invZ_ri hi]
  obtain ⟨j, hj⟩ : ∃ j, j = ls.length - 1 - i := ⟨_, rfl⟩
  obtain ⟨hP, b, o, av, rfl, hc, hI⟩ := h.el hp (show j < ls.length by omega)
  rw [← hj]
  have hR := fun W' (x : Ext W W') g (ho : OB W' g (halfL n)) => Rest2_calls n _ (ri ls j) W' (hI.ext x) hP n1 h8 g ho
  have hpr := (hP.restL (PM.halfL n).1).1
  obtain ⟨m, hm⟩ : ∃ m, m = ls.length := ⟨_, rfl⟩
  rw [← hm] at c2 hx hi hj hB ⊢
  have hF := fun W' ar (hi : IS .u8 W' (.slice ar n n) n (restL (ri ls j) (halfL n))) => FlipT_calls n ((m : Int) - i + q) _ _ _ W' hi hpr n1 h8
  have HR := Lib.hid hR; have HF := Lib.hid hF; have HH := Lib.hid (fun W => Half2_calls n W h8)
  have f1 : (j : Int) < m := by omega
  have f2 : (0 : Int) ≤ j := by omega
  have f3 : IntKind.i64.wrap ((m : Int) - 1) = (m : Int) - 1 := IntWalk.i64_in _ ⟨by omega, by omega⟩
  have f4 : IntKind.i64.wrap ((m : Int) - 1 - i) = (j : Int) := by rw [show (m : Int) - 1 - i = (j : Int) by omega]; exact IntWalk.i64_in _ ⟨by omega, by omega⟩
  have f5 : IntKind.i64.wrap ((m : Int) - i) = (m : Int) - i := IntWalk.i64_in _ ⟨by omega, by omega⟩
  have f6 : IntKind.i64.wrap ((m : Int) - i + q) = (m : Int) - i + q := IntWalk.i64_in _ ⟨by omega, by omega⟩
  clear h hp hR hF hI hP hpr hm hj hi hx hq
  go_enter Tryd.func49, Tryd.ntmps49
  go_wp2
  have q0_1 := c2; have q0_2 := hB; have q0_3 := c0; have q0_4 := hc; have q0_5 := c1
  go_region_held3 (fun w' => w'.cell? ⟨Bx, 2, Option.none⟩ = some (.slice (some ⟨b, o, none⟩) m m) ∧ w'.cell? ⟨Bn, 0, Option.none⟩ = some (.int .i64 (m : Int)) ∧ w'.cell? ⟨Bx, 0, Option.none⟩ = some (.int .i64 (n : Int)) ∧ w'.cell? ⟨b, o + j, Option.none⟩ = some (.slice av n n) ∧ w'.cell? ⟨Bx, 1, Option.none⟩ = some (.int .i64 q)) (first | (with_reducible exact ⟨q0_1, q0_2, q0_3, q0_4, q0_5⟩) | (with_reducible exact ⟨q1_1, q1_2, q1_3, q1_4, q1_5⟩) | (with_reducible exact ⟨q2_1, q2_2, q2_3, q2_4, q2_5⟩) | go_keep) (first
    | (go_at_call 35; (refine (HH.out _).mono ?_); intro e wh hh; obtain ⟨g, rfl, ob, lo, x⟩ := hh; have Xh : Hid (Ext W wh) := Lib.hid (Ext.trans (by ((repeat (first | (with_reducible exact Ext.refl _) | (with_reducible apply Ext.drew) | (with_reducible apply Ext.drewN) | (with_reducible apply Ext.alloc))); done)) x); have q1_1 := Xh.out.cell q0_1; have q1_2 := Xh.out.cell q0_2; have q1_3 := Xh.out.cell q0_3; have q1_4 := Xh.out.cell q0_4; have q1_5 := Xh.out.cell q0_5; clear x)
    | (go_at_call 50; (refine (HR.out _ ?_ _ ?_).mono ?_); (focus (refine Ext.trans Xh.out ?_; (repeat (first | (with_reducible exact Ext.refl _) | (with_reducible apply Ext.drew) | (with_reducible apply Ext.drewN) | (with_reducible apply Ext.alloc))))); (focus (exact ob.ext (by (focus (repeat (first | (with_reducible exact Ext.refl _) | (with_reducible apply Ext.drew) | (with_reducible apply Ext.drewN) | (with_reducible apply Ext.alloc))))))); intro e w1 hh; obtain ⟨ar, rfl, hir, x⟩ := hh; have X1 : Hid (Ext W w1) := Lib.hid (Ext.trans Xh.out (Ext.trans (by ((repeat (first | (with_reducible exact Ext.refl _) | (with_reducible apply Ext.drew) | (with_reducible apply Ext.drewN) | (with_reducible apply Ext.alloc))); done)) x)); have q2_1 := X1.out.cell q0_1; have q2_2 := X1.out.cell q0_2; have q2_3 := X1.out.cell q0_3; have q2_4 := X1.out.cell q0_4; have q2_5 := X1.out.cell q0_5; clear x))
  have HI := Lib.hid hir
  clear hir ob lo
  go_wp2_with fail
  refine (HF.out _ _ HI.out).mono ?_
  rintro e w2 ⟨g2, rfl, ob, lo, x⟩
  have X := Lib.hid x
  have Hl := Lib.hid (Nat.le_trans X1.out.size lo)
  clear x lo
  go_wp2
  go_ret
  exact ⟨g2, rfl, ob, Hl.out, X1.out.trans X.out⟩

/-! ### Cycle -/
def cycZ (q : Int) : List (List Int) → List (List Int)
  | [] => []
  | f :: l => l ++ [flT q f]
theorem cycZ_len (q : Int) (ls : List (List Int)) : (cycZ q ls).length = ls.length := by
  cases ls with
  | nil => rfl
  | cons f l => simp [cycZ]
theorem cycZ_pml {n : Nat} {q : Int} {f : List Int} {l : List (List Int)} (h : PML n (f :: l)) : PML n (cycZ q (f :: l)) ∧ pms n (cycZ q (f :: l)) = pms n l ++ flN n q [pm n f] := by
  have hf := (h f (by simp)).flT q
  refine ⟨fun z hz => ?_, ?_⟩
  · rcases List.mem_append.1 hz with hz | hz
    · exact h z (by simp [hz])
    · rw [List.mem_singleton.1 hz]; exact hf.1
  · show pms n (l ++ [flT q f]) = _
    unfold pms
    rw [List.map_append]
    show _ ++ [pm n (flT q f)] = _
    rw [hf.2]
theorem cycZ_a {q : Int} {ls : List (List Int)} {i : Nat} (h : i + 1 < ls.length) : ri (cycZ q ls) i = ri ls (i + 1) := by
  cases ls with
  | nil => simp at h
  | cons f l =>
    have : i < l.length := by simpa using h
    show ri (l ++ [flT q f]) i = ri (f :: l) (i + 1)
    rw [ri_left this]; rfl
theorem cycZ_b {q : Int} {ls : List (List Int)} {i : Nat} (h : i + 1 = ls.length) : ri (cycZ q ls) i = flT q (ri ls 0) := by
  cases ls with
  | nil => simp at h
  | cons f l =>
    have : i = l.length := by simpa using h
    show ri (l ++ [flT q f]) i = flT q (ri (f :: l) 0)
    rw [ri_right (by omega), this, Nat.sub_self]; rfl
set_option maxHeartbeats 4000000 in
theorem Cyc1_calls (n Bx Bn i : Nat) (q : Int) (ls : List (List Int)) (a : Option Addr) (vs : Nat → Value) (W : World) (h : BX n W Bx q ls a vs) (hB : W.cell? ⟨Bn, 0, none⟩ = some (.int .i64 (ls.length : Int))) (hp : PML n ls) (n1 : 1 ≤ n) (h8 : n ≤ 8) (hx : ls.length ≤ 256) (hi : i < ls.length) :
    Calls Tryd.prog 51 #[.int .i64 (i : Int), .pointer (some ⟨Bn, 0, none⟩), .pointer (some ⟨Bx, 0, none⟩)] W (RetB W (ri (cycZ q ls) i)) := by
  have c1 := h.b3.c1; have c2 := h.b3.c2
  by_cases hlt : i + 1 < ls.length
  · obtain ⟨hP, b, o, av, rfl, hc, hI⟩ := h.el hp hlt
    rw [cycZ_a hlt]
    have hcl := Clone_calls _ _ _ W hI (by rw [hP.len]; exact n1) (by rw [hP.len]; exact h8)
    have HCl := Lib.hid hcl
    obtain ⟨m, hm⟩ : ∃ m, m = ls.length := ⟨_, rfl⟩
    rw [← hm] at c2 hx hlt hB
    have f1 : IntKind.i64.wrap ((m : Int) - 1) = (m : Int) - 1 := IntWalk.i64_in _ ⟨by omega, by omega⟩
    have f2 : (i : Int) < (m : Int) - 1 := by omega
    have f3 : IntKind.i64.wrap ((i : Int) + 1) = ((i + 1 : Nat) : Int) := by rw [show (i : Int) + 1 = ((i + 1 : Nat) : Int) by omega]; exact IntWalk.i64_in _ ⟨by omega, by omega⟩
    have f4 : ((i + 1 : Nat) : Int) < (m : Int) := by omega
    have f5 : (0 : Int) ≤ ((i + 1 : Nat) : Int) := by omega
    clear h hp hcl hI hP hm hi hlt hx
    go_enter Tryd.func51, Tryd.ntmps51
    go_wp2_with fail
    refine HCl.out.mono ?_
    rintro e w1 ⟨g, rfl, ob, lo, x⟩
    have X := Lib.hid x
    clear x
    go_wp2
    go_ret
    exact ⟨g, rfl, ob, lo, X.out⟩
  · have he : i + 1 = ls.length := by omega
    obtain ⟨hP, b, o, av, rfl, hc, hI⟩ := h.el hp (show 0 < ls.length by omega)
    rw [cycZ_b he]
    have hfl := fun W' (x : Ext W W') => FlipT_calls n q _ _ _ W' (hI.ext x) hP n1 h8
    have HFl := Lib.hid hfl
    obtain ⟨m, hm⟩ : ∃ m, m = ls.length := ⟨_, rfl⟩
    rw [← hm] at c2 hx he hB
    have f1 : IntKind.i64.wrap ((m : Int) - 1) = (m : Int) - 1 := IntWalk.i64_in _ ⟨by omega, by omega⟩
    have f2 : ¬ (i : Int) < (m : Int) - 1 := by omega
    have f4 : (0 : Int) < (m : Int) := by omega
    have f5 : 0 < m := by omega
    rw [Nat.add_zero] at hc
    clear h hp hfl hI hP hm hi hlt hx he
    go_enter Tryd.func51, Tryd.ntmps51
    go_wp2
    have q0_1 := c2; have q0_2 := c1; have q0_3 := hc
    go_region_held3 (fun w' => w'.cell? ⟨Bx, 2, Option.none⟩ = some (.slice (some ⟨b, o, none⟩) m m) ∧ w'.cell? ⟨Bx, 1, Option.none⟩ = some (.int .i64 q) ∧ w'.cell? ⟨b, o, Option.none⟩ = some (.slice av n n)) (first | (with_reducible exact ⟨q0_1, q0_2, q0_3⟩) | (with_reducible exact ⟨q1_1, q1_2, q1_3⟩) | go_keep) (first
      | (go_at_call 32; (refine (HFl.out _ ?_).mono ?_); (focus (repeat (first | (with_reducible exact Ext.refl _) | (with_reducible apply Ext.drew) | (with_reducible apply Ext.drewN) | (with_reducible apply Ext.alloc)))); intro e w1 hh; obtain ⟨g, rfl, ob, lo, x⟩ := hh; have Xa : Hid (Ext W w1) := Lib.hid (Ext.trans (by ((repeat (first | (with_reducible exact Ext.refl _) | (with_reducible apply Ext.drew) | (with_reducible apply Ext.drewN) | (with_reducible apply Ext.alloc))); done)) x); have q1_1 := Xa.out.cell q0_1; have q1_2 := Xa.out.cell q0_2; have q1_3 := Xa.out.cell q0_3; clear x))
    try go_wp2
    go_ret
    exact ⟨g, rfl, ob, lo, Xa.out⟩
end Go.Proofs.YtigffblelngpjaaDoor
/- Contracts of normals.limited, Times, Inverse and Cycle. -/
namespace Go.Proofs.YtigffblelngpjaaDoor
set_option linter.unusedVariables false
set_option linter.unusedSimpArgs false
set_option maxRecDepth 8000
open Go Go.RowKit

set_option maxHeartbeats 4000000 in
theorem Limited_calls (a : Option Addr) (N q : Int) (m : Nat) (ls : List (List Int)) (w : World) (h : NX w (.agg #[.int .i64 N, .int .i64 q, .slice a m m]) N q ls) (hq : -1024 ≤ q ∧ q ≤ 1024) (hl : ls.length ≤ 256) :
    Calls Tryd.prog 48 #[.agg #[.int .i64 N, .int .i64 q, .slice a m m]] w fun e w' => e = .returned (.tuple #[.agg #[.int .i64 N, .int .i64 q, .slice a m m], .int .i64 0]) ∧ Ext w w' := by
  obtain ⟨W, hW⟩ : ∃ W, W = (w.alloc (.cells #[.int .i64 N, .int .i64 q, .slice a m m] 30)).alloc (.cells #[.int .i64 0, .int .i64 0, .slice none 0 0] 30) := ⟨_, rfl⟩
  have xW : Ext w W := by rw [hW]; exact ((Ext.refl w).alloc _).alloc _
  have b1 : B3 W w.heap.size (.int .i64 N) (.int .i64 q) (.slice a m m) 30 := by
    rw [hW]; exact ((Ext.refl _).alloc _).block (B3.new w _ _ _ _)
  have b2 : B3 W (w.heap.size + 1) (.int .i64 0) (.int .i64 0) (.slice none 0 0) 30 := by
    rw [hW]
    have := B3.new (w.alloc (.cells #[.int .i64 N, .int .i64 q, .slice a m m] 30)) (.int .i64 0) (.int .i64 0) (.slice none 0 0) 30
    simpa using this
  have hby := Beyond_calls _ N q ls W (h.ext xW) hq hl
  have c0 := b1.c0; have c1 := b1.c1; have c2 := b1.c2
  have HW := Lib.hid hW; have XW := Lib.hid xW; have HB2 := Lib.hid b2; have HBy := Lib.hid hby; have HB1 := Lib.hid b1
  clear hW xW b1 b2 hby h hq hl
  go_enter Tryd.func48, Tryd.ntmps48
  rw [HW.out] at c0 c1 c2
  go_wp2_with fail
  rw [← HW.out]
  refine HBy.out.mono ?_
  rintro e w1 ⟨rfl, x1⟩
  have X1 := Lib.hid (XW.out.trans x1)
  replace HB1 : Hid (B3 _ _ _ _ _ _) := Lib.hid (x1.block HB1.out); replace HB2 : Hid (B3 _ _ _ _ _ _) := Lib.hid (x1.block HB2.out)
  clear c0 c1 c2 x1
  have c0 := HB1.out.c0; have c1 := HB1.out.c1; have c2 := HB1.out.c2
  have d0 := HB2.out.c0; have d1 := HB2.out.c1; have d2 := HB2.out.c2
  have e0 := HB2.out.fz (o := 0); have e1 := HB2.out.fz (o := 1); have e2 := HB2.out.fz (o := 2)
  go_wp2
  have hR := HB2.out.set3 (.int .i64 N) (.int .i64 q) (.slice a m m)
  have z0 := hR.c0; have z1 := hR.c1; have z2 := hR.c2
  exact bodyPost_ret (v := .tuple #[.agg #[.int .i64 N, .int .i64 q, .slice a m m], .int .i64 0]) (by simp [results, Tryd.results48, go_sem, z0, z1, z2]) rfl
    ⟨rfl, (((X1.out.setCell (by simp) _).setCell (by simp) _).setCell (by simp) _)⟩

/-- A normal form that is moved into s is returned. -/
def RetNf (n : Nat) (s : Int × List Pm) (lo : Int) (len : Nat) (w : World) (e : Ending) (w' : World) : Prop :=
  ∃ v r zs, e = .returned (.tuple #[v, .int .i64 0]) ∧ NX w' v n r zs ∧ NFo n r zs ∧ Qv n s (r, pms n zs) ∧ lo ≤ r ∧ r ≤ lo + len ∧ zs.length ≤ len ∧ Ext w w'
theorem no_one {n : Nat} {q : Int} {ls : List (List Int)} (h : NFo n q ls) (hn : n = 1) : ls = [] := by
  cases ls with
  | nil => rfl
  | cons x ls => have := (h.at (i := 0) (by simp)).2.2.2; omega

set_option maxHeartbeats 16000000 in
theorem Times_calls (v v' : Value) (n : Nat) (p q : Int) (xs ys : List (List Int)) (w : World) (h : NX w v n p xs) (h' : NX w v' n q ys) (ho : NFo n p xs) (ho' : NFo n q ys) (hlo : -1024 ≤ p + q) (hhi : p + q + (xs.length + ys.length : Nat) ≤ 1024) (hlen : xs.length + ys.length ≤ 256) :
    Calls Tryd.prog 18 #[v, v'] w (RetNf n (pr n (p, pms n xs) (q, pms n ys)) (p + q) (xs.length + ys.length) w) := by
  have n1 := ho.n1; have n8 := ho.n8
  have hpz := timesZ_pml (q := q) ho.pl ho'.pl
  have hzl := timesZ_len q xs ys
  have hone : n = 1 → p + q = 0 ∧ xs.length + ys.length = 0 := fun e => by rw [ho.one e, ho'.one e, no_one ho e, no_one ho' e]; exact ⟨rfl, rfl⟩
  have hck := fun w' (x : Ext w w') => NCheck_calls v n p xs w' (h.ext x) ho
  have hck' := fun w' (x : Ext w w') => NCheck_calls v' n q ys w' (h'.ext x) ho'
  obtain ⟨a, rfl, hX⟩ := h
  obtain ⟨a', rfl, hY⟩ := h'
  obtain ⟨W, hW⟩ : ∃ W, W = ((w.alloc (.cells #[.int .i64 (n : Int), .int .i64 p, .slice a xs.length xs.length] 30)).alloc (.cells #[.int .i64 (n : Int), .int .i64 q, .slice a' ys.length ys.length] 30)).alloc (.cells #[.int .i64 0, .int .i64 0, .slice none 0 0] 30) := ⟨_, rfl⟩
  have xW : Ext w W := by rw [hW]; exact (((Ext.refl w).alloc _).alloc _).alloc _
  have hsz : W.heap.size = w.heap.size + 1 + 1 + 1 := by rw [hW]; simp
  have b1 : B3 W w.heap.size (.int .i64 (n : Int)) (.int .i64 p) (.slice a xs.length xs.length) 30 := by
    rw [hW]; exact (((Ext.refl _).alloc _).alloc _).block (B3.new w _ _ _ _)
  have b2 : B3 W (w.heap.size + 1) (.int .i64 (n : Int)) (.int .i64 q) (.slice a' ys.length ys.length) 30 := by
    rw [hW]
    have h2 : B3 ((w.alloc (.cells #[.int .i64 (n : Int), .int .i64 p, .slice a xs.length xs.length] 30)).alloc (.cells #[.int .i64 (n : Int), .int .i64 q, .slice a' ys.length ys.length] 30)) (w.heap.size + 1) (.int .i64 (n : Int)) (.int .i64 q) (.slice a' ys.length ys.length) 30 := by
      have := B3.new (w.alloc (.cells #[.int .i64 (n : Int), .int .i64 p, .slice a xs.length xs.length] 30)) (.int .i64 (n : Int)) (.int .i64 q) (.slice a' ys.length ys.length) 30
      simpa using this
    exact ((Ext.refl _).alloc _).block h2
  have b3 : B3 W (w.heap.size + 1 + 1) (.int .i64 0) (.int .i64 0) (.slice none 0 0) 30 := by
    rw [hW]
    have := B3.new ((w.alloc (.cells #[.int .i64 (n : Int), .int .i64 p, .slice a xs.length xs.length] 30)).alloc (.cells #[.int .i64 (n : Int), .int .i64 q, .slice a' ys.length ys.length] 30)) (.int .i64 0) (.int .i64 0) (.slice none 0 0) 30
    simpa using this
  obtain ⟨vs, bx⟩ := BX.mk' hX ho.pl xW b1
  obtain ⟨vs', by'⟩ := BX.mk' hY ho'.pl xW b2
  have hclo := fun w1 (x : Ext W w1) i (hi : i < xs.length + ys.length) W' (x' : Ext w1 W') => Times1_calls n w.heap.size (w.heap.size + 1) i p q xs ys a a' vs vs' W' ((bx.ext x).ext x') ((by'.ext x).ext x') ho.pl ho'.pl n1 n8 ho.lb ho'.lb hi
  have hls := fun w1 (x : Ext W w1) => list_times n w.heap.size (w.heap.size + 1) (xs.length + ys.length) (timesZ q xs ys) w1 (by omega) n8 hzl hpz.1 (hclo w1 x)
  obtain ⟨k, hk⟩ : ∃ k, k = xs.length + ys.length := ⟨_, rfl⟩
  have hfin : ∀ (r : Int) (g m : Nat) (zs : List (List Int)) (W' : World), SR n W' g 0 m (List.range m) zs ∨ True → True := fun _ _ _ _ _ _ => trivial
  rw [← hk] at hls hzl hhi hlen hone ⊢
  have hpr : pr n (p, pms n xs) (q, pms n ys) = (p + q, pms n (timesZ q xs ys)) := by unfold pr; rw [hpz.2]
  rw [hpr]
  have hlx := ho.lb; have hly := ho'.lb; have hqp := ho.qb; have hqq := ho'.qb
  obtain ⟨mx, hmx⟩ : ∃ m, m = xs.length := ⟨_, rfl⟩
  obtain ⟨my, hmy⟩ : ∃ m, m = ys.length := ⟨_, rfl⟩
  rw [← hmx] at b1 hW hck hlx hk ⊢
  rw [← hmy] at b2 hW hck' hly hk ⊢
  have HCk := Lib.hid (hck W xW); have HCk' := Lib.hid (fun w1 (x : Ext W w1) => hck' w1 (xW.trans x)); have HLs := Lib.hid hls
  have HB1 := Lib.hid b1; have HB2 := Lib.hid b2; have HB3 := Lib.hid b3; have HW := Lib.hid hW; have XW := Lib.hid xW; have HSz := Lib.hid hsz; have HZl := Lib.hid hzl; have HOne := Lib.hid hone
  have f1 : IntKind.i64.wrap ((mx : Int) + my) = (k : Int) := by rw [show (mx : Int) + my = (k : Int) by omega]; exact IntWalk.i64_in _ ⟨by omega, by omega⟩
  have f2 : IntKind.i64.wrap (p + q) = p + q := IntWalk.i64_in _ ⟨by omega, by omega⟩
  clear hck hck' hls hclo bx by' hX hY hpz hpr hmx hmy hk hW xW hsz b1 b2 b3 ho ho' hzl hfin hone
  have c0 := HB1.out.c0; have c1 := HB1.out.c1; have c2 := HB1.out.c2
  rw [HW.out] at c0 c1 c2
  go_enter Tryd.func18, Tryd.ntmps18
  go_wp2_with fail
  rw [← HW.out]
  refine HCk.out.mono ?_
  rintro e w1 ⟨rfl, x1⟩
  have X1 := Lib.hid x1
  replace HB1 : Hid (B3 _ _ _ _ _ _) := Lib.hid (x1.block HB1.out); replace HB2 : Hid (B3 _ _ _ _ _ _) := Lib.hid (x1.block HB2.out); replace HB3 : Hid (B3 _ _ _ _ _ _) := Lib.hid (x1.block HB3.out)
  clear c0 c1 c2 x1
  have d0 := HB2.out.c0; have d1 := HB2.out.c1; have d2 := HB2.out.c2
  go_wp2_with fail
  refine (HCk'.out w1 X1.out).mono ?_
  rintro e w2 ⟨rfl, x2⟩
  have X2 := Lib.hid (X1.out.trans x2)
  replace HB1 : Hid (B3 _ _ _ _ _ _) := Lib.hid (x2.block HB1.out); replace HB2 : Hid (B3 _ _ _ _ _ _) := Lib.hid (x2.block HB2.out); replace HB3 : Hid (B3 _ _ _ _ _ _) := Lib.hid (x2.block HB3.out)
  clear d0 d1 d2 x2 X1
  have c0 := HB1.out.c0; have c1 := HB1.out.c1; have c2 := HB1.out.c2
  have d0 := HB2.out.c0; have d1 := HB2.out.c1; have d2 := HB2.out.c2
  go_wp2_with fail
  refine (HLs.out w2 X2.out).mono ?_
  rintro e w3 ⟨g, bs, rfl, hfl⟩
  have X3 := Lib.hid (X2.out.trans hfl.x)
  have KHB1 : Hid (B3 w3 _ _ _ _ _) := Lib.hid (hfl.x.block HB1.out)
  have KHB2 : Hid (B3 w3 _ _ _ _ _) := Lib.hid (hfl.x.block HB2.out)
  have hbl : k = bs.length := by rw [hfl.ob.len, HZl.out]
  have hga := Gather_calls n (p + q) w2 w3 w2.heap.size (some ⟨g, 0, none⟩) k k bs _ hfl hbl (by omega) n1 n8 ⟨by omega, by omega⟩
  have HGa := Lib.hid hga
  have Hsz2 := Lib.hid X2.out.size
  clear hfl hbl hga
  have c0 := KHB1.out.c0; have c1 := KHB1.out.c1; have c2 := KHB1.out.c2; have d0 := KHB2.out.c0; have d1 := KHB2.out.c1; have d2 := KHB2.out.c2
  go_wp2_with fail
  refine HGa.out.mono ?_
  intro e w4 hr
  obtain ⟨r, g4, m4, zs, rfl, ⟨⟨bs4, hsr⟩, hg4⟩, hpl, hll, hcan, hqv, l1, l2, l3, x4⟩ := hr
  rw [HZl.out] at l2 l3
  have hnx : NX w4 (.agg #[.int .i64 (n : Int), .int .i64 r, .slice (some ⟨g4, 0, none⟩) m4 m4]) n r zs := NX.mk (hsr.isx (by omega) n8) hll
  have hno : NFo n r zs := ⟨n1, n8, hpl, hcan, fun e => by have := HOne.out e; omega, ⟨by omega, by omega⟩, by omega⟩
  have HLim := Lib.hid (Limited_calls (some ⟨g4, 0, none⟩) n r m4 zs w4 hnx (by omega) (by omega))
  have X4 := Lib.hid (X2.out.trans x4)
  have HR4 : Hid (B3 w4 (w.heap.size + 1 + 1) _ _ _ _) := Lib.hid (x4.block HB3.out)
  have Hsr := Lib.hid hsr; have Hno := Lib.hid hno; have Hqv := Lib.hid hqv; have Hll := Lib.hid hll
  have Hg4 := Lib.hid (show w.heap.size + 1 + 1 ≠ g4 by have := Hsz2.out; have := HSz.out; omega)
  have Hb := Lib.hid (show p + q ≤ r ∧ r ≤ p + q + k ∧ m4 ≤ k from ⟨by omega, by omega, by omega⟩)
  clear hsr hg4 hpl hll hcan hqv l1 l2 l3 x4 hnx hno X2 Hsz2 HGa
  go_wp2_with fail
  refine HLim.out.mono ?_
  rintro e w5 ⟨rfl, x5⟩
  have X5 := Lib.hid (XW.out.trans (X4.out.trans x5))
  replace HR4 : Hid (B3 w5 (w.heap.size + 1 + 1) _ _ _ _) := Lib.hid (x5.block HR4.out)
  replace Hsr := Lib.hid (Hsr.out.ext x5)
  clear x5 X4
  have z0 := HR4.out.c0; have z1 := HR4.out.c1; have z2 := HR4.out.c2
  have e0 := HR4.out.fz (o := 0); have e1 := HR4.out.fz (o := 1); have e2 := HR4.out.fz (o := 2)
  go_wp2
  have hR := HR4.out.set3 (.int .i64 (n : Int)) (.int .i64 r) (.slice (some ⟨g4, 0, none⟩) m4 m4)
  have y0 := hR.c0; have y1 := hR.c1; have y2 := hR.c2
  have hs2 := (Hsr.out.setR3 HR4.out (by decide) Hg4.out (.int .i64 (n : Int)) (.int .i64 r) (.slice (some ⟨g4, 0, none⟩) m4 m4)).isx (by have := Hb.out; omega) n8
  have hm4 := Hll.out
  refine bodyPost_ret (v := .tuple #[.agg #[.int .i64 (n : Int), .int .i64 r, .slice (some ⟨g4, 0, none⟩) m4 m4], .int .i64 0]) (by simp [results, Tryd.results18, go_sem, y0, y1, y2]) rfl ?_
  refine ⟨_, r, zs, rfl, NX.mk hs2 hm4, Hno.out, Hqv.out, Hb.out.1, Hb.out.2.1, by rw [hm4]; exact Hb.out.2.2, ?_⟩
  exact (((X5.out.setCell (by first | omega | (simp; done) | (simp; omega)) _).setCell (by first | omega | (simp; done) | (simp; omega)) _).setCell (by first | omega | (simp; done) | (simp; omega)) _)

set_option maxHeartbeats 16000000 in
theorem NInverse_calls (v : Value) (n : Nat) (q : Int) (ls : List (List Int)) (w : World) (h : NX w v n q ls) (ho : NFo n q ls) (hlo : -1024 ≤ -q - (ls.length : Int)) (hhi : -q ≤ 1024) :
    Calls Tryd.prog 20 #[v] w (RetNf n (nvi n (q, pms n ls)) (-q - (ls.length : Int)) ls.length w) := by
  have n1 := ho.n1; have n8 := ho.n8
  have hzp : PML n (invZ n q ls) ∧ nvi n (q, pms n ls) = (-q - (ls.length : Int), pms n (invZ n q ls)) := ⟨(invZ_pml q ho.pl).1, by unfold nvi; rw [(invZ_pml q ho.pl).2]; unfold pms; simp⟩
  have hzl : (invZ n q ls).length = ls.length := invZ_len n ls q
  have hone : n = 1 → q = 0 ∧ ls.length = 0 := fun e => by rw [ho.one e, no_one ho e]; exact ⟨rfl, rfl⟩
  have hck := fun w' (x : Ext w w') => NCheck_calls v n q ls w' (h.ext x) ho
  obtain ⟨a, rfl, hX⟩ := h
  obtain ⟨W, hW⟩ : ∃ W, W = (w.alloc (.cells #[.int .i64 (n : Int), .int .i64 q, .slice a ls.length ls.length] 30)).alloc (.cells #[.int .i64 0, .int .i64 0, .slice none 0 0] 30) := ⟨_, rfl⟩
  have xW : Ext w W := by rw [hW]; exact ((Ext.refl w).alloc _).alloc _
  have hsz : W.heap.size = w.heap.size + 1 + 1 := by rw [hW]; simp
  have b1 : B3 W w.heap.size (.int .i64 (n : Int)) (.int .i64 q) (.slice a ls.length ls.length) 30 := by
    rw [hW]; exact ((Ext.refl _).alloc _).block (B3.new w _ _ _ _)
  have b3 : B3 W (w.heap.size + 1) (.int .i64 0) (.int .i64 0) (.slice none 0 0) 30 := by
    rw [hW]
    have := B3.new (w.alloc (.cells #[.int .i64 (n : Int), .int .i64 q, .slice a ls.length ls.length] 30)) (.int .i64 0) (.int .i64 0) (.slice none 0 0) 30
    simpa using this
  obtain ⟨vs, bx⟩ := BX.mk' hX ho.pl xW b1
  have hls := fun w1 Bn (x : Ext W w1) (hB : w1.cell? ⟨Bn, 0, none⟩ = some (.int .i64 (ls.length : Int))) => list_inv n w.heap.size Bn ls.length (invZ n q ls) w1 (by have := ho.lb; omega) n8 hzl hzp.1 fun i hi W' x' => Inv1_calls n w.heap.size Bn i q ls a vs W' ((bx.ext x).ext x') (x'.cell hB) ho.pl n1 n8 ho.lb (by have := ho.qb; omega) hi
  rw [hzp.2]
  have hlx := ho.lb; have hqb := ho.qb
  obtain ⟨m, hm⟩ : ∃ m, m = ls.length := ⟨_, rfl⟩
  rw [← hm] at b1 hW hck hlx hls hzl hone hlo ⊢
  have HCk := Lib.hid (hck W xW); have HLs := Lib.hid hls
  have HB1 := Lib.hid b1; have HB3 := Lib.hid b3; have HW := Lib.hid hW; have XW := Lib.hid xW; have HSz := Lib.hid hsz; have HZl := Lib.hid hzl; have HOne := Lib.hid hone
  have f1 : IntKind.i64.wrap (-q) = -q := IntWalk.i64_in _ ⟨by omega, by omega⟩
  have f2 : IntKind.i64.wrap (-q - (m : Int)) = -q - (m : Int) := IntWalk.i64_in _ ⟨by omega, by omega⟩
  clear hck hls bx hX hzp hm hW xW hsz b1 b3 ho hzl hone
  have c0 := HB1.out.c0; have c1 := HB1.out.c1; have c2 := HB1.out.c2
  rw [HW.out] at c0 c1 c2
  go_enter Tryd.func20, Tryd.ntmps20
  go_wp2_with fail
  rw [← HW.out]
  refine HCk.out.mono ?_
  rintro e w1 ⟨rfl, x1⟩
  obtain ⟨w2, hw2⟩ : ∃ w2, w2 = w1.alloc (.cells #[.int .i64 (m : Int)] 3) := ⟨_, rfl⟩
  have x2 : Ext w1 w2 := by rw [hw2]; exact (Ext.refl w1).alloc _
  have X2 := Lib.hid (x1.trans x2)
  replace HB1 : Hid (B3 _ _ _ _ _ _) := Lib.hid (x1.block HB1.out)
  have hBn : w2.cell? ⟨w1.heap.size, 0, none⟩ = some (.int .i64 (m : Int)) := by rw [hw2]; exact B1.c (Deep.blk_alloc_new _ _)
  clear c0 c1 c2
  have c0 := HB1.out.c0; have c1 := HB1.out.c1; have c2 := HB1.out.c2
  replace HB1 : Hid (B3 w2 _ _ _ _ _) := Lib.hid (x2.block HB1.out)
  replace HB3 : Hid (B3 w2 _ _ _ _ _) := Lib.hid (x2.block (x1.block HB3.out))
  have HBn := Lib.hid hBn; have HW2 := Lib.hid hw2
  clear x1 x2 hBn hw2
  go_wp2_with fail
  rw [← HW2.out]
  refine (HLs.out w2 _ X2.out HBn.out).mono ?_
  rintro e w3 ⟨g, bs, rfl, hfl⟩
  clear c0 c1 c2
  have KHB1 : Hid (B3 w3 _ _ _ _ _) := Lib.hid (hfl.x.block HB1.out)
  have KBn := Lib.hid (hfl.x.cell HBn.out)
  have hbl : m = bs.length := by rw [hfl.ob.len, HZl.out]
  have hga := Gather_calls n (-q - (m : Int)) w2 w3 w2.heap.size (some ⟨g, 0, none⟩) m m bs _ hfl hbl (by omega) n1 n8 ⟨by omega, by omega⟩
  have HGa := Lib.hid hga
  have Hsz2 := Lib.hid X2.out.size
  clear hfl hbl hga
  have c0 := KHB1.out.c0; have c1 := KHB1.out.c1; have c2 := KHB1.out.c2; have cn := KBn.out
  go_wp2_with fail
  refine HGa.out.mono ?_
  intro e w4 hr
  obtain ⟨r, g4, m4, zs, rfl, ⟨⟨bs4, hsr⟩, hg4⟩, hpl, hll, hcan, hqv, l1, l2, l3, x4⟩ := hr
  rw [HZl.out] at l2 l3
  have hnx : NX w4 (.agg #[.int .i64 (n : Int), .int .i64 r, .slice (some ⟨g4, 0, none⟩) m4 m4]) n r zs := NX.mk (hsr.isx (by omega) n8) hll
  have hno : NFo n r zs := ⟨n1, n8, hpl, hcan, fun e => by have := HOne.out e; omega, ⟨by omega, by omega⟩, by omega⟩
  have HLim := Lib.hid (Limited_calls (some ⟨g4, 0, none⟩) n r m4 zs w4 hnx (by omega) (by omega))
  have X4 := Lib.hid (X2.out.trans x4)
  have HR4 : Hid (B3 w4 (w.heap.size + 1) _ _ _ _) := Lib.hid (x4.block HB3.out)
  have Hsr := Lib.hid hsr; have Hno := Lib.hid hno; have Hqv := Lib.hid hqv; have Hll := Lib.hid hll
  have Hg4 := Lib.hid (show w.heap.size + 1 ≠ g4 by have := Hsz2.out; have := HSz.out; omega)
  have Hb := Lib.hid (show -q - (m : Int) ≤ r ∧ r ≤ -q - (m : Int) + m ∧ m4 ≤ m from ⟨by omega, by omega, by omega⟩)
  clear hsr hg4 hpl hll hcan hqv l1 l2 l3 x4 hnx hno X2 Hsz2 HGa
  go_wp2_with fail
  refine HLim.out.mono ?_
  rintro e w5 ⟨rfl, x5⟩
  have X5 := Lib.hid (XW.out.trans (X4.out.trans x5))
  replace HR4 : Hid (B3 w5 (w.heap.size + 1) _ _ _ _) := Lib.hid (x5.block HR4.out)
  replace Hsr := Lib.hid (Hsr.out.ext x5)
  clear x5 X4
  have z0 := HR4.out.c0; have z1 := HR4.out.c1; have z2 := HR4.out.c2
  have e0 := HR4.out.fz (o := 0); have e1 := HR4.out.fz (o := 1); have e2 := HR4.out.fz (o := 2)
  go_wp2
  have hR := HR4.out.set3 (.int .i64 (n : Int)) (.int .i64 r) (.slice (some ⟨g4, 0, none⟩) m4 m4)
  have y0 := hR.c0; have y1 := hR.c1; have y2 := hR.c2
  have hs2 := (Hsr.out.setR3 HR4.out (by decide) Hg4.out (.int .i64 (n : Int)) (.int .i64 r) (.slice (some ⟨g4, 0, none⟩) m4 m4)).isx (by have := Hb.out; omega) n8
  have hm4 := Hll.out
  refine bodyPost_ret (v := .tuple #[.agg #[.int .i64 (n : Int), .int .i64 r, .slice (some ⟨g4, 0, none⟩) m4 m4], .int .i64 0]) (by simp [results, Tryd.results20, go_sem, y0, y1, y2]) rfl ?_
  refine ⟨_, r, zs, rfl, NX.mk hs2 hm4, Hno.out, Hqv.out, Hb.out.1, Hb.out.2.1, by rw [hm4]; exact Hb.out.2.2, ?_⟩
  exact (((X5.out.setCell (by first | omega | (simp; done) | (simp; omega)) _).setCell (by first | omega | (simp; done) | (simp; omega)) _).setCell (by first | omega | (simp; done) | (simp; omega)) _)

theorem cycZ_ok {n : Nat} {q : Int} {ls : List (List Int)} (h : PML n ls) : PML n (cycZ q ls) := by
  cases ls with
  | nil => exact h
  | cons f l => exact (cycZ_pml h).1

set_option maxHeartbeats 16000000 in
theorem NCycle_calls (v : Value) (n : Nat) (q : Int) (ls : List (List Int)) (w : World) (h : NX w v n q ls) (ho : NFo n q ls) (hhi : q + (ls.length : Int) ≤ 1024) :
    Calls Tryd.prog 22 #[v] w (RetNf n (q, pms n (cycZ q ls)) (q) ls.length w) := by
  have n1 := ho.n1; have n8 := ho.n8
  have hzp : PML n (cycZ q ls) ∧ (q, pms n (cycZ q ls)) = (q, pms n (cycZ q ls)) := ⟨cycZ_ok ho.pl, rfl⟩
  have hzl : (cycZ q ls).length = ls.length := cycZ_len q ls
  have hone : n = 1 → q = 0 ∧ ls.length = 0 := fun e => by rw [ho.one e, no_one ho e]; exact ⟨rfl, rfl⟩
  have hck := fun w' (x : Ext w w') => NCheck_calls v n q ls w' (h.ext x) ho
  obtain ⟨a, rfl, hX⟩ := h
  obtain ⟨W, hW⟩ : ∃ W, W = (w.alloc (.cells #[.int .i64 (n : Int), .int .i64 q, .slice a ls.length ls.length] 30)).alloc (.cells #[.int .i64 0, .int .i64 0, .slice none 0 0] 30) := ⟨_, rfl⟩
  have xW : Ext w W := by rw [hW]; exact ((Ext.refl w).alloc _).alloc _
  have hsz : W.heap.size = w.heap.size + 1 + 1 := by rw [hW]; simp
  have b1 : B3 W w.heap.size (.int .i64 (n : Int)) (.int .i64 q) (.slice a ls.length ls.length) 30 := by
    rw [hW]; exact ((Ext.refl _).alloc _).block (B3.new w _ _ _ _)
  have b3 : B3 W (w.heap.size + 1) (.int .i64 0) (.int .i64 0) (.slice none 0 0) 30 := by
    rw [hW]
    have := B3.new (w.alloc (.cells #[.int .i64 (n : Int), .int .i64 q, .slice a ls.length ls.length] 30)) (.int .i64 0) (.int .i64 0) (.slice none 0 0) 30
    simpa using this
  obtain ⟨vs, bx⟩ := BX.mk' hX ho.pl xW b1
  have hls := fun w1 Bn (x : Ext W w1) (hB : w1.cell? ⟨Bn, 0, none⟩ = some (.int .i64 (ls.length : Int))) => list_cyc n Bn w.heap.size ls.length (cycZ q ls) w1 (by have := ho.lb; omega) n8 hzl hzp.1 fun i hi W' x' => Cyc1_calls n w.heap.size Bn i q ls a vs W' ((bx.ext x).ext x') (x'.cell hB) ho.pl n1 n8 ho.lb hi
  rw [hzp.2]
  have hlx := ho.lb; have hqb := ho.qb
  obtain ⟨m, hm⟩ : ∃ m, m = ls.length := ⟨_, rfl⟩
  rw [← hm] at b1 hW hck hlx hls hzl hone hhi ⊢
  have HCk := Lib.hid (hck W xW); have HLs := Lib.hid hls
  have HB1 := Lib.hid b1; have HB3 := Lib.hid b3; have HW := Lib.hid hW; have XW := Lib.hid xW; have HSz := Lib.hid hsz; have HZl := Lib.hid hzl; have HOne := Lib.hid hone
  skip
  clear hck hls bx hX hzp hm hW xW hsz b1 b3 ho hzl hone
  have c0 := HB1.out.c0; have c1 := HB1.out.c1; have c2 := HB1.out.c2
  rw [HW.out] at c0 c1 c2
  go_enter Tryd.func22, Tryd.ntmps22
  go_wp2_with fail
  rw [← HW.out]
  refine HCk.out.mono ?_
  rintro e w1 ⟨rfl, x1⟩
  obtain ⟨w2, hw2⟩ : ∃ w2, w2 = w1.alloc (.cells #[.int .i64 (m : Int)] 3) := ⟨_, rfl⟩
  have x2 : Ext w1 w2 := by rw [hw2]; exact (Ext.refl w1).alloc _
  have X2 := Lib.hid (x1.trans x2)
  replace HB1 : Hid (B3 _ _ _ _ _ _) := Lib.hid (x1.block HB1.out)
  have hBn : w2.cell? ⟨w1.heap.size, 0, none⟩ = some (.int .i64 (m : Int)) := by rw [hw2]; exact B1.c (Deep.blk_alloc_new _ _)
  clear c0 c1 c2
  have c0 := HB1.out.c0; have c1 := HB1.out.c1; have c2 := HB1.out.c2
  replace HB1 : Hid (B3 w2 _ _ _ _ _) := Lib.hid (x2.block HB1.out)
  replace HB3 : Hid (B3 w2 _ _ _ _ _) := Lib.hid (x2.block (x1.block HB3.out))
  have HBn := Lib.hid hBn; have HW2 := Lib.hid hw2
  clear x1 x2 hBn hw2
  go_wp2_with fail
  rw [← HW2.out]
  refine (HLs.out w2 _ X2.out HBn.out).mono ?_
  rintro e w3 ⟨g, bs, rfl, hfl⟩
  clear c0 c1 c2
  have KHB1 : Hid (B3 w3 _ _ _ _ _) := Lib.hid (hfl.x.block HB1.out)
  have KBn := Lib.hid (hfl.x.cell HBn.out)
  have hbl : m = bs.length := by rw [hfl.ob.len, HZl.out]
  have hga := Gather_calls n (q) w2 w3 w2.heap.size (some ⟨g, 0, none⟩) m m bs _ hfl hbl (by omega) n1 n8 ⟨by omega, by omega⟩
  have HGa := Lib.hid hga
  have Hsz2 := Lib.hid X2.out.size
  clear hfl hbl hga
  have c0 := KHB1.out.c0; have c1 := KHB1.out.c1; have c2 := KHB1.out.c2; have cn := KBn.out
  go_wp2_with fail
  refine HGa.out.mono ?_
  intro e w4 hr
  obtain ⟨r, g4, m4, zs, rfl, ⟨⟨bs4, hsr⟩, hg4⟩, hpl, hll, hcan, hqv, l1, l2, l3, x4⟩ := hr
  rw [HZl.out] at l2 l3
  have hnx : NX w4 (.agg #[.int .i64 (n : Int), .int .i64 r, .slice (some ⟨g4, 0, none⟩) m4 m4]) n r zs := NX.mk (hsr.isx (by omega) n8) hll
  have hno : NFo n r zs := ⟨n1, n8, hpl, hcan, fun e => by have := HOne.out e; omega, ⟨by omega, by omega⟩, by omega⟩
  have HLim := Lib.hid (Limited_calls (some ⟨g4, 0, none⟩) n r m4 zs w4 hnx (by omega) (by omega))
  have X4 := Lib.hid (X2.out.trans x4)
  have HR4 : Hid (B3 w4 (w.heap.size + 1) _ _ _ _) := Lib.hid (x4.block HB3.out)
  have Hsr := Lib.hid hsr; have Hno := Lib.hid hno; have Hqv := Lib.hid hqv; have Hll := Lib.hid hll
  have Hg4 := Lib.hid (show w.heap.size + 1 ≠ g4 by have := Hsz2.out; have := HSz.out; omega)
  have Hb := Lib.hid (show q ≤ r ∧ r ≤ q + m ∧ m4 ≤ m from ⟨by omega, by omega, by omega⟩)
  clear hsr hg4 hpl hll hcan hqv l1 l2 l3 x4 hnx hno X2 Hsz2 HGa
  go_wp2_with fail
  refine HLim.out.mono ?_
  rintro e w5 ⟨rfl, x5⟩
  have X5 := Lib.hid (XW.out.trans (X4.out.trans x5))
  replace HR4 : Hid (B3 w5 (w.heap.size + 1) _ _ _ _) := Lib.hid (x5.block HR4.out)
  replace Hsr := Lib.hid (Hsr.out.ext x5)
  clear x5 X4
  have z0 := HR4.out.c0; have z1 := HR4.out.c1; have z2 := HR4.out.c2
  have e0 := HR4.out.fz (o := 0); have e1 := HR4.out.fz (o := 1); have e2 := HR4.out.fz (o := 2)
  go_wp2
  have hR := HR4.out.set3 (.int .i64 (n : Int)) (.int .i64 r) (.slice (some ⟨g4, 0, none⟩) m4 m4)
  have y0 := hR.c0; have y1 := hR.c1; have y2 := hR.c2
  have hs2 := (Hsr.out.setR3 HR4.out (by decide) Hg4.out (.int .i64 (n : Int)) (.int .i64 r) (.slice (some ⟨g4, 0, none⟩) m4 m4)).isx (by have := Hb.out; omega) n8
  have hm4 := Hll.out
  refine bodyPost_ret (v := .tuple #[.agg #[.int .i64 (n : Int), .int .i64 r, .slice (some ⟨g4, 0, none⟩) m4 m4], .int .i64 0]) (by simp [results, Tryd.results22, go_sem, y0, y1, y2]) rfl ?_
  refine ⟨_, r, zs, rfl, NX.mk hs2 hm4, Hno.out, Hqv.out, Hb.out.1, Hb.out.2.1, by rw [hm4]; exact Hb.out.2.2, ?_⟩
  exact (((X5.out.setCell (by first | omega | (simp; done) | (simp; omega)) _).setCell (by first | omega | (simp; done) | (simp; omega)) _).setCell (by first | omega | (simp; done) | (simp; omega)) _)
end Go.Proofs.YtigffblelngpjaaDoor
