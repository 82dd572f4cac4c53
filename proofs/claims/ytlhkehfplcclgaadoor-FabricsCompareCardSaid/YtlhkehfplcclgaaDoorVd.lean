/- Slices of structs of k cells: append, copy, make. -/
import Derived.Test.YtlhkehfplcclgaaDoorVc
import Derived.Laws.CopyRow
namespace Go.Proofs.YtlhkehfplcclgaaDoor
set_option linter.unusedVariables false
set_option linter.unusedSimpArgs false
set_option maxRecDepth 8000
open Go Go.RowKit

/-- Each has k cells, each of one cell. -/
def Ks (k : Nat) (xs : List (List Value)) : Prop := ∀ x ∈ xs, x.length = k ∧ ∀ v ∈ x, v.oneCell' = true
theorem Ks.app {k : Nat} {xs ys : List (List Value)} (h : Ks k xs) (g : Ks k ys) : Ks k (xs ++ ys) := fun x hx => by
  rcases List.mem_append.1 hx with hx | hx
  · exact h x hx
  · exact g x hx
theorem Ks.len {k : Nat} : ∀ {xs : List (List Value)}, Ks k xs → xs.flatten.length = xs.length * k
  | [], _ => by simp
  | x :: xs, h => by
    have ih := Ks.len (k := k) (xs := xs) fun y hy => h y (by simp [hy])
    rw [List.flatten_cons, List.length_append, ih, (h x (by simp)).1, List.length_cons, Nat.add_mul]; omega
theorem Ks.one {k : Nat} {xs : List (List Value)} (h : Ks k xs) : ∀ v ∈ xs.flatten, v.oneCell' = true := fun v hv => by
  obtain ⟨x, hx, hv⟩ := List.mem_flatten.1 hv
  exact (h x hx).2 v hv
theorem Ks.get {k : Nat} : ∀ {xs : List (List Value)}, Ks k xs → ∀ i j, i < xs.length → j < k → xs.flatten[i * k + j]? = some ((xs.getD i []).getD j undef)
  | [], _, i, j, hi, _ => by simp at hi
  | x :: xs, h, 0, j, hi, hj => by
    have hx := (h x (by simp)).1
    rw [List.flatten_cons, Nat.zero_mul, Nat.zero_add, List.getElem?_append_left (by omega)]
    simp [List.getD, hx, hj]
  | x :: xs, h, i + 1, j, hi, hj => by
    have hx := (h x (by simp)).1
    have ih := Ks.get (k := k) (xs := xs) (fun y hy => h y (by simp [hy])) i j (by simp at hi; omega) hj
    rw [List.flatten_cons, List.getElem?_append_right (by rw [hx, Nat.add_mul]; omega), hx, show (i + 1) * k + j - k = i * k + j by rw [Nat.add_mul]; omega, ih]
    rfl
theorem Ks.nm (l : List Nm) : Ks 2 (l.map Nm.cs) := fun x hx => by
  obtain ⟨a, _, rfl⟩ := List.mem_map.1 hx
  exact ⟨rfl, fun v hv => by simp [Nm.cs] at hv; rcases hv with rfl | rfl <;> rfl⟩
theorem Ks.ps (l : List Ps) : Ks 4 (l.map Ps.cs) := fun x hx => by
  obtain ⟨a, _, rfl⟩ := List.mem_map.1 hx
  exact ⟨rfl, fun v hv => by simp [Ps.cs] at hv; rcases hv with rfl | rfl | rfl | rfl <;> rfl⟩
theorem Ks.xg (l : List Xg) : Ks 5 (l.map Xg.cs) := fun x hx => by
  obtain ⟨a, _, rfl⟩ := List.mem_map.1 hx
  exact ⟨rfl, fun v hv => by simp [Xg.cs] at hv; rcases hv with rfl | rfl | rfl | rfl | rfl <;> rfl⟩
/-- A block whose first cells are those of xs. -/
theorem CK.of_blk {k : Nat} {w : World} {g n c : Nat} {cur : Array Value} {t : TypeId} {xs : List (List Value)} (h : w.heap[g]? = some (.cells cur t (0, 0))) (hk : Ks k xs) (hn : n = xs.length) (hc : n ≤ c) (hc9 : c ≤ 9223372036854775807) (ht : cur.toList.take (n * k) = xs.flatten) :
    CK k w (.slice (some ⟨g, 0, none⟩) n c) c xs := by
  subst hn
  refine ⟨_, rfl, hc, hc9, .inr ⟨g, 0, rfl, fun i hi j hj => ?_⟩⟩
  have hx : (xs.getD i []).length = k := by
    have : xs.getD i [] = xs[i] := by simp [List.getD, hi]
    rw [this]; exact (hk _ (List.getElem_mem hi)).1
  rw [hx] at hj
  have h2 := hk.get i j hi hj
  rw [← ht] at h2
  have hlt : i * k + j < xs.length * k := by
    have : (i + 1) * k ≤ xs.length * k := Nat.mul_le_mul_right k (by omega)
    rw [Nat.add_mul] at this; omega
  rw [List.getElem?_take_of_lt hlt, Array.getElem?_toList] at h2
  rw [Nat.zero_add]
  simp [World.cell?, h, h2]
theorem CK.of_own {k B n : Nat} {w : World} {e : TypeId} {v : Value} {xs : List (List Value)} (h : w.ownsRow B e k v n xs.flatten) (hk : Ks k xs) (hn : n = xs.length) (hk0 : 0 < k) : ∃ c, CK k w v c xs := by
  obtain ⟨h1, ⟨rfl, h0⟩ | ⟨g, cap, cur, rfl, h2, h3, h4, h5, h6, h7⟩⟩ := h
  · obtain rfl : xs = [] := List.eq_nil_of_length_eq_zero (by omega)
    exact ⟨0, CK.nil _ _⟩
  · exact ⟨cap, CK.of_blk h3 hk hn h4 (by unfold maxLen at h5; omega) h7⟩
theorem CK.news {k : Nat} {w : World} {v : Value} {c : Nat} {xs : List (List Value)} (h : CK k w v c xs) (hk : Ks k xs) (hk0 : 0 < k) : ∃ ao, v = .slice ao xs.length c ∧ (ao = none → xs = []) ∧ ∀ ad, ao = some ad → ∀ j u, xs.flatten[j]? = some u → w.cell? (ad.add j) = some u := by
  obtain ⟨ao, h1, h2, h3, h4⟩ := h.op
  refine ⟨ao, h1, fun h0 => ?_, fun ad had j u hu => ?_⟩
  · cases xs with
    | nil => rfl
    | cons x xs => obtain ⟨b, o, e, _⟩ := h4 0 (by simp); rw [h0] at e; cases e
  · have hlt := (List.getElem?_eq_some_iff.1 hu).1
    rw [hk.len] at hlt
    have hi : j / k < xs.length := (Nat.div_lt_iff_lt_mul hk0).2 hlt
    have hj : j % k < k := Nat.mod_lt _ hk0
    obtain ⟨b, o, e, hc⟩ := h4 _ hi
    rw [had] at e
    cases e
    have hx : (xs.getD (j / k) []).length = k := by
      have : xs.getD (j / k) [] = xs[j / k] := by simp [List.getD, hi]
      rw [this]; exact (hk _ (List.getElem_mem hi)).1
    have h5 := hc (j % k) (by rw [hx]; exact hj)
    have h6 := hk.get _ _ hi hj
    rw [show j / k * k + j % k = j by rw [Nat.mul_comm]; exact Nat.div_add_mod j k, hu] at h6
    rw [← Option.some.inj h6] at h5
    rw [Addr.add_lit]
    rw [show o + j / k * k + j % k = o + j by rw [Nat.add_assoc, Nat.mul_comm (j / k) k, Nat.div_add_mod]] at h5
    exact h5
/-- What a type of k cells is. -/
structure EK (P : Program) (t e : TypeId) (z : Value) (k bytes : Nat) : Prop where
  und : P.underlying t = some (.slice e)
  info : (P.info? e).map (fun i => (i.zero, i.size, i.bytes)) = some (some z, k, bytes)
  zs : z.cells.size = k
  k0 : 0 < k
theorem copy_run {P : Program} {t e : TypeId} {z : Value} {k bytes : Nat} (ek : EK P t e z k bytes) (w : World) (ty : TypeId) (g n c : Nat) (sv : Value) (xs : List (List Value)) (hx : CK k w sv c xs) (hk : Ks k xs) (hn : n = xs.length) (cur : Array Value) (te : TypeId)
    (hg : w.heap[g]? = some (.cells cur te (0, 0))) (hcur : cur.size = n * k) :
    (Builtin.copy_ #[t, t] ty #[.slice (some ⟨g, 0, none⟩) n n, sv]).run P w = .ok (goInt n) (w.setRow g xs.flatten.toArray) := by
  obtain ⟨i, hi, hz0, hz1, hz2⟩ := info_parts ek.info
  obtain ⟨ao, rfl, hno, hnews⟩ := hx.news hk ek.k0
  subst hn
  have hst := run_storeCells_at P g 0 te xs.flatten 0 cur w hg (by rw [hk.len, hcur]; omega) hk.one
  have hrow : (cur.toList.take (0 + 0) ++ xs.flatten ++ cur.toList.drop (0 + 0 + xs.flatten.length)) = xs.flatten := by
    have : cur.toList.drop (0 + 0 + xs.flatten.length) = [] := List.drop_eq_nil_of_le (by rw [hk.len, Array.length_toList, hcur]; omega)
    rw [this]; simp
  rw [hrow] at hst
  have hf : (Builtin.firstCells k xs.length (.slice ao xs.length c)).run P w = .ok xs.flatten.toArray w := by
    cases ao with
    | none =>
      obtain rfl := hno rfl
      rfl
    | some ad => exact run_firstCells_some (P := P) w k xs.length ad xs.length c xs.flatten hk.len (hnews ad rfl)
  simp [Builtin.copy_, run_underlying ek.und, Builtin.lenOf, sizeOf, typeInfo, hi, hz1, hf, hst]
/-- append(s, x...), s the call's own. -/
theorem app_k {P : Program} {t e : TypeId} {z : Value} {k bytes : Nat} (ek : EK P t e z k bytes) {w : World} {ops : Array Oper} {rest : List Oper} {o : Oper} {a : Act} {Q : Exit → Act → World → Prop}
    (hg : o.guard = none) (s x : Operand) (hop : o.op = Op.call { callee := Callee.builtin Builtin.append, args := #[s, x], argTypes := #[t, t] })
    (B : Nat) (v : Value) (n : Nat) (xs : List (List Value)) (hs : a.eval s = v) (hown : w.ownsRow B e k v n xs.flatten)
    (y : Value) (c : Nat) (ys : List (List Value)) (hx : a.eval x = y) (hy : CK k w y c ys) (hk : Ks k ys)
    (hlen : (n + ys.length) * bytes ≤ 140737488355328) (hlen2 : n + ys.length ≤ 140737488355328) (hB : B ≤ w.heap.size)
    (hK : ∀ v' w', w'.ownsRow B e k v' (n + ys.length) (xs ++ ys).flatten → w.grownBy w' v.ownBlock → wpList P ops Q rest (a.put o.dst v') w') :
    wpList P ops Q (o :: rest) a w := by
  obtain ⟨i, hi, hz0, hz1, hz2⟩ := info_parts ek.info
  obtain ⟨ao, rfl, hno, hc⟩ := hy.news hk ek.k0
  cases ao with
  | none =>
    obtain rfl := hno rfl
    have hc0 : c = 0 := by
      obtain ⟨ao, e1, _, _, e2⟩ := hy
      cases e1
      rcases e2 with e2 | ⟨_, _, e2, _⟩
      · exact e2
      · cases e2
    subst hc0
    exact wpList_append_own_none hg s x t hop B e i k ek.und hi v n xs.flatten hs hown hx (hK v w (by simpa using hown) (World.grownBy.refl _ _))
  | some ad =>
    refine wpList_append_own w hg s x t hop B e i z k bytes ek.und hi hz0 hz1 hz2 ek.zs ek.k0 v n xs.flatten hs hown ad ys.length c ys.flatten hx hk.len (hc ad rfl) hk.one (by unfold maxLen; omega) hlen hB ?_
    intro v' w' h2 h3 _
    exact hK v' w' (by rw [List.flatten_append]; exact h2) h3
theorem own_none (w : World) (B : Nat) (e : TypeId) (k : Nat) : w.ownsRow B e k (.slice none 0 0) 0 ([] : List (List Value)).flatten := ⟨by simp, .inl ⟨rfl, rfl⟩⟩
theorem setRow_grown (w : World) (g : Nat) (cs : Array Value) : w.grownBy (w.setRow g cs) (some g) := ⟨rfl, rfl, rfl, by simp [World.setRow], fun k _ hk => setRow_other w g k cs (fun e => hk (by rw [e]))⟩
theorem wpList_copy_k {P : Program} {t e : TypeId} {z : Value} {k bytes : Nat} (ek : EK P t e z k bytes) {w : World} {ops : Array Oper} {rest : List Oper} {o : Oper} {a : Act} {Q : Exit → Act → World → Prop} (hgd : o.guard = none) (d s : Operand)
    (ho : o.op = .call { callee := .builtin .copy, args := #[d, s], argTypes := #[t, t] }) (g n : Nat) (hd : a.eval d = .slice (some ⟨g, 0, none⟩) n n) (sv : Value) (c : Nat) (xs : List (List Value)) (hs : a.eval s = sv) (hx : CK k w sv c xs) (hk : Ks k xs) (hn : n = xs.length)
    (cur : Array Value) (te : TypeId) (hg : w.heap[g]? = some (.cells cur te (0, 0))) (hcur : cur.size = n * k)
    (h : ∀ w', w'.heap[g]? = some (.cells xs.flatten.toArray te (0, 0)) → w.grownBy w' (some g) → wpList P ops Q rest (a.put o.dst (.int .i64 n)) w') : wpList P ops Q (o :: rest) a w := by
  refine wpList_plain hgd fun K hK => ?_
  have hrun := copy_run ek w o.type g n c sv xs hx hk hn cur te hg hcur
  unfold Oper.wp
  simp [execOp, ho, resolve, invoke, builtin, hd, hs, hrun, Result.andThen]
  exact hK _ _ (h _ (setRow_heap w g cur _ te _ hg) (setRow_grown _ _ _))
theorem make_k {P : Program} {t e : TypeId} {z : Value} {k bytes : Nat} (ek : EK P t e z k bytes) (hb : bytes ≤ 1000) (n : Nat) (hn : n ≤ 1000000) (kl kc : IntKind) (w : World) :
    (Instr.makeSlice t (.int kl (n : Int)) (.int kc (n : Int))).run P w = .ok (.slice (some ⟨w.heap.size, 0, none⟩) n n) (w.alloc (.cells (madeCells z.cells (n * k)) e)) := by
  obtain ⟨i, hi, hz0, hz1, hz2⟩ := info_parts ek.info
  have h2 : bytes * n ≤ 1000 * 1000000 := Nat.mul_le_mul hb hn
  have h3 : ((bytes * n : Nat) : Int) = (bytes : Int) * (n : Int) := Int.natCast_mul _ _
  have hr := run_make (P := P) w t e i z ek.und hi hz0 kl kc n n (by omega) (Int.le_refl _) (by rw [hz2]; omega) (by omega)
  simp only [Int.toNat_natCast, hz1] at hr
  exact hr
theorem ekN : EK Tryd.prog 33 41 (.agg #[.int .u8 0, .int .i64 0]) 2 16 := ⟨Tryd.underlying33, by kernel_rfl, rfl, by decide⟩
theorem ekP : EK Tryd.prog 44 50 (.agg #[.int .u8 0, .int .i64 0, .bool false, .int .u8 0]) 4 24 := ⟨Tryd.underlying44, by kernel_rfl, rfl, by decide⟩
theorem ekX : EK Tryd.prog 32 52 (.agg #[.int .u8 0, .int .i64 0, .int .u8 0, .int .i64 0, .int .i64 0]) 5 40 := ⟨Tryd.underlying32, by kernel_rfl, rfl, by decide⟩
theorem ekL : EK Tryd.prog 47 46 (.agg #[.int .u8 0, .bool false, .slice none 0 0, .slice none 0 0]) 4 56 := ⟨Tryd.underlying47, by kernel_rfl, rfl, by decide⟩
/-- A copy: a fresh block of the same cells. -/
def RetK (w0 : World) (e : TypeId) (xs : List (List Value)) (en : Ending) (w' : World) : Prop :=
  ∃ g n, n = xs.length ∧ en = .returned (.slice (some ⟨g, 0, none⟩) n n) ∧ w0.heap.size ≤ g ∧ w'.heap[g]? = some (.cells xs.flatten.toArray e (0, 0)) ∧ Ext w0 w'
end Go.Proofs.YtlhkehfplcclgaaDoor
