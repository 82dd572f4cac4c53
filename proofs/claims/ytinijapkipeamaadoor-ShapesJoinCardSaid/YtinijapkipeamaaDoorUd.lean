/- The law ShapesJoin, walked. -/
import Derived.Test.YtinijapkipeamaaDoorTs
import Derived.Test.YtinijapkipeamaaDoorTp
namespace Go.Proofs.YtinijapkipeamaaDoor
set_option linter.unusedVariables false
set_option linter.unusedSimpArgs false
set_option maxRecDepth 8000
open Go Go.RowKit

def anyE (rows : List (List Int)) (k : Nat) : Bool := (List.range k).any (fun i => decide ((ri rows i).length = 0))
theorem anyE_succ (rows : List (List Int)) (k : Nat) : anyE rows (k + 1) = (anyE rows k || decide ((ri rows k).length = 0)) := by unfold anyE; rw [List.range_succ]; simp
theorem anyE_false {rows : List (List Int)} {k : Nat} (h : anyE rows k = false) : ∀ i, i < k → 0 < (ri rows i).length := fun i hi => by
  unfold anyE at h
  rw [List.any_eq_false] at h
  have := h i (List.mem_range.2 hi)
  simp at this; exact List.length_pos_iff.2 this
theorem anyE_true {rows : List (List Int)} {k : Nat} (h : anyE rows k = true) : ∃ i, i < k ∧ (ri rows i).length = 0 := by
  unfold anyE at h
  obtain ⟨i, hi, hb⟩ := List.any_eq_true.1 h
  exact ⟨i, List.mem_range.1 hi, by simpa using hb⟩
/-- Some of the first k lists does not begin where the one before ends. -/
def anyM (rows : List (List Int)) (k : Nat) : Bool := (List.range (k - 1)).any (mism rows)
theorem anyM_succ (rows : List (List Int)) {k : Nat} (h : 0 < k) : anyM rows (k + 1) = (anyM rows k || mism rows (k - 1)) := by
  obtain ⟨j, rfl⟩ : ∃ j, k = j + 1 := ⟨k - 1, by omega⟩
  unfold anyM
  rw [Nat.add_sub_cancel, Nat.add_sub_cancel, List.range_succ]
  simp
def al (rows : List (List Int)) : Nat → List Int
  | 0 => []
  | k + 1 => (if k = 0 then [gi (ri rows 0) 0] else al rows k) ++ (ri rows k).drop 1
theorem al_eq {rows : List (List Int)} (h : 0 < (ri rows 0).length) : ∀ k, k < rows.length → al rows (k + 1) = (ri rows 0).take 1 ++ (tails (rows.take (k + 1))).flatten
  | 0, hk => by
    have e : [gi (ri rows 0) 0] = (ri rows 0).take 1 := by
      rw [take_succ_gi (k := 0) h]; simp
    rw [al, if_pos rfl, e, take_succ_ri hk]
    simp [tails]
  | k + 1, hk => by
    rw [al, if_neg (by omega), al_eq h k (by omega), take_succ_ri hk]
    simp [tails]
theorem al_all {rows : List (List Int)} (h0 : 0 < rows.length) (h : 0 < (ri rows 0).length) : al rows rows.length = jlist rows := by
  obtain ⟨k, hk⟩ : ∃ k, rows.length = k + 1 := ⟨rows.length - 1, by omega⟩
  rw [hk, al_eq h k (by omega), ← hk, List.take_length]
  rfl
theorem al_len {rows : List (List Int)} (h : ∀ i, i < rows.length → (ri rows i).length ≤ 20) : ∀ k, k ≤ rows.length → (al rows k).length ≤ 21 * k
  | 0, _ => by simp [al]
  | k + 1, hk => by
    have := al_len h k (by omega)
    have := h k (by omega)
    rw [al]
    split
    · simp; omega
    · simp; omega

def ifE (b : Bool) : Int := if b then 1 else 0
def ifM (b : Bool) : Int := if b then 14 else 0
set_option maxHeartbeats 4000000 in
theorem ShapesJoin_walk (v : Value) (c : Nat) (rows : List (List Int)) (w : World) (h : ISS .i64 w v c rows) (hy : Sy w) :
    Calls Tryd.prog 7 #[v] w fun e w' => e = .returned (.bool true) ∧ Ext w w' := by
  have hJ := fun (hb : ∀ i, i < rows.length → (ri rows i).length ≤ 1000) (hl : rows.length ≤ 50) w' (x : Ext w w') => Join_calls v c rows w' (h.ext x) hb hl
  obtain ⟨ao, n, rfl, hn, hc, hcm, hat⟩ := h.open2
  have HJ := Lib.hid hJ; have HR := Lib.hid hat; have Hn := Lib.hid hn
  have HL := Lib.hid (fun w' (x : Ext w w') => lives_calls w' (hy.ext x))
  clear hJ hat hn h hy
  unfold maxLen at hcm
  by_cases hbig : 6 < n
  · have t1 : (6 : Int) < n := by omega
    go_enter Tryd.func7, Tryd.ntmps7
    go_wp2
    go_ret
    exact ⟨rfl, Ext.refl w⟩
  have t1 : ¬ (6 : Int) < n := by omega
  go_enter Tryd.func7, Tryd.ntmps7
  go_wp2
  go_loopw [3, 5] (fun s i wr => ∃ k : Nat, k ≤ n ∧ i = .int .i64 k ∧ s = .int .i64 (ifE (anyE rows k)) ∧ Hid (Ext w wr) ∧ Hid (∀ i, i < k → (ri rows i).length ≤ 20)) (fun _ i _ => n - (intOf i).toNat)
  case atStart => exact ⟨0, Nat.zero_le _, rfl, rfl, Lib.hid (Ext.refl w), Lib.hid (fun i hi => by omega)⟩
  case round =>
    obtain ⟨k, hk, rfl, rfl, HX, HP⟩ := hrel
    by_cases hlt : k < n
    · obtain ⟨b, o, a, p, d, rfl, hc0, hp, hi⟩ := HR.out k hlt
      replace hc0 := HX.out.cell hc0
      by_cases h20 : 20 < p
      · have t2 : (20 : Int) < p := by omega
        clear hp hi
        go_wp2
        go_ret
        exact ⟨rfl, HX.out⟩
      · have t2 : ¬ (20 : Int) < p := by omega
        have HP2 := Lib.hid (show ∀ i, i < k + 1 → (ri rows i).length ≤ 20 from fun i hi => by
          by_cases e : i = k
          · subst e; omega
          · exact HP.out i (by omega))
        have hsc := anyE_succ rows k
        rw [← hp] at hsc
        generalize anyE rows k = E at *
        by_cases hz : p = 0
        · have hz' : ((p : Int) == 0) = true := by rw [beq_iff_eq]; omega
          have hE : anyE rows (k + 1) = true := by rw [hsc, decide_eq_true hz]; simp
          have HE := Lib.hid hE
          clear hp hi hsc hE
          subst hz
          go_wp2
          go_roundw
          case rel => exact ⟨k + 1, by omega, by go_num, by rw [HE.out]; rfl, HX, HP2⟩
          case measure => simp [intOf]; omega
        · have hz' : ((p : Int) == 0) = false := by rw [beq_eq_false_iff_ne]; omega
          have hE : anyE rows (k + 1) = E := by rw [hsc, decide_eq_false hz]; simp
          have HE := Lib.hid hE
          clear hp hi hsc hE
          go_wp2
          go_roundw
          case rel => exact ⟨k + 1, by omega, by go_num, by rw [HE.out], HX, HP2⟩
          case measure => simp [intOf]; omega
    · obtain rfl : n = k := by omega
      clear hlt
      have hJ := HJ.out (fun i hi => by have := HP.out i (by rw [Hn.out]; exact hi); omega) (by rw [← Hn.out]; omega)
      by_cases hemp : n = 0 ∨ anyE rows n = true
      · have he : jerr rows = 1 := by
          rcases hemp with h | h
          · exact jerr_empty (.inl (by rw [← Hn.out]; exact h))
          · obtain ⟨i, hi, h2⟩ := anyE_true h
            exact jerr_empty (.inr ⟨i, by rw [← Hn.out]; exact hi, h2⟩)
        have hr : jres rows = [] := by unfold jres; rw [if_neg (by omega)]
        rw [he, hr] at hJ
        have HJ2 := Lib.hid hJ
        clear hJ HJ he hr
        by_cases hn0 : n = 0
        · clear hemp
          have hie : ifE (anyE rows n) = 0 := by rw [hn0]; rfl
          rw [hie]
          subst hn0
          go_wp2
          go_loopw [3, 4, 6] (fun s l i wr => s = .int .i64 1 ∧ i = .int .i64 0 ∧ Hid (Ext w wr)) (fun _ _ _ _ => 0)
          case atStart => exact ⟨rfl, rfl, HX⟩
          case round =>
            obtain ⟨rfl, rfl, HX2⟩ := hrel
            go_wp2_with fail
            refine (HJ2.out _ HX2.out).mono ?_
            rintro e w2 ⟨v2, rfl, i2, x2⟩
            obtain ⟨a2, n2, c2, rfl, rfl, rfl, q2⟩ := i2.out
            have X2 := Lib.hid (HX2.out.trans x2)
            clear i2 x2 q2 HJ2
            go_wp2_with fail
            refine (HL.out _ X2.out).mono ?_
            rintro e w3 ⟨rfl, x3⟩
            have X3 := Lib.hid (X2.out.trans x3)
            clear x3 HL
            go_wp2
            go_ret
            exact ⟨rfl, X3.out⟩
        · have hnz : ((n : Int) == 0) = false := beq_eq_false_iff_ne.2 (by omega)
          have hie : ifE (anyE rows n) = 1 := by rcases hemp with h | h; exact absurd h hn0; rw [h]; rfl
          clear hemp
          rw [hie]
          go_wp2
          go_loopw [3, 4, 6] (fun s l i wr => s = .int .i64 1 ∧ i = .int .i64 0 ∧ Hid (Ext w wr)) (fun _ _ _ _ => 0)
          case atStart => exact ⟨rfl, rfl, HX⟩
          case round =>
            obtain ⟨rfl, rfl, HX2⟩ := hrel
            go_wp2_with fail
            refine (HJ2.out _ HX2.out).mono ?_
            rintro e w2 ⟨v2, rfl, i2, x2⟩
            obtain ⟨a2, n2, c2, rfl, rfl, rfl, q2⟩ := i2.out
            have X2 := Lib.hid (HX2.out.trans x2)
            clear i2 x2 q2 HJ2
            go_wp2_with fail
            refine (HL.out _ X2.out).mono ?_
            rintro e w3 ⟨rfl, x3⟩
            have X3 := Lib.hid (X2.out.trans x3)
            clear x3 HL
            go_wp2
            go_ret
            exact ⟨rfl, X3.out⟩
      · have hn0 : 0 < n := by omega
        have hE : anyE rows n = false := by cases h : anyE rows n; rfl; exact absurd (.inr h) hemp
        have hie : ifE (anyE rows n) = 0 := by rw [hE]; rfl
        have hpos := anyE_false hE
        have hfull := jerr_full (rows := rows) (by rw [← Hn.out]; exact hn0) (fun i hi => hpos i (by rw [Hn.out]; exact hi))
        have hall : al rows n = jlist rows := by rw [Hn.out]; exact al_all (by rw [← Hn.out]; exact hn0) (hpos 0 hn0)
        have hall2 : ∀ k, k ≤ n → (al rows k).length ≤ 21 * k := fun k hk => al_len (fun i hi => HP.out i (by rw [Hn.out]; exact hi)) k (by rw [← Hn.out]; exact hk)
        have hje : jerr rows = if anyM rows n then 14 else if 32 < (jlist rows).length then 3 else 0 := by rw [hfull]; unfold anyM; rw [← Hn.out]
        have hnz : ((n : Int) == 0) = false := beq_eq_false_iff_ne.2 (by omega)
        have HPos := Lib.hid hpos; have HAll := Lib.hid hall; have HAl := Lib.hid hall2; have HJe := Lib.hid hje; have HJ2 := Lib.hid hJ
        rw [hie]
        clear hemp hE hie hpos hfull hall hall2 hje hJ HJ
        go_wp2
        go_loopw [3, 4, 6] (fun s l i wr => ∃ k : Nat, k ≤ n ∧ s = .int .i64 (ifM (anyM rows k)) ∧ i = .int .i64 k ∧ Hid (wr.ownsRow w.heap.size 3 1 l (al rows k).length ((al rows k).map (Value.int .i64)) ∧ Ext w wr)) (fun _ _ i _ => n - (intOf i).toNat)
        case atStart => exact ⟨0, by omega, rfl, rfl, Lib.hid ⟨World.ownsRow_nil _ _ _ _, HX.out⟩⟩
        case round =>
          obtain ⟨k, hk, rfl, rfl, H⟩ := hrel
          by_cases hlt : k < n
          · skip
            obtain ⟨b, o, a, p, d, rfl, hc0, hp, hi⟩ := HR.out k hlt
            have hq := HPos.out k hlt
            have h20 := HP.out k hlt
            rw [← hp] at hq h20
            obtain ⟨g1, g2, g3⟩ := hi.len
            rw [← hp] at g3
            obtain ⟨b5, o5, rfl, hfrom⟩ : ∃ b5 o5, a = some ⟨b5, o5, none⟩ ∧ IS .i64 w (.slice (if d = 1 then some ⟨b5, o5, none⟩ else some ⟨b5, o5 + 1, none⟩) (p - 1) (d - 1)) (d - 1) ((ri rows k).drop 1) := by
              rcases hi.from 1 hq with ⟨b5, o5, h1, h2⟩ | ⟨h1, h2, _⟩
              · exact ⟨b5, o5, h1, h2⟩
              · omega
            obtain ⟨b9, o9, h9, hd0⟩ := hi.at hq
            obtain ⟨rfl, rfl⟩ : b5 = b9 ∧ o5 = o9 := by simpa using h9
            have e0 := H.out.2.cell (hd0 0 hq)
            rw [Nat.add_zero] at e0
            have e00 := hd0 0 hq
            rw [Nat.add_zero] at e00
            have hcw : ∀ w', Ext w w' → w'.cell? ⟨b, o + k, none⟩ = some (.slice (some ⟨b5, o5, none⟩) p d) := fun w' x => x.cell hc0
            replace hc0 := H.out.2.cell hc0
            have u1 : (1 : Int) ≤ p := by omega
            have u2 : (1 : Int) ≤ d := by omega
            have u3 : 1 ≤ p := hq
            have u4 : 1 ≤ d := by omega
            have u5 : (0 : Int) < p := by omega
            have u6 : (k : Int) < n := by omega
            obtain ⟨D, hD⟩ : ∃ D, D = (ri rows k).drop 1 := ⟨_, rfl⟩
            have hDl : D.length ≤ 20 := by rw [hD, List.length_drop]; omega
            rw [← hD] at hfrom
            have HFr := Lib.hid hfrom; have Hp := Lib.hid hp; have HCw := Lib.hid hcw; have HD := Lib.hid hD
            clear hfrom hp hi g1 g2 g3 hd0 h9 hcw hD
            by_cases hk0 : k = 0
            · have hie : ifM (anyM rows k) = 0 := by rw [hk0]; rfl
              have hie2 : ifM (anyM rows (k + 1)) = 0 := by rw [hk0]; rfl
              have hal : al rows (k + 1) = [gi (ri rows 0) 0] ++ (ri rows k).drop 1 := by rw [al, if_pos hk0]
              have hal0 : al rows k = [] := by rw [hk0]; rfl
              obtain ⟨A, hA⟩ : ∃ A, A = gi (ri rows 0) 0 := ⟨_, rfl⟩
              obtain ⟨X, hX⟩ : ∃ X : List Int, X = [A] := ⟨_, rfl⟩
              obtain ⟨q1, hq1⟩ : ∃ q1 : Nat, q1 = 1 := ⟨_, rfl⟩
              have HSt := Lib.hid (show ∀ w1 l' w2, w2.ownsRow w.heap.size 3 1 l' (q1 + D.length) (X.map (Value.int .i64) ++ D.map (Value.int .i64)) → Below w.heap.size w1 w2 → Ext w w1 → (w2.ownsRow w.heap.size 3 1 l' (al rows (k + 1)).length ((al rows (k + 1)).map (Value.int .i64)) ∧ Ext w w2) from fun w1 l' w2 ho hb hx => by
                rw [hal, ← HD.out, List.length_append, List.map_append, ← hA, ← hX, show X.length = q1 by rw [hX, hq1]; rfl]; exact ⟨ho, Below.trans hx hb⟩)
              have HAl2 := Lib.hid (show q1 ≤ 100 by omega)
              have HXA := Lib.hid hX; have HQ1 := Lib.hid hq1
              have hown0 := H.out.1
              rw [hal0] at hown0
              have HOw := Lib.hid hown0
              have HX2 := Lib.hid H.out.2
              have HHie := Lib.hid hie2
              rw [hie]
              subst hk0
              rw [Nat.add_zero] at hc0
              rw [← hA] at e0 e00
              clear hie hie2 hal hal0 hown0 H hA hX hq1
              have hsz := HX2.out.size
              go_wp2
              go_quiet (fail)
              go_wp2_with (at_builtin; refine app_own eiInt rfl _ _ rfl w.heap.size _ 0 [] rfl (World.ownsRow.alloc (by exact HOw.out) _) _ _ _ rfl (VS.one _ _ _) (one1 _) ?e111 ?e112 ?e113 ?_)
              any_goals (first | omega | (simp; done) | (simp only [List.length_cons, List.length_nil]; omega) | (simp; omega))
              intro v1 w1 hown1 hbel1
              have HX1 := Lib.hid (show Ext w w1 from Below.trans ((HX2.out.drewN _).alloc _) hbel1)
              have HO1 := Lib.hid (show w1.ownsRow w.heap.size 3 1 v1 q1 (X.map (Value.int .i64)) from by rw [HXA.out, HQ1.out]; exact hown1)
              have hc1 := HCw.out _ HX1.out
              rw [Nat.add_zero] at hc1
              clear hown1 hbel1 hc0 e0 HOw hsz
              by_cases hd1 : d = 1
              · subst hd1
                rw [if_pos rfl] at HFr
                go_wp2_with (at_builtin; go_loud (refine app_own eiInt rfl _ _ rfl w.heap.size _ q1 ((X).map (Value.int .i64)) rfl HO1.out _ _ _ rfl (HFr.out.ext HX1.out) (onesI _) ?e121 ?e122 ?e123 ?_))
                case e121 => rw [List.length_map]; have := HAl2.out; omega
                case e122 => rw [List.length_map]; have := HAl2.out; omega
                case e123 => exact HX1.out.size
                intro v' w' hown hbel
                have HO := Lib.hid (HSt.out _ _ _ hown hbel HX1.out)
                clear hown hbel
                go_wp2
                go_roundw
                case rel => exact ⟨0 + 1, by omega, by rw [HHie.out], by go_num, HO⟩
                case measure => simp [intOf]; omega
              · rw [if_neg hd1] at HFr
                go_wp2_with (at_builtin; go_loud (refine app_own eiInt rfl _ _ rfl w.heap.size _ q1 ((X).map (Value.int .i64)) rfl HO1.out _ _ _ rfl (HFr.out.ext HX1.out) (onesI _) ?e131 ?e132 ?e133 ?_))
                case e131 => rw [List.length_map]; have := HAl2.out; omega
                case e132 => rw [List.length_map]; have := HAl2.out; omega
                case e133 => exact HX1.out.size
                intro v' w' hown hbel
                have HO := Lib.hid (HSt.out _ _ _ hown hbel HX1.out)
                clear hown hbel
                go_wp2
                go_roundw
                case rel => exact ⟨0 + 1, by omega, by rw [HHie.out], by go_num, HO⟩
                case measure => simp [intOf]; omega
            · skip
              obtain ⟨j, rfl⟩ : ∃ j, k = j + 1 := ⟨k - 1, by omega⟩
              obtain ⟨b', o', a', p', d', hbo, hc1, hp', hi'⟩ := HR.out j (by omega)
              obtain ⟨rfl, rfl⟩ : b = b' ∧ o = o' := by simpa using hbo
              replace hc1 := H.out.2.cell hc1
              have hq' := HPos.out j (by omega)
              have hpb' := HP.out j (by omega)
              rw [← hp'] at hq' hpb'
              obtain ⟨b3, o3, rfl, hd1⟩ := hi'.at hq'
              have e1 := H.out.2.cell (hd1 (p' - 1) (by omega))
              have hms := anyM_succ rows (k := j + 1) (by omega)
              rw [Nat.add_sub_cancel] at hms
              have hmm : mism rows j = decide (gi (ri rows (j + 1)) 0 ≠ gi (ri rows j) (p' - 1)) := by unfold mism; rw [hp']
              obtain ⟨A, hA⟩ : ∃ A, A = gi (ri rows (j + 1)) 0 := ⟨_, rfl⟩
              obtain ⟨Z, hZ⟩ : ∃ Z, Z = gi (ri rows j) (p' - 1) := ⟨_, rfl⟩
              rw [← hA] at e0 e00 hmm; rw [← hZ] at e1 hmm
              have hal : al rows (j + 1 + 1) = al rows (j + 1) ++ (ri rows (j + 1)).drop 1 := by rw [al, if_neg (by omega)]
              have hll := HAl.out (j + 1) (by omega)
              obtain ⟨X, hX⟩ : ∃ X, X = al rows (j + 1) := ⟨_, rfl⟩
              obtain ⟨q1, hq1⟩ : ∃ q1 : Nat, q1 = X.length := ⟨_, rfl⟩
              have HSt := Lib.hid (show ∀ w1 l' w2, w2.ownsRow w.heap.size 3 1 l' (q1 + D.length) (X.map (Value.int .i64) ++ D.map (Value.int .i64)) → Below w.heap.size w1 w2 → Ext w w1 → (w2.ownsRow w.heap.size 3 1 l' (al rows (j + 1 + 1)).length ((al rows (j + 1 + 1)).map (Value.int .i64)) ∧ Ext w w2) from fun w1 l' w2 ho hb hx => by
                rw [hal, ← HD.out, List.length_append, List.map_append, ← hX, ← hq1]; exact ⟨ho, Below.trans hx hb⟩)
              have HAl2 := Lib.hid (show q1 ≤ 200 by rw [hq1, hX]; omega)
              have HO1 := Lib.hid (show wr.ownsRow w.heap.size 3 1 _ q1 (X.map (Value.int .i64)) from by rw [hq1, hX]; exact H.out.1)
              have HX1 := Lib.hid H.out.2
              have HMm := Lib.hid hmm; have HMs := Lib.hid hms
              obtain ⟨E, hE⟩ : ∃ E, E = ifM (anyM rows (j + 1)) := ⟨_, rfl⟩
              rw [← hE]
              have t0 : (E != 1) = true := by rw [hE]; unfold ifM; split <;> rfl
              have HE := Lib.hid hE
              have t1' : (0 : Int) ≤ (j : Int) + 1 := by omega
              have t2 : ((j : Int) + 1).toNat = j + 1 := by omega
              have t3 : (j : Int) + 1 < n := by omega
              have t4 : IntKind.i64.wrap ((j : Int) + 1 - 1) = (j : Int) := by rw [show (j : Int) + 1 - 1 = j by omega]; exact IntWalk.i64_in _ ⟨by omega, by omega⟩
              have t5 : (j : Int) < n := by omega
              have t6 : (0 : Int) ≤ (j : Int) := by omega
              have t7 : IntKind.i64.wrap ((p' : Int) - 1) = (p' : Int) - 1 := IntWalk.i64_in _ ⟨by omega, by omega⟩
              have t8 : (0 : Int) ≤ (p' : Int) - 1 := by omega
              have t9 : ((p' : Int) - 1).toNat = p' - 1 := by omega
              have ta : (p' : Int) - 1 < p' := by omega
              have tb : (1 : Int) ≤ p' := by omega
              have td : IntKind.i64.wrap (j : Int) = (j : Int) := IntWalk.i64_in _ ⟨by omega, by omega⟩
              have te : (0 : Int) < (j : Int) + 1 := by omega
              have tf : (((j : Int) + 1) == 0) = false := beq_eq_false_iff_ne.2 (by omega)
              clear hp' hi' hd1 hA hZ hmm hms hbo hal hll hX hq1 hE H
              go_wp2
              go_quiet (fail)
              have HO1 := Lib.hid (own_ext HO1.out (show Ext wr (wr.drewN nq) from (Ext.refl wr).drewN nq))
              have HX1 := Lib.hid (HX1.out.drewN nq)
              clear e0 e1 e00 hc1
              by_cases hAZ : A = Z
              · have tq : (A != Z) = false := by rw [hAZ]; simp
                have HQ := Lib.hid (show ifM (anyM rows (j + 1 + 1)) = E by rw [HMs.out, HMm.out, hAZ, HE.out]; simp)
                clear hAZ
                by_cases hd1 : d = 1
                · subst hd1
                  rw [if_pos rfl] at HFr
                  go_wp2_with (at_builtin; go_loud (refine app_own eiInt rfl _ _ rfl w.heap.size _ q1 ((X).map (Value.int .i64)) rfl HO1.out _ _ _ rfl (HFr.out.ext HX1.out) (onesI _) ?e141 ?e142 ?e143 ?_))
                  case e141 => rw [List.length_map]; have := HAl2.out; omega
                  case e142 => rw [List.length_map]; have := HAl2.out; omega
                  case e143 => exact HX1.out.size
                  intro v' w' hown hbel
                  have HO := Lib.hid (HSt.out _ _ _ hown hbel HX1.out)
                  clear hown hbel
                  go_wp2
                  go_roundw
                  case rel => exact ⟨(j + 1) + 1, by omega, by rw [HQ.out], by go_num, HO⟩
                  case measure => simp [intOf]; omega
                · rw [if_neg hd1] at HFr
                  go_wp2_with (at_builtin; go_loud (refine app_own eiInt rfl _ _ rfl w.heap.size _ q1 ((X).map (Value.int .i64)) rfl HO1.out _ _ _ rfl (HFr.out.ext HX1.out) (onesI _) ?e151 ?e152 ?e153 ?_))
                  case e151 => rw [List.length_map]; have := HAl2.out; omega
                  case e152 => rw [List.length_map]; have := HAl2.out; omega
                  case e153 => exact HX1.out.size
                  intro v' w' hown hbel
                  have HO := Lib.hid (HSt.out _ _ _ hown hbel HX1.out)
                  clear hown hbel
                  go_wp2
                  go_roundw
                  case rel => exact ⟨(j + 1) + 1, by omega, by rw [HQ.out], by go_num, HO⟩
                  case measure => simp [intOf]; omega
              · have tq : (A != Z) = true := by rw [bne, beq_eq_false_iff_ne.2 hAZ]; rfl
                have HQ := Lib.hid (show ifM (anyM rows (j + 1 + 1)) = 14 by rw [HMs.out, HMm.out, decide_eq_true hAZ]; simp [ifM])
                clear hAZ
                by_cases hd1 : d = 1
                · subst hd1
                  rw [if_pos rfl] at HFr
                  go_wp2_with (at_builtin; go_loud (refine app_own eiInt rfl _ _ rfl w.heap.size _ q1 ((X).map (Value.int .i64)) rfl HO1.out _ _ _ rfl (HFr.out.ext HX1.out) (onesI _) ?e161 ?e162 ?e163 ?_))
                  case e161 => rw [List.length_map]; have := HAl2.out; omega
                  case e162 => rw [List.length_map]; have := HAl2.out; omega
                  case e163 => exact HX1.out.size
                  intro v' w' hown hbel
                  have HO := Lib.hid (HSt.out _ _ _ hown hbel HX1.out)
                  clear hown hbel
                  go_wp2
                  go_roundw
                  case rel => exact ⟨(j + 1) + 1, by omega, by rw [HQ.out], by go_num, HO⟩
                  case measure => simp [intOf]; omega
                · rw [if_neg hd1] at HFr
                  go_wp2_with (at_builtin; go_loud (refine app_own eiInt rfl _ _ rfl w.heap.size _ q1 ((X).map (Value.int .i64)) rfl HO1.out _ _ _ rfl (HFr.out.ext HX1.out) (onesI _) ?e171 ?e172 ?e173 ?_))
                  case e171 => rw [List.length_map]; have := HAl2.out; omega
                  case e172 => rw [List.length_map]; have := HAl2.out; omega
                  case e173 => exact HX1.out.size
                  intro v' w' hown hbel
                  have HO := Lib.hid (HSt.out _ _ _ hown hbel HX1.out)
                  clear hown hbel
                  go_wp2
                  go_roundw
                  case rel => exact ⟨(j + 1) + 1, by omega, by rw [HQ.out], by go_num, HO⟩
                  case measure => simp [intOf]; omega
          · skip
            obtain rfl : n = k := by omega
            obtain ⟨cA, hI⟩ := IS.of_own (k := .i64) H.out.1
            obtain ⟨aA, nA, cA', rfl, hnA, rfl, hI2⟩ := hI.out
            have HX2 := Lib.hid H.out.2
            have hje := HJe.out
            have hJ := HJ2.out
            have hnl : nA = (jlist rows).length := by rw [hnA, HAll.out]
            have tl : ¬ ((n : Int) < n) := by omega
            have hI3 := hI2
            rw [HAll.out] at hI3
            have HI3 := Lib.hid hI3
            clear hI hI2 hI3 hnA H hlt
            cases hM : anyM rows n
            · rw [hM] at hje
              simp only [Bool.false_eq_true, if_false] at hje
              have hie : ifM false = 0 := rfl
              rw [hie]
              by_cases h32 : 32 < nA
              · have t32 : (32 : Int) < nA := by omega
                rw [← hnl, if_pos h32] at hje
                have hr : jres rows = [] := by unfold jres; rw [if_neg (by omega)]
                rw [hje, hr] at hJ
                replace HJ2 := Lib.hid hJ
                clear hJ hje hr hnl h32
                go_wp2_with fail
                refine (HJ2.out _ HX2.out).mono ?_
                rintro e w2 ⟨v2, rfl, i2, x2⟩
                obtain ⟨a2, n2, c2, rfl, rfl, rfl, q2⟩ := i2.out
                have X2 := Lib.hid (HX2.out.trans x2)
                clear i2 x2 q2 HJ2
                go_wp2_with fail
                refine (HL.out _ X2.out).mono ?_
                rintro e w3 ⟨rfl, x3⟩
                have X3 := Lib.hid (X2.out.trans x3)
                clear x3 HL
                go_wp2
                go_ret
                exact ⟨rfl, X3.out⟩
              · have t32 : ¬ (32 : Int) < nA := by omega
                rw [← hnl, if_neg h32] at hje
                have hr : jres rows = jlist rows := by unfold jres; rw [if_pos hje]
                rw [hje, hr] at hJ
                replace HJ2 := Lib.hid hJ
                have Hnl := Lib.hid hnl
                clear hJ hje hr h32 hnl
                go_wp2_with fail
                refine (HJ2.out _ HX2.out).mono ?_
                rintro e w2 ⟨v2, rfl, i2, x2⟩
                have q := same_calls v2 _ _ _ _ _ w2 i2 (HI3.out.ext x2)
                rw [show sm (jlist rows) (jlist rows) = 0 from if_pos rfl] at q
                obtain ⟨a2, n2, c2, rfl, hn2, hc2, q2⟩ := i2.out
                rw [← Hnl.out] at hn2 hc2
                subst hn2; subst hc2
                have X2 := Lib.hid (HX2.out.trans x2); have Q := Lib.hid q
                clear i2 x2 q2 HJ2 q
                go_wp2_with fail
                refine Q.out.mono ?_
                rintro e w3 ⟨rfl, x3⟩
                have X3 := Lib.hid (X2.out.trans x3)
                clear x3 Q
                go_wp2_with fail
                refine (HL.out _ X3.out).mono ?_
                rintro e w4 ⟨rfl, x4⟩
                have X4 := Lib.hid (X3.out.trans x4)
                clear x4 HL
                go_wp2
                go_ret
                exact ⟨rfl, X4.out⟩
            · rw [hM] at hje
              simp only [if_true] at hje
              have hie : ifM true = 14 := rfl
              rw [hie]
              have hr : jres rows = [] := by unfold jres; rw [if_neg (by omega)]
              rw [hje, hr] at hJ
              replace HJ2 := Lib.hid hJ
              clear hJ hje hr hnl
              go_wp2_with fail
              refine (HJ2.out _ HX2.out).mono ?_
              rintro e w2 ⟨v2, rfl, i2, x2⟩
              obtain ⟨a2, n2, c2, rfl, rfl, rfl, q2⟩ := i2.out
              have X2 := Lib.hid (HX2.out.trans x2)
              clear i2 x2 q2 HJ2
              go_wp2_with fail
              refine (HL.out _ X2.out).mono ?_
              rintro e w3 ⟨rfl, x3⟩
              have X3 := Lib.hid (X2.out.trans x3)
              clear x3 HL
              go_wp2
              go_ret
              exact ⟨rfl, X3.out⟩
end Go.Proofs.YtinijapkipeamaaDoor
