/- Contract of the law's parsed. -/
import Derived.Test.YtbappfeojdehgaaDoorTd
namespace Go.Proofs.YtbappfeojdehgaaDoor
set_option linter.unusedVariables false
set_option linter.unusedSimpArgs false
set_option maxRecDepth 8000
open Go Go.RowKit Go.Sort

theorem bat_get (s : ByteArray) {i : Nat} (h : i < s.size) : bat s.data.toList i = ((s[i]'h).toNat : Int) := by
  have h' : i < s.data.toList.length := by rw [Array.length_toList]; exact h
  rw [bat_at h']; rfl
/-- How far the text is read: the fields behind, and what they read as. -/
def Done (l : List UInt8) (k m : Nat) (A : List Int) : Prop := ∃ d : List (List UInt8), fields l = d ++ fields (l.drop k) ∧ (d.all pok) = true ∧ A = d.map pv ∧ m = d.length
theorem Done.start (l : List UInt8) : Done l 0 0 [] := ⟨[], rfl, rfl, rfl, rfl⟩
theorem Done.bad {l : List UInt8} {k m : Nat} {A : List Int} (h : Done l k m A) (hb : ∃ p ps, fields (l.drop k) = p :: ps ∧ pw p = none) : fitsT l = false := by
  obtain ⟨d, h1, h2, _⟩ := h
  obtain ⟨p, ps, h3, h4⟩ := hb
  unfold fitsT
  rw [h1, h3, List.all_append, List.all_cons]
  unfold pok
  rw [h4]; simp
theorem Done.next {l : List UInt8} {k m k' : Nat} {A : List Int} {x : Int} (h : Done l k m A) (hb : ∃ p, fields (l.drop k) = p :: fields (l.drop k') ∧ pw p = some x) : Done l k' (m + 1) (A ++ [x]) := by
  obtain ⟨d, h1, h2, rfl, rfl⟩ := h
  obtain ⟨p, h3, h4⟩ := hb
  refine ⟨d ++ [p], by rw [h1, h3]; simp, ?_, ?_, by simp⟩
  · rw [List.all_append, h2]; unfold pok; simp [h4]
  · rw [List.map_append]; unfold pv; simp [h4]
theorem Done.fin {l : List UInt8} {k m : Nat} {A : List Int} {x : Int} (h : Done l k m A) (hb : ∃ p, fields (l.drop k) = [p] ∧ pw p = some x) : fitsT l = true ∧ vals l = A ++ [x] ∧ (fields l).length = m + 1 := by
  obtain ⟨d, h1, h2, rfl, rfl⟩ := h
  obtain ⟨p, h3, h4⟩ := hb
  rw [h3] at h1
  refine ⟨?_, ?_, by rw [h1]; simp⟩
  · unfold fitsT; rw [h1, List.all_append, h2]; unfold pok; simp [h4]
  · unfold vals; rw [h1, List.map_append]; unfold pv; simp [h4]

/-- What parsed hands back. -/
def RetQ (l : List UInt8) (w : World) (e : Ending) (w' : World) : Prop :=
  ∃ v c, e = .returned (.tuple #[v, .bool (parseT l).isSome]) ∧ (∀ xs, parseT l = some xs → IS .i64 w' v c xs) ∧ Ext w w'
theorem RetQ.bad {l : List UInt8} {w w' : World} {v : Value} (h0 : l ≠ [45]) (h : fitsT l = false) (hx : Ext w w') : RetQ l w (.returned (.tuple #[v, .bool false])) w' := by
  have hp : parseT l = none := by
    unfold parseT
    rw [if_neg h0]
    split
    · rfl
    · rw [if_neg (by rw [h]; decide)]
  exact ⟨_, 0, by rw [hp]; rfl, fun xs hx' => (by rw [hp] at hx'; cases hx'), hx⟩
theorem RetQ.good {l : List UInt8} {w w' : World} {v : Value} {c m : Nat} {b : Bool} (h0 : l ≠ [45]) (h : fitsT l = true) (hm : (fields l).length = m) (hb : b = decide (m ≤ 64)) (hI : IS .i64 w' v c (vals l)) (hx : Ext w w') : RetQ l w (.returned (.tuple #[v, .bool b])) w' := by
  by_cases hl : m ≤ 64
  · have hp : parseT l = some (vals l) := by unfold parseT; rw [if_neg h0, if_neg (by omega), if_pos h]
    exact ⟨_, c, by rw [hp, hb, decide_eq_true hl]; rfl, fun xs hx' => (by rw [hp] at hx'; obtain rfl := Option.some.inj hx'; exact hI), hx⟩
  · have hp : parseT l = none := by unfold parseT; rw [if_neg h0, if_pos (by omega)]
    exact ⟨_, c, by rw [hp, hb, decide_eq_false hl]; rfl, fun xs hx' => (by rw [hp] at hx'; cases hx'), hx⟩

theorem parsed_dash (s : ByteArray) (w : World) (h : s.data.toList = [45]) : Calls Tryd.prog 10 #[.string s] w (RetQ s.data.toList w) := by
  have he := str45 h
  have hp : parseT s.data.toList = some [] := by unfold parseT; rw [if_pos h]
  have HP := Lib.hid hp
  clear h hp
  go_enter Tryd.func10, Tryd.ntmps10
  go_wp2
  go_ret2
  exact ⟨_, 0, by rw [HP.out]; rfl, fun xs hx => (by rw [HP.out] at hx; obtain rfl := Option.some.inj hx; exact IS.nil _ _), Ext.refl _⟩


set_option maxHeartbeats 8000000 in
theorem parsed_main (s : ByteArray) (w : World) (hs : s.size ≤ 100000) (h : s.data.toList ≠ [45]) : Calls Tryd.prog 10 #[.string s] w (RetQ s.data.toList w) := by
  have he := str45_ne h
  obtain ⟨l, hl⟩ : ∃ l, l = s.data.toList := ⟨_, rfl⟩
  have hll : l.length = s.size := by rw [hl, Array.length_toList]; rfl
  have hbat : ∀ i (hi : i < s.size), bat l i = ((s[i]'hi).toNat : Int) := fun i hi => by rw [hl]; exact bat_get s hi
  rw [← hl] at h ⊢
  obtain ⟨L, hL⟩ : ∃ L, L = s.size := ⟨_, rfl⟩
  have HLL := Lib.hid hll; have HBT := Lib.hid hbat; have H0 := Lib.hid h
  clear hll hbat h hl
  have HL := Lib.hid hL
  clear hL
  go_enter Tryd.func10, Tryd.ntmps10
  go_wp2
  go_loopw [4, 5, 6] (fun out i _ wr => ∃ (k m : Nat) (A : List Int), k ≤ s.size ∧ m ≤ k ∧ i = .int .i64 k ∧ Hid (Done l k m A) ∧ Ext w wr ∧ wr.ownsRow w.heap.size 3 1 out m (A.map (Value.int .i64))) (fun _ i _ _ => s.size - (intOf i).toNat)
  case atStart => exact ⟨0, 0, [], Nat.zero_le _, Nat.le_refl _, rfl, Lib.hid (Done.start l), Ext.refl w, World.ownsRow_nil _ _ _ _⟩
  case round =>
    obtain ⟨k, m, A, hk, hmk, rfl, HD, hext, hown⟩ := hrel
    by_cases hsg : ∃ hi : k < s.size, ((s[k]'hi).toNat : Int) = 45
    · obtain ⟨hi, h45⟩ := hsg
      have HS := Lib.hid (show Sign l k 1 from .inr ⟨rfl, by rw [HLL.out]; exact hi, by rw [HBT.out k hi]; exact h45⟩)
      have h45' : (((s[k]'hi).toNat : Int) == 45) = true := by rw [beq_iff_eq]; exact h45
      clear h45
      by_cases hj : k + 1 < s.size
      · by_cases hlo : ((s[k + 1]'hj).toNat : Int) < 49
        · have HB := Lib.hid (HD.out.bad (scan_bad (m := 1) HS.out (fun hh => by have this : 49 ≤ bat l (k + 1) := hh.2.1; rw [HBT.out (k + 1) hj] at this; omega)))
          go_wp2
          go_ret2
          exact RetQ.bad H0.out HB.out hext
        · by_cases hhi : 55 < ((s[k + 1]'hj).toNat : Int)
          · have HB := Lib.hid (HD.out.bad (scan_bad (m := 1) HS.out (fun hh => by have this : bat l (k + 1) ≤ 55 := hh.2.2; rw [HBT.out (k + 1) hj] at this; omega)))
            have hlo' : 49 ≤ ((s[k + 1]'hj).toNat : Int) := by omega
            go_wp2
            go_ret2
            exact RetQ.bad H0.out HB.out hext
          · have hlo' : 49 ≤ ((s[k + 1]'hj).toNat : Int) := by omega
            have hhi' : ((s[k + 1]'hj).toNat : Int) ≤ 55 := by omega
            have q1 : 49 ≤ bat l (k + 1) := by rw [HBT.out (k + 1) hj]; exact hlo'
            have q2 : bat l (k + 1) ≤ 55 := by rw [HBT.out (k + 1) hj]; exact hhi'
            have q3 : (k + 1) < l.length := by rw [HLL.out]; exact hj
            have Q := Lib.hid (And.intro q3 (And.intro q1 q2))
            clear q1 q2 q3 hlo hhi
            go_wp2_with (at_builtin; refine app_own eiInt rfl _ _ rfl w.heap.size _ m (A.map (Value.int .i64)) rfl (hown.alloc _) _ _ _ rfl (VS.one _ _ _) (one1 _) ?c1 ?c2 ?c3 ?_)
            case c1 => simp; omega
            case c2 => simp; omega
            case c3 => have := hext.size; simp; omega
            intro v' w1 hown' hb
            have hx1 := Below.trans (hext.alloc _) hb
            have hown2 : w1.ownsRow w.heap.size 3 1 v' (m + 1) ((A ++ [sg 1 * (bat l (k + 1) - 48)]).map (Value.int .i64)) := by
              have e : sg 1 * (bat l (k + 1) - 48) = -(((s[k + 1]'hj).toNat : Int) - 48) := by rw [HBT.out (k + 1) hj]; simp only [sg]; simp
              rw [e, List.map_append]; exact hown'
            clear hb hext hown hown'
            by_cases he1 : k + 2 = s.size
            · have HE := Lib.hid (HD.out.fin (scan_end (m := 1) HS.out Q.out.1 Q.out.2.1 Q.out.2.2 (by rw [HLL.out]; exact he1)))
              obtain ⟨c, hI⟩ := IS.of_own hown2
              obtain ⟨a2, n2, c2, rfl, hn2, rfl, hI⟩ := hI.out
              have HI := Lib.hid hI
              have e1 : ((k : Int) + 1 + 1 == (s.size : Int)) = true := by rw [beq_iff_eq]; omega
              have e2 : ((k : Int) + 2 == (s.size : Int)) = true := by rw [beq_iff_eq]; omega
              have hn3 : n2 = m + 1 := by
                have hlen := hn2
                have HE3 := congrArg List.length HE.out.2.1
                have HE4 := HE.out.2.2
                unfold vals at HE3
                rw [List.length_map] at HE3
                simp only [List.length_append, List.length_cons, List.length_nil] at hlen HE3
                omega
              have HN3 := Lib.hid hn3
              clear hI he1 hown2 hn2 hn3
              go_wp2
              go_ret2
              exact RetQ.good H0.out HE.out.1 HE.out.2.2 (by rw [HN3.out]; exact decide_eq_decide.2 (by omega)) (by rw [HE.out.2.1]; exact HI.out) hx1
            · have hj1 : k + 2 < s.size := by omega
              have e1 : ((k : Int) + 1 + 1 == (s.size : Int)) = false := by rw [beq_eq_false_iff_ne]; omega
              have e2 : ((k : Int) + 2 == (s.size : Int)) = false := by rw [beq_eq_false_iff_ne]; omega
              have hj2 : k + 1 + 1 < s.size := hj1
              by_cases hsp : ((s[k + 2]'hj1).toNat : Int) = 32
              · have HD2 := Lib.hid (HD.out.next (k' := k + 2 + 1) (scan_next (m := 1) HS.out Q.out.1 Q.out.2.1 Q.out.2.2 (by rw [HLL.out]; exact hj1) (by rw [HBT.out _ hj1]; exact hsp)))
                have s1 : (((s[k + 2]'hj1).toNat : Int) != 32) = false := by rw [bne, beq_iff_eq.2 hsp]; rfl
                have s2 : (((s[k + 1 + 1]'hj2).toNat : Int) != 32) = false := s1
                have s3 : (((s[k + 2]'hj1).toNat : Int) == 32) = true := beq_iff_eq.2 hsp
                have s4 : (((s[k + 1 + 1]'hj2).toNat : Int) == 32) = true := s3
                clear hsp he1
                go_wp2
                go_roundw
                case rel => exact ⟨k + 2 + 1, m + 1, _, by omega, by omega, by go_num, HD2, hx1, hown2⟩
                case measure => simp [intOf]; omega
              · have HB := Lib.hid (HD.out.bad (scan_tail (m := 1) HS.out Q.out.1 Q.out.2.1 Q.out.2.2 (by rw [HLL.out]; exact hj1) (by rw [HBT.out _ hj1]; exact hsp)))
                have s3 : (((s[k + 2]'hj1).toNat : Int) == 32) = false := beq_eq_false_iff_ne.2 hsp
                have s4 : (((s[k + 1 + 1]'hj2).toNat : Int) == 32) = false := s3
                have s1 : (((s[k + 2]'hj1).toNat : Int) != 32) = true := by rw [bne, s3]; rfl
                have s2 : (((s[k + 1 + 1]'hj2).toNat : Int) != 32) = true := s1
                clear hsp he1
                go_wp2
                go_ret2
                exact RetQ.bad H0.out HB.out hx1
      · have HB := Lib.hid (HD.out.bad (scan_bad (m := 1) HS.out (fun hh => by have := hh.1; rw [HLL.out] at this; omega)))
        go_wp2
        go_ret2
        exact RetQ.bad H0.out HB.out hext
    · have HS := Lib.hid (show Sign l k 0 from .inl ⟨rfl, fun hh => hsg (by
        have hi : k < s.size := by have := hh.1; rw [HLL.out] at this; exact this
        exact ⟨hi, by rw [← HBT.out k hi]; exact hh.2⟩)⟩)
      by_cases hi : k < s.size
      · have h45' : (((s[k]'hi).toNat : Int) == 45) = false := by rw [beq_eq_false_iff_ne]; exact fun e => hsg ⟨hi, e⟩
        clear hsg
        by_cases hj : k < s.size
        · by_cases hlo : ((s[k]'hj).toNat : Int) < 49
          · have HB := Lib.hid (HD.out.bad (scan_bad (m := 0) HS.out (fun hh => by have this : 49 ≤ bat l (k) := hh.2.1; rw [HBT.out (k) hj] at this; omega)))
            go_wp2
            go_ret2
            exact RetQ.bad H0.out HB.out hext
          · by_cases hhi : 55 < ((s[k]'hj).toNat : Int)
            · have HB := Lib.hid (HD.out.bad (scan_bad (m := 0) HS.out (fun hh => by have this : bat l (k) ≤ 55 := hh.2.2; rw [HBT.out (k) hj] at this; omega)))
              have hlo' : 49 ≤ ((s[k]'hj).toNat : Int) := by omega
              go_wp2
              go_ret2
              exact RetQ.bad H0.out HB.out hext
            · have hlo' : 49 ≤ ((s[k]'hj).toNat : Int) := by omega
              have hhi' : ((s[k]'hj).toNat : Int) ≤ 55 := by omega
              have q1 : 49 ≤ bat l (k) := by rw [HBT.out (k) hj]; exact hlo'
              have q2 : bat l (k) ≤ 55 := by rw [HBT.out (k) hj]; exact hhi'
              have q3 : (k) < l.length := by rw [HLL.out]; exact hj
              have Q := Lib.hid (And.intro q3 (And.intro q1 q2))
              clear q1 q2 q3 hlo hhi
              go_wp2_with (at_builtin; refine app_own eiInt rfl _ _ rfl w.heap.size _ m (A.map (Value.int .i64)) rfl (hown.alloc _) _ _ _ rfl (VS.one _ _ _) (one1 _) ?c1 ?c2 ?c3 ?_)
              case c1 => simp; omega
              case c2 => simp; omega
              case c3 => have := hext.size; simp; omega
              intro v' w1 hown' hb
              have hx1 := Below.trans (hext.alloc _) hb
              have hown2 : w1.ownsRow w.heap.size 3 1 v' (m + 1) ((A ++ [sg 0 * (bat l (k) - 48)]).map (Value.int .i64)) := by
                have e : sg 0 * (bat l (k) - 48) = (((s[k]'hj).toNat : Int) - 48) := by rw [HBT.out (k) hj]; simp only [sg]; simp
                rw [e, List.map_append]; exact hown'
              clear hb hext hown hown'
              by_cases he1 : k + 1 = s.size
              · have HE := Lib.hid (HD.out.fin (scan_end (m := 0) HS.out Q.out.1 Q.out.2.1 Q.out.2.2 (by rw [HLL.out]; exact he1)))
                obtain ⟨c, hI⟩ := IS.of_own hown2
                obtain ⟨a2, n2, c2, rfl, hn2, rfl, hI⟩ := hI.out
                have HI := Lib.hid hI
                have e1 : ((k : Int) + 1 == (s.size : Int)) = true := by rw [beq_iff_eq]; omega
                have e2 : ((k : Int) + 1 == (s.size : Int)) = true := by rw [beq_iff_eq]; omega
                have hn3 : n2 = m + 1 := by
                  have hlen := hn2
                  have HE3 := congrArg List.length HE.out.2.1
                  have HE4 := HE.out.2.2
                  unfold vals at HE3
                  rw [List.length_map] at HE3
                  simp only [List.length_append, List.length_cons, List.length_nil] at hlen HE3
                  omega
                have HN3 := Lib.hid hn3
                clear hI he1 hown2 hn2 hn3
                go_wp2
                go_ret2
                exact RetQ.good H0.out HE.out.1 HE.out.2.2 (by rw [HN3.out]; exact decide_eq_decide.2 (by omega)) (by rw [HE.out.2.1]; exact HI.out) hx1
              · have hj1 : k + 1 < s.size := by omega
                have e1 : ((k : Int) + 1 == (s.size : Int)) = false := by rw [beq_eq_false_iff_ne]; omega
                have e2 : ((k : Int) + 1 == (s.size : Int)) = false := by rw [beq_eq_false_iff_ne]; omega
                have hj2 : k + 1 < s.size := hj1
                by_cases hsp : ((s[k + 1]'hj1).toNat : Int) = 32
                · have HD2 := Lib.hid (HD.out.next (k' := k + 1 + 1) (scan_next (m := 0) HS.out Q.out.1 Q.out.2.1 Q.out.2.2 (by rw [HLL.out]; exact hj1) (by rw [HBT.out _ hj1]; exact hsp)))
                  have s1 : (((s[k + 1]'hj1).toNat : Int) != 32) = false := by rw [bne, beq_iff_eq.2 hsp]; rfl
                  have s2 : (((s[k + 1]'hj2).toNat : Int) != 32) = false := s1
                  have s3 : (((s[k + 1]'hj1).toNat : Int) == 32) = true := beq_iff_eq.2 hsp
                  have s4 : (((s[k + 1]'hj2).toNat : Int) == 32) = true := s3
                  clear hsp he1
                  go_wp2
                  go_roundw
                  case rel => exact ⟨k + 1 + 1, m + 1, _, by omega, by omega, by go_num, HD2, hx1, hown2⟩
                  case measure => simp [intOf]; omega
                · have HB := Lib.hid (HD.out.bad (scan_tail (m := 0) HS.out Q.out.1 Q.out.2.1 Q.out.2.2 (by rw [HLL.out]; exact hj1) (by rw [HBT.out _ hj1]; exact hsp)))
                  have s3 : (((s[k + 1]'hj1).toNat : Int) == 32) = false := beq_eq_false_iff_ne.2 hsp
                  have s4 : (((s[k + 1]'hj2).toNat : Int) == 32) = false := s3
                  have s1 : (((s[k + 1]'hj1).toNat : Int) != 32) = true := by rw [bne, s3]; rfl
                  have s2 : (((s[k + 1]'hj2).toNat : Int) != 32) = true := s1
                  clear hsp he1
                  go_wp2
                  go_ret2
                  exact RetQ.bad H0.out HB.out hx1
        · exact absurd hi hj
      · clear hsg
        have HB := Lib.hid (HD.out.bad (scan_bad HS.out (fun hh => by have := hh.1; rw [HLL.out] at this; omega)))
        go_wp2
        go_ret2
        exact RetQ.bad H0.out HB.out hext

theorem parsed_calls (s : ByteArray) (w : World) (hs : s.size ≤ 100000) : Calls Tryd.prog 10 #[.string s] w (RetQ s.data.toList w) := by
  by_cases h : s.data.toList = [45]
  · exact parsed_dash s w h
  · exact parsed_main s w hs h
end Go.Proofs.YtbappfeojdehgaaDoor
