/- The chapter's examples hold: the walk of lives. -/
import Derived.Test.YtbappfeojdehgaaWm
import Derived.Test.YtbappfeojdehgaaWn
namespace Go.Proofs.Ytbappfeojdehgaa
set_option linter.unusedVariables false
set_option linter.unusedSimpArgs false
open Go Go.RowKit

theorem Act_dec {n : Nat} {xs : List Int} (h : ∀ k, k < xs.length → letterLen (actRows n (xs.take k)) (gi xs k) ≤ 262144) : fits n xs := h

theorem sameB_dec {xs ys : List Int} (h : xs = ys) : sameB xs ys = true := by rw [h]; exact sameB_eq _
theorem allB_dec {xs ys : List (List Int)} (h : xs = ys) : allB xs ys = true := by rw [h]; exact allB_eq _
theorem same_ext (v v' : Value) (c c' : Nat) (xs ys : List Int) (w : World) (h : IS .i64 w v c xs) (h' : IS .i64 w v' c' ys) :
    Calls Try.prog 14 #[v, v'] w fun e w' => e = .returned (.bool (sameB xs ys)) ∧ Ext w w' :=
  (same_calls v v' c c' xs ys w h h').mono fun _ _ ⟨he, m, hm⟩ => ⟨he, by rw [hm]; exact (Ext.refl w).drewN m⟩
theorem all_ext (v v' : Value) (c c' : Nat) (xs ys : List (List Int)) (w : World) (h : ISS .i64 w v c xs) (h' : ISS .i64 w v' c' ys) :
    Calls Try.prog 19 #[v, v'] w fun e w' => e = .returned (.bool (allB xs ys)) ∧ Ext w w' :=
  (all_calls v v' c c' xs ys w h h').mono fun _ _ ⟨he, m, hm⟩ => ⟨he, by rw [hm]; exact (Ext.refl w).drewN m⟩
theorem lit1 : (Value.int .i64 1) = Value.int .i64 1 := rfl

set_option maxHeartbeats 2000000 in
set_option maxRecDepth 100000 in
theorem lives_calls (w : World) : Calls Try.prog 16 #[] w fun e w' => e = .returned (.bool true) ∧ Ext w w' := by
  go_enter Try.func16, Try.ntmps16
  have X0 := Lib.hid (Ext.refl w)
  go_wp2_with fail
  refine (Reduce_calls 3 _ _ [1, 2, (-2), (-1), 2] _ (IS.lit (k := .i64) (xs := [1, 2, (-2), (-1), 2]) rfl rfl rfl (by decide)) (by decide) (bdL (P := fun x => -100 ≤ x ∧ x ≤ 100) (by decide)) (by decide)).mono ?_
  rintro e w1 ⟨va, rfl, hv, x⟩
  rw [show red [1, 2, (-2), (-1), 2] = [2] from by decide] at hv
  have S := Lib.hid (((Ext.refl w).alloc _).trans x)
  have X1 := Lib.hid (X0.out.trans S.out)
  have Ha := Lib.hid hv
  clear hv x S
  go_wp2_with fail
  refine (Inverse_calls 3 _ _ [1, (-2)] _ (IS.lit (k := .i64) (xs := [1, (-2)]) rfl rfl rfl (by decide)) (by decide) (bdL (P := fun x => -100 ≤ x ∧ x ≤ 100) (by decide)) (by decide)).mono ?_
  rintro e w2 ⟨vb, rfl, hv, x⟩
  rw [show ([1, (-2)]).reverse.map (fun x => -x) = [2, (-1)] from by decide] at hv
  have S := Lib.hid (((Ext.refl w1).alloc _).trans x)
  have X2 := Lib.hid (X1.out.trans S.out)
  replace Ha := Lib.hid (Ha.out.ext S.out)
  have Hb := Lib.hid hv
  clear hv x S
  go_wp2_with fail
  refine (Permutation_calls 3 _ _ [1, 2] _ (IS.lit (k := .i64) (xs := [1, 2]) rfl rfl rfl (by decide)) (by decide)).mono ?_
  rintro e w3 ⟨vc, rfl, hv, x⟩
  rw [show permOf 3 [1, 2] = [3, 1, 2] from by decide] at hv
  have S := Lib.hid (((Ext.refl w2).alloc _).trans x)
  have X3 := Lib.hid (X2.out.trans S.out)
  replace Ha := Lib.hid (Ha.out.ext S.out)
  replace Hb := Lib.hid (Hb.out.ext S.out)
  have Hc := Lib.hid hv
  clear hv x S
  go_wp2_with fail
  refine (Links_calls 3 _ _ [1, 1, 2] _ (IS.lit (k := .i64) (xs := [1, 1, 2]) rfl rfl rfl (by decide)) (by decide)).mono ?_
  rintro e w4 ⟨vd, rfl, hv, x⟩
  rw [show linksOf 3 [1, 1, 2] = [[0, 2, 0], [2, 0, 1], [0, 1, 0]] from by decide] at hv
  have S := Lib.hid (((Ext.refl w3).alloc _).trans x)
  have X4 := Lib.hid (X3.out.trans S.out)
  replace Ha := Lib.hid (Ha.out.ext S.out)
  replace Hb := Lib.hid (Hb.out.ext S.out)
  replace Hc := Lib.hid (Hc.out.ext S.out)
  have Hd := Lib.hid hv
  clear hv x S
  go_wp2_with fail
  refine (Act_calls 2 _ _ [1] _ (IS.lit (k := .i64) (xs := [1]) rfl rfl rfl (by decide)) (by decide) (Act_dec (by decide))).mono ?_
  rintro e w5 ⟨ve, rfl, hv, x⟩
  rw [show actRows 2 [1] = [[1, 2, (-1)], [1]] from by decide] at hv
  have S := Lib.hid (((Ext.refl w4).alloc _).trans x)
  have X5 := Lib.hid (X4.out.trans S.out)
  replace Ha := Lib.hid (Ha.out.ext S.out)
  replace Hb := Lib.hid (Hb.out.ext S.out)
  replace Hc := Lib.hid (Hc.out.ext S.out)
  replace Hd := Lib.hid (Hd.out.ext S.out)
  have He := Lib.hid hv
  clear hv x S
  go_wp2_with fail
  refine (Act_calls 2 _ _ [(-1)] _ (IS.lit (k := .i64) (xs := [(-1)]) rfl rfl rfl (by decide)) (by decide) (Act_dec (by decide))).mono ?_
  rintro e w6 ⟨vf, rfl, hv, x⟩
  rw [show actRows 2 [(-1)] = [[2], [(-2), 1, 2]] from by decide] at hv
  have S := Lib.hid (((Ext.refl w5).alloc _).trans x)
  have X6 := Lib.hid (X5.out.trans S.out)
  replace Ha := Lib.hid (Ha.out.ext S.out)
  replace Hb := Lib.hid (Hb.out.ext S.out)
  replace Hc := Lib.hid (Hc.out.ext S.out)
  replace Hd := Lib.hid (Hd.out.ext S.out)
  replace He := Lib.hid (He.out.ext S.out)
  have Hf := Lib.hid hv
  clear hv x S
  go_wp2_with fail
  refine (Act_calls 3 _ _ [1, 2, 1] _ (IS.lit (k := .i64) (xs := [1, 2, 1]) rfl rfl rfl (by decide)) (by decide) (Act_dec (by decide))).mono ?_
  rintro e w7 ⟨vg, rfl, hv, x⟩
  rw [show actRows 3 [1, 2, 1] = [[1, 2, 3, (-2), (-1)], [1, 2, (-1)], [1]] from by decide] at hv
  have S := Lib.hid (((Ext.refl w6).alloc _).trans x)
  have X7 := Lib.hid (X6.out.trans S.out)
  replace Ha := Lib.hid (Ha.out.ext S.out)
  replace Hb := Lib.hid (Hb.out.ext S.out)
  replace Hc := Lib.hid (Hc.out.ext S.out)
  replace Hd := Lib.hid (Hd.out.ext S.out)
  replace He := Lib.hid (He.out.ext S.out)
  replace Hf := Lib.hid (Hf.out.ext S.out)
  have Hg := Lib.hid hv
  clear hv x S
  go_wp2_with fail
  refine (Act_calls 3 _ _ [2, 1, 2] _ (IS.lit (k := .i64) (xs := [2, 1, 2]) rfl rfl rfl (by decide)) (by decide) (Act_dec (by decide))).mono ?_
  rintro e w8 ⟨vh, rfl, hv, x⟩
  rw [show actRows 3 [2, 1, 2] = [[1, 2, 3, (-2), (-1)], [1, 2, (-1)], [1]] from by decide] at hv
  have S := Lib.hid (((Ext.refl w7).alloc _).trans x)
  have X8 := Lib.hid (X7.out.trans S.out)
  replace Ha := Lib.hid (Ha.out.ext S.out)
  replace Hb := Lib.hid (Hb.out.ext S.out)
  replace Hc := Lib.hid (Hc.out.ext S.out)
  replace Hd := Lib.hid (Hd.out.ext S.out)
  replace He := Lib.hid (He.out.ext S.out)
  replace Hf := Lib.hid (Hf.out.ext S.out)
  replace Hg := Lib.hid (Hg.out.ext S.out)
  have Hh := Lib.hid hv
  clear hv x S
  go_wp2_with fail
  refine (Flip_calls 4 _ _ [1, (-3)] _ (IS.lit (k := .i64) (xs := [1, (-3)]) rfl rfl rfl (by decide)) (by decide) (by decide) (bdL (P := fun x => -100 ≤ x ∧ x ≤ 100) (by decide)) (by decide)).mono ?_
  rintro e w9 ⟨vi, rfl, hv, x⟩
  rw [show ([1, (-3)]).map (flipk 4) = [3, (-1)] from by decide] at hv
  have S := Lib.hid (((Ext.refl w8).alloc _).trans x)
  have X9 := Lib.hid (X8.out.trans S.out)
  replace Ha := Lib.hid (Ha.out.ext S.out)
  replace Hb := Lib.hid (Hb.out.ext S.out)
  replace Hc := Lib.hid (Hc.out.ext S.out)
  replace Hd := Lib.hid (Hd.out.ext S.out)
  replace He := Lib.hid (He.out.ext S.out)
  replace Hf := Lib.hid (Hf.out.ext S.out)
  replace Hg := Lib.hid (Hg.out.ext S.out)
  replace Hh := Lib.hid (Hh.out.ext S.out)
  have Hi := Lib.hid hv
  clear hv x S
  go_wp2_with fail
  refine (Mirror_calls 4 _ _ [1, (-3)] _ (IS.lit (k := .i64) (xs := [1, (-3)]) rfl rfl rfl (by decide)) (by decide) (bdL (P := fun x => -100 ≤ x ∧ x ≤ 100) (by decide)) (by decide)).mono ?_
  rintro e w10 ⟨vj, rfl, hv, x⟩
  rw [show ([1, (-3)]).map (fun k => -k) = [(-1), 3] from by decide] at hv
  have S := Lib.hid (((Ext.refl w9).alloc _).trans x)
  have X10 := Lib.hid (X9.out.trans S.out)
  replace Ha := Lib.hid (Ha.out.ext S.out)
  replace Hb := Lib.hid (Hb.out.ext S.out)
  replace Hc := Lib.hid (Hc.out.ext S.out)
  replace Hd := Lib.hid (Hd.out.ext S.out)
  replace He := Lib.hid (He.out.ext S.out)
  replace Hf := Lib.hid (Hf.out.ext S.out)
  replace Hg := Lib.hid (Hg.out.ext S.out)
  replace Hh := Lib.hid (Hh.out.ext S.out)
  replace Hi := Lib.hid (Hi.out.ext S.out)
  have Hj := Lib.hid hv
  clear hv x S
  have q10 : sameB [2] [2] = true := sameB_eq _
  go_wp2_with fail
  refine (same_ext _ _ _ _ [2] [2] _ (Ha.out.ext ((Ext.refl _).alloc _)) (IS.lit (k := .i64) (xs := [2]) rfl rfl rfl (by decide))).mono ?_
  rintro e w11 ⟨rfl, x⟩
  have S := Lib.hid (((Ext.refl w10).alloc _).trans x)
  have X11 := Lib.hid (X10.out.trans S.out)
  replace Ha := Lib.hid (Ha.out.ext S.out)
  replace Hb := Lib.hid (Hb.out.ext S.out)
  replace Hc := Lib.hid (Hc.out.ext S.out)
  replace Hd := Lib.hid (Hd.out.ext S.out)
  replace He := Lib.hid (He.out.ext S.out)
  replace Hf := Lib.hid (Hf.out.ext S.out)
  replace Hg := Lib.hid (Hg.out.ext S.out)
  replace Hh := Lib.hid (Hh.out.ext S.out)
  replace Hi := Lib.hid (Hi.out.ext S.out)
  replace Hj := Lib.hid (Hj.out.ext S.out)
  clear x S
  have q11 : sameB [2, (-1)] [2, (-1)] = true := sameB_eq _
  go_wp2_with fail
  refine (same_ext _ _ _ _ [2, (-1)] [2, (-1)] _ (Hb.out.ext ((Ext.refl _).alloc _)) (IS.lit (k := .i64) (xs := [2, (-1)]) rfl rfl rfl (by decide))).mono ?_
  rintro e w12 ⟨rfl, x⟩
  have S := Lib.hid (((Ext.refl w11).alloc _).trans x)
  have X12 := Lib.hid (X11.out.trans S.out)
  replace Ha := Lib.hid (Ha.out.ext S.out)
  replace Hb := Lib.hid (Hb.out.ext S.out)
  replace Hc := Lib.hid (Hc.out.ext S.out)
  replace Hd := Lib.hid (Hd.out.ext S.out)
  replace He := Lib.hid (He.out.ext S.out)
  replace Hf := Lib.hid (Hf.out.ext S.out)
  replace Hg := Lib.hid (Hg.out.ext S.out)
  replace Hh := Lib.hid (Hh.out.ext S.out)
  replace Hi := Lib.hid (Hi.out.ext S.out)
  replace Hj := Lib.hid (Hj.out.ext S.out)
  clear x S
  have hconv : (convert 22 9 vc).run Try.prog w12 = .ok (.string ⟨#[3, 1, 2]⟩) w12 := run_bstr Hc.out Try.underlying22 Try.underlying5 Try.underlying9
  have q12 : allB [[0, 2, 0], [2, 0, 1], [0, 1, 0]] [[0, 2, 0], [2, 0, 1], [0, 1, 0]] = true := allB_eq _
  go_wp2_with fail
  refine (all_ext _ _ _ _ [[0, 2, 0], [2, 0, 1], [0, 1, 0]] [[0, 2, 0], [2, 0, 1], [0, 1, 0]] _ (Hd.out.iss.ext (((((Ext.refl _).alloc _).alloc _).alloc _).alloc _)) (ISS.lit3 (by simp) ((IS.lit (k := .i64) (xs := [0, 2, 0]) rfl (by simp) rfl (by decide)).ext (((Ext.refl _).alloc _).alloc _)) ((IS.lit (k := .i64) (xs := [2, 0, 1]) rfl (by simp) rfl (by decide)).ext ((Ext.refl _).alloc _)) ((IS.lit (k := .i64) (xs := [0, 1, 0]) rfl (by simp) rfl (by decide)).ext (Ext.refl _)))).mono ?_
  rintro e w13 ⟨rfl, x⟩
  have S := Lib.hid (((((((Ext.refl w12).alloc _).alloc _).alloc _).alloc _)).trans x)
  have X13 := Lib.hid (X12.out.trans S.out)
  replace Ha := Lib.hid (Ha.out.ext S.out)
  replace Hb := Lib.hid (Hb.out.ext S.out)
  replace Hc := Lib.hid (Hc.out.ext S.out)
  replace Hd := Lib.hid (Hd.out.ext S.out)
  replace He := Lib.hid (He.out.ext S.out)
  replace Hf := Lib.hid (Hf.out.ext S.out)
  replace Hg := Lib.hid (Hg.out.ext S.out)
  replace Hh := Lib.hid (Hh.out.ext S.out)
  replace Hi := Lib.hid (Hi.out.ext S.out)
  replace Hj := Lib.hid (Hj.out.ext S.out)
  clear x S
  clear hconv
  have q13 : allB [[1, 2, (-1)], [1]] [[1, 2, (-1)], [1]] = true := allB_eq _
  go_wp2_with fail
  refine (all_ext _ _ _ _ [[1, 2, (-1)], [1]] [[1, 2, (-1)], [1]] _ (He.out.iss.ext ((((Ext.refl _).alloc _).alloc _).alloc _)) (ISS.lit2 (by simp) ((IS.lit (k := .i64) (xs := [1, 2, (-1)]) rfl (by simp) rfl (by decide)).ext ((Ext.refl _).alloc _)) ((IS.lit (k := .i64) (xs := [1]) rfl (by simp) rfl (by decide)).ext (Ext.refl _)))).mono ?_
  rintro e w14 ⟨rfl, x⟩
  have S := Lib.hid ((((((Ext.refl w13).alloc _).alloc _).alloc _)).trans x)
  have X14 := Lib.hid (X13.out.trans S.out)
  replace Ha := Lib.hid (Ha.out.ext S.out)
  replace Hb := Lib.hid (Hb.out.ext S.out)
  replace Hc := Lib.hid (Hc.out.ext S.out)
  replace Hd := Lib.hid (Hd.out.ext S.out)
  replace He := Lib.hid (He.out.ext S.out)
  replace Hf := Lib.hid (Hf.out.ext S.out)
  replace Hg := Lib.hid (Hg.out.ext S.out)
  replace Hh := Lib.hid (Hh.out.ext S.out)
  replace Hi := Lib.hid (Hi.out.ext S.out)
  replace Hj := Lib.hid (Hj.out.ext S.out)
  clear x S
  have q14 : allB [[2], [(-2), 1, 2]] [[2], [(-2), 1, 2]] = true := allB_eq _
  go_wp2_with fail
  refine (all_ext _ _ _ _ [[2], [(-2), 1, 2]] [[2], [(-2), 1, 2]] _ (Hf.out.iss.ext ((((Ext.refl _).alloc _).alloc _).alloc _)) (ISS.lit2 (by simp) ((IS.lit (k := .i64) (xs := [2]) rfl (by simp) rfl (by decide)).ext ((Ext.refl _).alloc _)) ((IS.lit (k := .i64) (xs := [(-2), 1, 2]) rfl (by simp) rfl (by decide)).ext (Ext.refl _)))).mono ?_
  rintro e w15 ⟨rfl, x⟩
  have S := Lib.hid ((((((Ext.refl w14).alloc _).alloc _).alloc _)).trans x)
  have X15 := Lib.hid (X14.out.trans S.out)
  replace Ha := Lib.hid (Ha.out.ext S.out)
  replace Hb := Lib.hid (Hb.out.ext S.out)
  replace Hc := Lib.hid (Hc.out.ext S.out)
  replace Hd := Lib.hid (Hd.out.ext S.out)
  replace He := Lib.hid (He.out.ext S.out)
  replace Hf := Lib.hid (Hf.out.ext S.out)
  replace Hg := Lib.hid (Hg.out.ext S.out)
  replace Hh := Lib.hid (Hh.out.ext S.out)
  replace Hi := Lib.hid (Hi.out.ext S.out)
  replace Hj := Lib.hid (Hj.out.ext S.out)
  clear x S
  have q15 : allB [[1, 2, 3, (-2), (-1)], [1, 2, (-1)], [1]] [[1, 2, 3, (-2), (-1)], [1, 2, (-1)], [1]] = true := allB_eq _
  go_wp2_with fail
  refine (all_ext _ _ _ _ [[1, 2, 3, (-2), (-1)], [1, 2, (-1)], [1]] [[1, 2, 3, (-2), (-1)], [1, 2, (-1)], [1]] _ (Hg.out.iss.ext (((((Ext.refl _).alloc _).alloc _).alloc _).alloc _)) (ISS.lit3 (by simp) ((IS.lit (k := .i64) (xs := [1, 2, 3, (-2), (-1)]) rfl (by simp) rfl (by decide)).ext (((Ext.refl _).alloc _).alloc _)) ((IS.lit (k := .i64) (xs := [1, 2, (-1)]) rfl (by simp) rfl (by decide)).ext ((Ext.refl _).alloc _)) ((IS.lit (k := .i64) (xs := [1]) rfl (by simp) rfl (by decide)).ext (Ext.refl _)))).mono ?_
  rintro e w16 ⟨rfl, x⟩
  have S := Lib.hid (((((((Ext.refl w15).alloc _).alloc _).alloc _).alloc _)).trans x)
  have X16 := Lib.hid (X15.out.trans S.out)
  replace Ha := Lib.hid (Ha.out.ext S.out)
  replace Hb := Lib.hid (Hb.out.ext S.out)
  replace Hc := Lib.hid (Hc.out.ext S.out)
  replace Hd := Lib.hid (Hd.out.ext S.out)
  replace He := Lib.hid (He.out.ext S.out)
  replace Hf := Lib.hid (Hf.out.ext S.out)
  replace Hg := Lib.hid (Hg.out.ext S.out)
  replace Hh := Lib.hid (Hh.out.ext S.out)
  replace Hi := Lib.hid (Hi.out.ext S.out)
  replace Hj := Lib.hid (Hj.out.ext S.out)
  clear x S
  have q16 : allB [[1, 2, 3, (-2), (-1)], [1, 2, (-1)], [1]] [[1, 2, 3, (-2), (-1)], [1, 2, (-1)], [1]] = true := allB_eq _
  go_wp2_with fail
  refine (all_ext _ _ _ _ [[1, 2, 3, (-2), (-1)], [1, 2, (-1)], [1]] [[1, 2, 3, (-2), (-1)], [1, 2, (-1)], [1]] _ Hh.out.iss Hg.out.iss).mono ?_
  rintro e w17 ⟨rfl, x⟩
  have S := Lib.hid ((Ext.refl w16).trans x)
  have X17 := Lib.hid (X16.out.trans S.out)
  replace Ha := Lib.hid (Ha.out.ext S.out)
  replace Hb := Lib.hid (Hb.out.ext S.out)
  replace Hc := Lib.hid (Hc.out.ext S.out)
  replace Hd := Lib.hid (Hd.out.ext S.out)
  replace He := Lib.hid (He.out.ext S.out)
  replace Hf := Lib.hid (Hf.out.ext S.out)
  replace Hg := Lib.hid (Hg.out.ext S.out)
  replace Hh := Lib.hid (Hh.out.ext S.out)
  replace Hi := Lib.hid (Hi.out.ext S.out)
  replace Hj := Lib.hid (Hj.out.ext S.out)
  clear x S
  have q17 : sameB [3, (-1)] [3, (-1)] = true := sameB_eq _
  go_wp2_with fail
  refine (same_ext _ _ _ _ [3, (-1)] [3, (-1)] _ (Hi.out.ext ((Ext.refl _).alloc _)) (IS.lit (k := .i64) (xs := [3, (-1)]) rfl rfl rfl (by decide))).mono ?_
  rintro e w18 ⟨rfl, x⟩
  have S := Lib.hid (((Ext.refl w17).alloc _).trans x)
  have X18 := Lib.hid (X17.out.trans S.out)
  replace Ha := Lib.hid (Ha.out.ext S.out)
  replace Hb := Lib.hid (Hb.out.ext S.out)
  replace Hc := Lib.hid (Hc.out.ext S.out)
  replace Hd := Lib.hid (Hd.out.ext S.out)
  replace He := Lib.hid (He.out.ext S.out)
  replace Hf := Lib.hid (Hf.out.ext S.out)
  replace Hg := Lib.hid (Hg.out.ext S.out)
  replace Hh := Lib.hid (Hh.out.ext S.out)
  replace Hi := Lib.hid (Hi.out.ext S.out)
  replace Hj := Lib.hid (Hj.out.ext S.out)
  clear x S
  have q18 : sameB [(-1), 3] [(-1), 3] = true := sameB_eq _
  go_wp2_with fail
  refine (same_ext _ _ _ _ [(-1), 3] [(-1), 3] _ (Hj.out.ext ((Ext.refl _).alloc _)) (IS.lit (k := .i64) (xs := [(-1), 3]) rfl rfl rfl (by decide))).mono ?_
  rintro e w19 ⟨rfl, x⟩
  have S := Lib.hid (((Ext.refl w18).alloc _).trans x)
  have X19 := Lib.hid (X18.out.trans S.out)
  replace Ha := Lib.hid (Ha.out.ext S.out)
  replace Hb := Lib.hid (Hb.out.ext S.out)
  replace Hc := Lib.hid (Hc.out.ext S.out)
  replace Hd := Lib.hid (Hd.out.ext S.out)
  replace He := Lib.hid (He.out.ext S.out)
  replace Hf := Lib.hid (Hf.out.ext S.out)
  replace Hg := Lib.hid (Hg.out.ext S.out)
  replace Hh := Lib.hid (Hh.out.ext S.out)
  replace Hi := Lib.hid (Hi.out.ext S.out)
  replace Hj := Lib.hid (Hj.out.ext S.out)
  clear x S
  go_wp2
  go_ret
  exact ⟨rfl, X19.out⟩

end Go.Proofs.Ytbappfeojdehgaa
