/- Texts of this claim in one file: libraries and walks. -/
import Derived.Test.YtigffblelngpjaaDoorL14
/- Contract of normals.put: the walk. -/
namespace Go.Proofs.YtigffblelngpjaaDoor
set_option linter.unusedVariables false
set_option linter.unusedSimpArgs false
set_option maxRecDepth 8000
open Go Go.RowKit

def agB : Value → Nat
  | .bool true => 1
  | _ => 0
def slN : Value → Nat
  | .slice _ m _ => m
  | _ => 0
set_option maxHeartbeats 8000000 in
theorem Put_calls (n : Nat) (wb : World) (Bo : Nat) (w : World) (v : Value) (bs : List Nat) (b : Nat) (ls : List (List Int)) (fs : List Int) (h : FL n wb Bo w v bs ls) (hb : OB w b fs) (hf : PM n fs) (hnb : b ∉ bs) (hlo : wb.heap.size ≤ b) (hn1 : 1 ≤ n) (h8 : n ≤ 8) (hlen : bs.length ≤ 1000) :
    Calls Tryd.prog 68 #[v, .slice (some ⟨b, 0, none⟩) n n] w (RetPut n wb Bo w bs b ls fs) := by
  have hst := fun (W : World) (b : Nat) (zs : List Int) (hz : PM n zs) (ho : OB W b zs) => show Calls Tryd.prog 54 #[.slice (some ⟨b, 0, none⟩) n n] W fun e w' => e = .returned (.int .u8 (setN (fallB zs) (n - 1) : Nat)) ∧ Ext W w' from by
    have his := ho.is (by rw [hz.len]; omega)
    rw [hz.len] at his
    have := Starts8_calls _ _ zs W his (by rw [hz.len]; exact hn1) (by rw [hz.len]; exact h8)
    rwa [hz.len] at this
  have HSt := Lib.hid hst; have H0 := Lib.hid h; have HB := Lib.hid hb; have HF := Lib.hid hf; have HNb := Lib.hid hnb; have HLo := Lib.hid hlo
  obtain ⟨a0, c0, rfl⟩ := h.form
  obtain ⟨m0, hm0⟩ : ∃ m0, m0 = bs.length := ⟨_, rfl⟩
  have Hm0 := Lib.hid hm0
  have hlen2 : bs.length ≤ 100000 := by omega
  have HL2 := Lib.hid hlen2
  rw [← hm0] at hlen ⊢
  rw [← hm0] at H0
  clear h hb hf hnb hlo hst hm0 hlen2
  go_enter Tryd.func68, Tryd.ntmps68
  go_wp2_with (at_builtin; refine app_f rfl _ _ rfl wb _ bs ls rfl H0.out b fs HB.out HF.out HNb.out HLo.out w.heap.size rfl rfl HL2.out ?_)
  intro v1 w1 hfl hkeep
  obtain ⟨a1, c1, rfl⟩ := hfl.form
  obtain ⟨M, hM⟩ : ∃ M, M = (bs ++ [b]).length := ⟨_, rfl⟩
  have hMb : M = m0 + 1 := by rw [hM, List.length_append, List.length_singleton, Hm0.out]
  have HM := Lib.hid hM
  rw [← hM] at hfl ⊢
  obtain ⟨bs1, hbs1⟩ : ∃ bs1, bs1 = bs ++ [b] := ⟨_, rfl⟩
  obtain ⟨ls1, hls1⟩ : ∃ ls1, ls1 = ls ++ [fs] := ⟨_, rfl⟩
  rw [← hbs1] at hfl HM; rw [← hls1] at hfl
  have HFl := Lib.hid hfl; have HKp := Lib.hid (show Keep Bo bs1 w w1 from hkeep.sub fun x hx => by (cases hx))
  have HFin := Lib.hid (show ∀ (wr : World) (m : Nat) (bsA k : List Nat) (lsA : List (List Int)) (r : Nat), bs1 = bsA ++ k → FL n wb Bo wr (.slice a1 m c1) bsA lsA → Star Mv (pms n ls1) (pms n lsA ++ ones r) → Keep Bo bs1 w wr → Nf (pms n lsA) → Lst (pms n lsA) → RetPut n wb Bo w bs b ls fs (.returned (.slice a1 m c1)) wr from fun wr m bsA k lsA r e1 e2 e3 e4 e5 e6 => by
    rw [hbs1] at e1 e4; rw [hls1] at e3
    exact ⟨_, bsA, lsA, k, rfl, e2, e1, e4, e5, e6, r, e3⟩)
  have HSpt := Lib.hid hfl.pl.spt
  have hMM : M ≤ 2000 := by omega
  have hM1 : 1 ≤ M := by omega
  clear hfl hkeep hM hbs1 hls1 hMb
  go_wp2
  go_loopw [6, 7] (fun ag _ wr => ∃ (g : Bool) (ls' : List (List Int)), ag = .bool g ∧ Hid (FL n wb Bo wr (.slice a1 M c1) bs1 ls' ∧ Star Mv (pms n ls1) (pms n ls') ∧ Keep Bo bs1 w wr ∧ (g = false → Nf (pms n ls')))) (fun ag _ wr => agB ag * (1 + phiW n wr bs1))
  case atStart => exact ⟨true, ls1, rfl, Lib.hid ⟨HFl.out, .refl _, HKp.out, fun h => by cases h⟩⟩
  case round =>
    obtain ⟨g, ls0, rfl, H⟩ := hrel
    cases g
    case false =>
      have HNf := Lib.hid (H.out.2.2.2 rfl)
      go_wp2
      go_loopw [0] (fun lv wr => ∃ m : Nat, lv = .slice a1 m c1 ∧ m ≤ 2000 ∧ Hid (∃ (bsA k : List Nat) (lsA : List (List Int)) (r : Nat), bs1 = bsA ++ k ∧ m = bsA.length ∧ FL n wb Bo wr (.slice a1 m c1) bsA lsA ∧ Star Mv (pms n ls1) (pms n lsA ++ ones r) ∧ Keep Bo bs1 w wr ∧ Nf (pms n lsA))) (fun lv _ => slN lv)
      case atStart => exact ⟨M, rfl, hMM, Lib.hid ⟨bs1, [], ls0, 0, by simp, HM.out, H.out.1, by rw [show ones 0 = [] from rfl, List.append_nil]; exact H.out.2.1, H.out.2.2.1, HNf.out⟩⟩
      case round =>
        obtain ⟨m, rfl, hm, HA⟩ := hrel
        obtain ⟨bsA, k, lsA, r, e1, e2, hfl, hstar, hkp, hnf⟩ := HA.out
        by_cases h0 : m = 0
        · have hR := HFin.out wr m bsA k lsA r e1 hfl hstar hkp hnf (by
            have : lsA = [] := List.eq_nil_of_length_eq_zero (by rw [← hfl.ob.len]; omega)
            rw [this]; exact Lst.nil)
          have HR := Lib.hid hR
          subst h0
          have t1 : ¬ (0 : Int) < ((0 : Nat) : Int) := by omega
          clear e1 e2 hfl hstar hkp hnf hR
          go_wp2
          go_ret
          exact HR.out
        · obtain ⟨q, rfl⟩ : ∃ q, m = q + 1 := ⟨m - 1, by omega⟩
          obtain ⟨bsB, bl, rfl, hq1⟩ := last_split e2.symm
          obtain ⟨lsB, xl, rfl, hq2⟩ := last_split (l := lsA) (m := q) (by rw [← hfl.ob.len, ← e2])
          obtain ⟨g, rfl, hg, hat⟩ := hfl.at (by simp)
          have hcell := hat q bl (by rw [List.getElem?_append_right (by omega), hq1]; simp)
          have hpx : PM n xl := hfl.pl xl (by simp)
          have hox : OB wr bl xl := (OBs.split (by rw [hq1, hq2]) hfl.ob).2.1
          have hs := HSt.out wr bl xl hpx hox
          have hzero : setN (fallB xl) (n - 1) = 0 → pm n xl = Pm.one := fun hz => hpx.spt.no fun k hk => by
            have hbk := hpx.spt.St hk
            have h1 := setN_zero.1 hz k hbk.1 (by omega)
            have h2 := (hpx.St hbk.1 hbk.2).1 hk
            unfold fallB at h1
            simp only [decide_eq_false_iff_not] at h1
            exact h1 h2
          have hne : setN (fallB xl) (n - 1) ≠ 0 → pm n xl ≠ Pm.one := fun hz e => hz (setN_zero.2 fun k k1 k2 => by
            unfold fallB
            simp only [decide_eq_false_iff_not]
            intro h2
            have := (hpx.St k1 (by omega)).2 h2
            rw [e] at this; exact one_St k this)
          have HCase := Lib.hid (show (setN (fallB xl) (n - 1) = 0 → ∀ w' : World, Ext wr w' → ∃ (bsA k : List Nat) (lsA : List (List Int)) (r : Nat), bs1 = bsA ++ k ∧ q = bsA.length ∧ FL n wb Bo w' (.slice (some ⟨g, 0, none⟩) q c1) bsA lsA ∧ Star Mv (pms n ls1) (pms n lsA ++ ones r) ∧ Keep Bo bs1 w w' ∧ Nf (pms n lsA)) ∧ (setN (fallB xl) (n - 1) ≠ 0 → ∀ w' : World, Ext wr w' → RetPut n wb Bo w bs b ls fs (.returned (.slice (some ⟨g, 0, none⟩) (q + 1) c1)) w') from by
            refine ⟨fun hz w' x => ⟨bsB, [bl] ++ k, lsB, r + 1, by rw [e1, List.append_assoc], hq1.symm, ?_, ?_, hkp.trans (Keep.of_ext x), ?_⟩, fun hz w' x => HFin.out w' (q + 1) _ k _ r e1 (hfl.ext x) hstar (hkp.trans (Keep.of_ext x)) hnf ?_⟩
            · have := (hfl.ext x).drop; rwa [hq1] at this
            · have e : pms n (lsB ++ [xl]) = pms n lsB ++ ones 1 := by unfold pms; rw [List.map_append, List.map_singleton, hzero hz]; rfl
              rw [e, List.append_assoc, ← ones_add, Nat.add_comm 1 r] at hstar
              exact hstar
            · have e : pms n (lsB ++ [xl]) = pms n lsB ++ [pm n xl] := by unfold pms; rw [List.map_append, List.map_singleton]
              rw [e] at hnf; exact hnf.left
            · unfold Lst pms
              rw [List.map_append, List.map_singleton]
              simp only [List.getLast?_append, List.getLast?_singleton, Option.some_or]
              exact fun e => hne hz (Option.some.inj e))
          obtain ⟨S, hS⟩ : ∃ S, S = setN (fallB xl) (n - 1) := ⟨_, rfl⟩
          rw [← hS] at hs HCase
          have HS := Lib.hid hs
          have t1 : (0 : Int) < ((q + 1 : Nat) : Int) := by omega
          have t2 : ((q + 1 : Nat) : Int) - 1 = (q : Int) := by omega
          have w1 : IntKind.i64.wrap (((q + 1 : Nat) : Int) - 1) = (q : Int) := by rw [t2]; exact IntWalk.i64_in _ ⟨by omega, by omega⟩
          have t3 : (0 : Int) ≤ q := by omega
          have t4 : (q : Int) < ((q + 1 : Nat) : Int) := by omega
          have t5 : (q : Int) ≤ ((q + 1 : Nat) : Int) := by omega
          have hcl := hfl.own
          have hqc : q + 1 ≤ c1 := by
            obtain ⟨_, ⟨hv, _⟩ | ⟨g', cap, cur, hv, hB, hc, x1, x2, x3, x4⟩⟩ := hcl
            · cases hv
            · simp only [Value.slice.injEq] at hv; omega
          have t6 : (q : Int) ≤ c1 := by omega
          unfold slc at hcell
          clear e1 e2 hfl hstar hkp hnf hat hpx hox hs hzero hne hS hcl h0 hq1 hq2 HA
          go_wp2_with fail
          refine HS.out.mono ?_
          rintro e w2 ⟨rfl, x2⟩
          have X2 := Lib.hid x2
          clear x2 HS
          by_cases hS0 : S = 0
          · have HN := Lib.hid (HCase.out.1 hS0 _ X2.out)
            subst hS0
            clear hcell
            go_wp2
            go_roundw
            case rel => exact ⟨q, rfl, by omega, HN⟩
            case measure => simp [slN]
          · have HN := Lib.hid (HCase.out.2 hS0 _ X2.out)
            have t7 : ((S : Int) == 0) = false := beq_eq_false_iff_ne.2 (by omega)
            clear hS0 hcell
            go_wp2
            go_ret
            exact HN.out
    case true =>
      have t2 : ((M : Int)) - 1 = ((M - 1 : Nat) : Int) := by omega
      have w1 : IntKind.i64.wrap ((M : Int) - 1) = ((M - 1 : Nat) : Int) := by rw [t2]; exact IntWalk.i64_in _ ⟨by omega, by omega⟩
      have hph := H.out.1.phi
      have Hph := Lib.hid hph
      clear hph
      go_wp2
      obtain ⟨wo, hwo⟩ : ∃ wo, wo = wr := ⟨_, rfl⟩
      subst hwo
      go_loopw [6, 7] (fun ag iv wr => ∃ (g : Bool) (i : Nat) (ls' : List (List Int)), ag = .bool g ∧ iv = .int .i64 i ∧ i < M ∧ Hid (FL n wb Bo wr (.slice a1 M c1) bs1 ls' ∧ Star Mv (pms n ls1) (pms n ls') ∧ Keep Bo bs1 w wr ∧ (g = false → ls' = ls0 ∧ Okp n ls' i) ∧ (g = true → phi n (pms n ls') < phi n (pms n ls0)))) (fun _ iv _ => (intOf iv).toNat)
      case atStart => exact ⟨false, M - 1, ls0, rfl, rfl, by omega, Lib.hid ⟨H.out.1, H.out.2.1, H.out.2.2.1, fun _ => ⟨rfl, fun A x y B e hi => by
        have := H.out.1.ob.len
        rw [e, ← HM.out] at this
        simp only [List.length_append, List.length_cons] at this; omega⟩, fun h => by cases h⟩⟩
      case round =>
        obtain ⟨g, i, ls', rfl, rfl, hi, HI⟩ := hrel
        by_cases h0 : i = 0
        · subst h0
          have t1 : ¬ (0 : Int) < ((0 : Nat) : Int) := by omega
          have hphn := HI.out.1.phi
          have Hphn := Lib.hid hphn
          clear hphn
          go_wp2
          go_roundw
          case rel => exact ⟨g, ls', rfl, Lib.hid ⟨HI.out.1, HI.out.2.1, HI.out.2.2.1, fun hg => (HI.out.2.2.2.1 hg).2.nf⟩⟩
          case measure =>
            rw [Hphn.out, Hph.out]
            cases g with
            | false => show 0 * _ < 1 * _; omega
            | true => have := HI.out.2.2.2.2 rfl; show 1 * _ < 1 * _; omega
        · obtain ⟨j, rfl⟩ : ∃ j, i = j + 1 := ⟨i - 1, by omega⟩
          obtain ⟨A, b1, b2, C, eb, hA⟩ := two_split (l := bs1) (i := j) (by rw [← HM.out]; omega)
          obtain ⟨L, x, y, R, el, hL⟩ := two_split (l := ls') (i := j) (by rw [← HI.out.1.ob.len, ← HM.out]; omega)
          have hfl := HI.out.1
          obtain ⟨gg, rfl, hg, hat⟩ := hfl.at (by rw [eb]; simp)
          have q0_1 := hat j b1 (by rw [eb, List.getElem?_append_right (by omega), hA]; simp)
          have q0_2 := hat (j + 1) b2 (by rw [eb, List.getElem?_append_right (by omega), hA]; simp)
          unfold slc at q0_1 q0_2
          rw [eb, el] at hfl
          have hfl := hfl.ext ((Ext.refl wr).drew)
          have hoo := (OBs.split (by rw [hA, hL]) hfl.ob).2
          have hnd := hfl.nd
          rw [List.nodup_append] at hnd
          have hb12 : b1 ≠ b2 := fun e => by
            have := hnd.2.1
            rw [List.nodup_cons] at this
            exact this.1 (by rw [e]; simp)
          have hmove := Move_calls n b1 b2 x y wr.drew hoo.1 hoo.2.1 hb12 (hfl.pl x (by simp)) (hfl.pl y (by simp)) hn1 h8
          have HMv := Lib.hid hmove
          have HNx := Lib.hid (show ∀ (wn : World) (mv : Bool) (x' y' : List Int), MvS n wr.drew wn b1 b2 x y x' y' mv → (∀ k, (pm n y').St k → (pm n x').En k) → FL n wb Bo wn (.slice (some ⟨gg, 0, none⟩) M c1) bs1 (L ++ x' :: y' :: R) ∧ Star Mv (pms n ls1) (pms n (L ++ x' :: y' :: R)) ∧ Keep Bo bs1 w wn ∧ ((g || mv) = false → L ++ x' :: y' :: R = ls0 ∧ Okp n (L ++ x' :: y' :: R) j) ∧ ((g || mv) = true → phi n (pms n (L ++ x' :: y' :: R)) < phi n (pms n ls0)) from fun wn mv x' y' hm hok => by
            obtain ⟨f1, f2⟩ := FL.move (by rw [hA, hL]) hfl hm
            rw [← eb] at f1
            have hstar := HI.out.2.1
            rw [el] at hstar
            refine ⟨f1, hstar.trans f2, (HI.out.2.2.1.trans (Keep.of_ext (b := wr.drew) ((Ext.refl wr).drew))).trans (Keep.of_move hm.bt (by rw [eb]; simp) (by rw [eb]; simp)), fun hg => ?_, fun hg => ?_⟩
            · rw [Bool.or_eq_false_iff] at hg
              obtain ⟨e1, e2⟩ := hm.no hg.2
              obtain ⟨h1, h2⟩ := HI.out.2.2.2.1 hg.1
              rw [e1, e2] at hok ⊢
              rw [el] at h1 h2
              exact ⟨h1, h2.step hL hok⟩
            · have hspt : SptL n (pms n (L ++ x :: y :: R)) := hfl.pl.spt
              have hle := phi_star h8 hspt f2
              cases hgc : g with
              | true =>
                have := HI.out.2.2.2.2 hgc
                rw [el] at this
                rcases hle with e | e
                · rw [← e]; exact this
                · exact Nat.lt_trans e this
              | false =>
                obtain ⟨h1, _⟩ := HI.out.2.2.2.1 hgc
                rw [el] at h1
                rw [← h1]
                rcases hle with e | e
                · exfalso
                  have hm1 : mv = true := by rw [hgc] at hg; simpa using hg
                  have hy := hm.yes hm1
                  unfold pms at e
                  simp only [List.map_append, List.map_cons] at e
                  have e2 := List.append_cancel_left e
                  simp only [List.cons.injEq, and_true] at e2
                  rw [e2.1, e2.2] at hy
                  exact Nat.lt_irrefl _ hy
                · exact e)
          have HAt := Lib.hid (show ∀ (wn : World) (l2 : List (List Int)), FL n wb Bo wn (.slice (some ⟨gg, 0, none⟩) M c1) bs1 l2 → wn.cell? ⟨gg, j, none⟩ = some (.slice (some ⟨b1, 0, none⟩) n n) ∧ wn.cell? ⟨gg, j + 1, none⟩ = some (.slice (some ⟨b2, 0, none⟩) n n) from fun wn l2 hf2 => by
            obtain ⟨g3, e3, _, hat3⟩ := hf2.at (by rw [eb]; simp)
            obtain rfl : gg = g3 := by simpa using e3
            have r1 := hat3 j b1 (by rw [eb, List.getElem?_append_right (by omega), hA]; simp)
            have r2 := hat3 (j + 1) b2 (by rw [eb, List.getElem?_append_right (by omega), hA]; simp)
            exact ⟨r1, r2⟩)
          have t1 : (0 : Int) < ((j + 1 : Nat) : Int) := by omega
          have t2 : ((j + 1 : Nat) : Int) - 1 = (j : Int) := by omega
          have w2 : IntKind.i64.wrap (((j + 1 : Nat) : Int) - 1) = (j : Int) := by rw [t2]; exact IntWalk.i64_in _ ⟨by omega, by omega⟩
          have w3 : IntKind.i64.wrap (j : Int) = (j : Int) := IntWalk.i64_in _ ⟨by omega, by omega⟩
          have t3 : (0 : Int) ≤ j := by omega
          have t4 : (j : Int) < M := by omega
          have t5 : (j : Int) + 1 < M := by omega
          have t6 : (0 : Int) ≤ (j : Int) + 1 := by omega
          have hjM : j < M := by omega
          clear hat hfl hoo hnd hb12 hmove eb el h0 hA hL
          go_wp2
          refine wp_region_held_drew (S := fun w' => w'.cell? ⟨gg, j, Option.none⟩ = some (.slice (some ⟨b1, 0, none⟩) n n) ∧ w'.cell? ⟨gg, j + 1, Option.none⟩ = some (.slice (some ⟨b2, 0, none⟩) n n)) (by kernel_rfl) ?_ (fun hHeld => ?_)
          · exact ⟨q0_1, q0_2⟩
          refine wpAnyH_take (i := 0) (v := ?va248_0) rfl (by kernel_rfl) (by kernel_rfl) (by kernel_rfl) (fun _ _ _ h => h) (Or.inl ⟨by rfl, fun w hSw => ?ti248_0⟩) (by assumption) ?rest248_0
          case ti248_0 => ((try dsimp only at hSw); go_simp; (first | done | with_reducible rfl))
          try simp only [Act.put, List.getElem_toArray, List.getElem_cons_zero, List.getElem_cons_succ, List.setIfInBounds_toArray, List.set_cons_zero, List.set_cons_succ]
          refine wpAnyH_take (i := 1) (v := ?va251_1) rfl (by kernel_rfl) (by kernel_rfl) (by kernel_rfl) (fun _ _ _ h => h) (Or.inl ⟨by rfl, fun w hSw => ?ti251_1⟩) (by assumption) ?rest251_1
          case ti251_1 => ((try dsimp only at hSw); go_simp; (first | done | with_reducible rfl))
          try simp only [Act.put, List.getElem_toArray, List.getElem_cons_zero, List.getElem_cons_succ, List.setIfInBounds_toArray, List.set_cons_zero, List.set_cons_succ]
          refine wpAnyH_take (i := 2) (v := ?va254_2) rfl (by kernel_rfl) (by kernel_rfl) (by kernel_rfl) (fun _ _ _ h => h) (Or.inl ⟨by rfl, fun w hSw => ?ti254_2⟩) (by assumption) ?rest254_2
          case ti254_2 => ((try dsimp only at hSw); go_simp; (first | done | with_reducible rfl))
          try simp only [Act.put, List.getElem_toArray, List.getElem_cons_zero, List.getElem_cons_succ, List.setIfInBounds_toArray, List.set_cons_zero, List.set_cons_succ]
          refine wpAnyH_take (i := 3) (v := ?va257_3) rfl (by kernel_rfl) (by kernel_rfl) (by kernel_rfl) (fun _ _ _ h => h) (Or.inl ⟨by rfl, fun w hSw => ?ti257_3⟩) (by assumption) ?rest257_3
          case ti257_3 => ((try dsimp only at hSw); go_simp; (first | done | with_reducible rfl))
          try simp only [Act.put, List.getElem_toArray, List.getElem_cons_zero, List.getElem_cons_succ, List.setIfInBounds_toArray, List.set_cons_zero, List.set_cons_succ]
          refine wpAnyH_take (i := 4) (v := ?va260_4) rfl (by kernel_rfl) (by kernel_rfl) (by kernel_rfl) (fun _ _ _ h => h) (Or.inl ⟨by rfl, fun w hSw => ?ti260_4⟩) (by assumption) ?rest260_4
          case ti260_4 => ((try dsimp only at hSw); go_simp; (first | done | with_reducible rfl))
          try simp only [Act.put, List.getElem_toArray, List.getElem_cons_zero, List.getElem_cons_succ, List.setIfInBounds_toArray, List.set_cons_zero, List.set_cons_succ]
          refine wpAnyH_take (i := 5) (v := ?va263_5) rfl (by kernel_rfl) (by kernel_rfl) (by kernel_rfl) (fun _ _ _ h => h) (Or.inl ⟨by rfl, fun w hSw => ?ti263_5⟩) (by assumption) ?rest263_5
          case ti263_5 => ((try dsimp only at hSw); go_simp; (first | done | with_reducible rfl))
          try simp only [Act.put, List.getElem_toArray, List.getElem_cons_zero, List.getElem_cons_succ, List.setIfInBounds_toArray, List.set_cons_zero, List.set_cons_succ]
          refine wpAnyH_take (i := 6) (v := ?va266_6) rfl (by kernel_rfl) (by kernel_rfl) (by kernel_rfl) (fun _ _ _ h => h) (Or.inl ⟨by rfl, fun w hSw => ?ti266_6⟩) (by assumption) ?rest266_6
          case ti266_6 => ((try dsimp only at hSw); go_simp; (first | done | with_reducible rfl))
          try simp only [Act.put, List.getElem_toArray, List.getElem_cons_zero, List.getElem_cons_succ, List.setIfInBounds_toArray, List.set_cons_zero, List.set_cons_succ]
          refine wpAnyH_take (i := 7) (v := ?va269_7) rfl (by kernel_rfl) (by kernel_rfl) (by kernel_rfl) (fun _ _ _ h => h) (Or.inl ⟨by rfl, fun w hSw => ?ti269_7⟩) (by assumption) ?rest269_7
          case ti269_7 => ((try dsimp only at hSw); go_simp; (first | done | with_reducible rfl))
          try simp only [Act.put, List.getElem_toArray, List.getElem_cons_zero, List.getElem_cons_succ, List.setIfInBounds_toArray, List.set_cons_zero, List.set_cons_succ]
          refine wpAnyH_take (i := 8) (v := ?va272_8) rfl (by kernel_rfl) (by kernel_rfl) (by kernel_rfl) (fun _ _ _ h => h) (Or.inl ⟨by rfl, fun w hSw => ?ti272_8⟩) (by assumption) ?rest272_8
          case ti272_8 => ((try dsimp only at hSw); go_simp; (first | done | with_reducible rfl))
          try simp only [Act.put, List.getElem_toArray, List.getElem_cons_zero, List.getElem_cons_succ, List.setIfInBounds_toArray, List.set_cons_zero, List.set_cons_succ]
          refine wpAnyH_take (i := 9) (v := ?va275_9) rfl (by kernel_rfl) (by kernel_rfl) (by kernel_rfl) (fun _ _ _ h => h) (Or.inl ⟨by rfl, fun w hSw => ?ti275_9⟩) (by assumption) ?rest275_9
          case ti275_9 => ((try dsimp only at hSw); go_simp; (first | done | with_reducible rfl))
          try simp only [Act.put, List.getElem_toArray, List.getElem_cons_zero, List.getElem_cons_succ, List.setIfInBounds_toArray, List.set_cons_zero, List.set_cons_succ]
          refine wpAnyH_ready (rs := [10]) (by kernel_rfl) (by simp) ?_
          refine AllReadyH.cons rfl (fun K hK => ?_) AllReadyH.nil
          go_simp
          refine HMv.out.mono ?_
          intro e wn hh
          obtain ⟨mv, x', y', rfl, hm, hok⟩ := hh
          have HN := Lib.hid (HNx.out wn mv x' y' hm hok)
          have hcells := HAt.out wn _ HN.out.1
          clear hm hok
          go_simp
          refine hK.out _ _ ?_ (fun hHeld => ?_)
          · exact hcells
          clear hK K hcells
          try simp only [Act.put, List.getElem_toArray, List.getElem_cons_zero, List.getElem_cons_succ, List.setIfInBounds_toArray, List.set_cons_zero, List.set_cons_succ]
          refine wpAnyH_done (by kernel_rfl) ?_ _
          clear q0_1 q0_2
          cases mv
          · rw [Bool.or_false] at HN
            go_wp2
            go_roundw
            case rel => exact ⟨g, j, _, rfl, by go_num, hjM, HN⟩
            case measure => simp [intOf]
          · rw [Bool.or_true] at HN
            go_wp2
            go_roundw
            case rel => exact ⟨true, j, _, rfl, by go_num, hjM, HN⟩
            case measure => simp [intOf]
end Go.Proofs.YtigffblelngpjaaDoor
/- Contract of normals.list[[]uint8] with the closure of gather. -/
namespace Go.Proofs.YtigffblelngpjaaDoor
set_option linter.unusedVariables false
set_option linter.unusedSimpArgs false
set_option maxRecDepth 8000
open Go Go.RowKit

/-- Slices of blocks that hold the lists lie from place o on. -/
structure SR (n : Nat) (w : World) (g o m : Nat) (bs : List Nat) (ls : List (List Int)) : Prop where
  len : bs.length = m
  at_ : ∀ i b, bs[i]? = some b → w.cell? ⟨g, o + i, none⟩ = some (slc n b)
  ob : OBs w bs ls
  pl : PML n ls
theorem SR.ext {n : Nat} {w w' : World} {g o m : Nat} {bs : List Nat} {ls : List (List Int)} (h : SR n w g o m bs ls) (x : Ext w w') : SR n w' g o m bs ls :=
  ⟨h.len, fun i b hi => x.cell (h.at_ i b hi), h.ob.map fun b _ y hy => hy.ext x, h.pl⟩
theorem OBs.at {w : World} : ∀ {bs : List Nat} {ls : List (List Int)} {i b : Nat}, OBs w bs ls → bs[i]? = some b → OB w b (ri ls i)
  | [], _, i, b, _, h => by simp at h
  | c :: bs, x :: ls, 0, b, h, e => by
    obtain rfl : c = b := by simpa using e
    exact h.1
  | c :: bs, x :: ls, i + 1, b, h, e => by
    have := OBs.at h.2 (i := i) (b := b) (by simpa using e)
    simpa [ri] using this
  | _ :: _, [], _, _, h, _ => h.elim
theorem Gather1_calls (n : Nat) (B g o m c i b : Nat) (w : World) (hi : i < m) (hB : w.cell? ⟨B, 0, none⟩ = some (.slice (some ⟨g, o, none⟩) m c)) (hc : w.cell? ⟨g, o + i, none⟩ = some (slc n b)) :
    Calls Tryd.prog 69 #[.int .i64 i, .pointer (some ⟨B, 0, none⟩)] w fun e w' => e = .returned (slc n b) ∧ w' = w := by
  unfold slc at hc ⊢
  have t1 : (i : Int) < m := by omega
  have t2 : (0 : Int) ≤ i := by omega
  go_enter Tryd.func69, Tryd.ntmps69
  go_wp2
  go_ret
  exact ⟨rfl, rfl⟩
theorem SR.isx {n : Nat} {w : World} {g m : Nat} {bs : List Nat} {ls : List (List Int)} (h : SR n w g 0 m bs ls) (hm : m ≤ 1000) (h8 : n ≤ 8) : ISX .u8 w (.slice (some ⟨g, 0, none⟩) m m) m ls := by
  have hll : ls.length = m := by rw [← h.ob.len, h.len]
  have hb : ∀ i, i < m → bs[i]? = some (bs.getD i 0) := fun i hi => by
    rw [List.getElem?_eq_getElem (by rw [h.len]; exact hi)]; simp [List.getD, h.len, hi]
  refine ⟨fun i => slc n (bs.getD i 0), ISV.mk' hll.symm (Nat.le_refl _) (by unfold maxLen; omega) (fun i hi => h.at_ i _ (hb i hi)) fun i hi => ?_⟩
  have hpm : PM n (ri ls i) := h.pl _ (by
    unfold ri
    rw [List.getD_eq_getElem?_getD, List.getElem?_eq_getElem (by rw [hll]; exact hi)]
    exact List.getElem_mem _)
  have his := (h.ob.at (hb i hi)).is (by rw [hpm.len]; omega)
  unfold slc
  have hl := hpm.len
  rw [hl] at his ⊢
  exact his
set_option maxHeartbeats 2000000 in
theorem list_gather (n : Nat) (B g o m c : Nat) (bs : List Nat) (ls : List (List Int)) (w : World) (ad : Option Addr) (hm : m ≤ 1000) (h8 : n ≤ 8) (hs : SR n w g o m bs ls) (hB : w.cell? ⟨B, 0, none⟩ = some (.slice ad m c)) (had : 0 < m → ad = some ⟨g, o, none⟩) :
    Calls Tryd.prog 45 #[.int .i64 m, .func (Fn.func 69) #[] #[.pointer (some ⟨B, 0, none⟩)]] w fun e w' => ∃ g', e = .returned (.slice (some ⟨g', 0, none⟩) m m) ∧ SR n w' g' 0 m bs ls ∧ w.heap.size ≤ g' ∧ Ext w w' := by
  have hll : ls.length = m := by rw [← hs.ob.len, hs.len]
  have hfin : ∀ wr f, Ext w wr → wr.rowIs w.heap.size 22 m f → (∀ i, i < m → f i = slc n (bs.getD i 0)) → ∃ g', Ending.returned (.slice (some ⟨w.heap.size, 0, none⟩) m m) = .returned (.slice (some ⟨g', 0, none⟩) m m) ∧ SR n wr g' 0 m bs ls ∧ w.heap.size ≤ g' ∧ Ext w wr := fun wr f x hr hf => by
    refine ⟨w.heap.size, rfl, ⟨hs.len, fun i b hi => ?_, hs.ob.map fun b _ y hy => hy.ext x, hs.pl⟩, Nat.le_refl _, x⟩
    have hlt : i < m := by rw [← hs.len]; exact (List.getElem?_eq_some_iff.1 hi).1
    rw [Nat.zero_add, hr.cell hlt, hf i hlt]
    simp [List.getD, hi]
  have HF := Lib.hid hfin; have HS := Lib.hid hs; have HB := Lib.hid (fun (h : 0 < m) => show w.cell? ⟨B, 0, none⟩ = some (.slice (some ⟨g, o, none⟩) m c) from by rw [← had h]; exact hB)
  have HBl := Lib.hid hs.len
  have hmk : ∀ w' : World, (Instr.makeSlice 28 (.int .i64 (m : Int)) (.int .i64 (m : Int))).run Tryd.prog w' = .ok (.slice (some ⟨w'.heap.size, 0, none⟩) m m) (w'.alloc (.cells (madeCells #[.slice none 0 0] m) 22)) := fun w' => run_make_lc (P := Tryd.prog) eiFs .i64 .i64 m m (by omega) (by omega) (by omega) w'
  clear hfin hs hB hll had
  go_enter Tryd.func45, Tryd.ntmps45
  go_wp2
  go_loopw [6, 11] (fun _ i wr => ∃ k : Nat, k ≤ m ∧ i = .int .i64 k ∧ Hid (Ext w wr ∧ ∃ f, wr.rowIs w.heap.size 22 m f ∧ (∀ i, i < k → f i = slc n (bs.getD i 0)) ∧ ∀ i, i < m → ∃ a b c, f i = .slice a b c)) (fun _ i _ => m - (intOf i).toNat)
  case atStart => exact ⟨0, Nat.zero_le _, rfl, Lib.hid ⟨(Ext.refl w).alloc _, fun _ => .slice none 0 0, World.rowIs_made _ _ _ _, fun i h1 => by omega, fun i _ => ⟨_, _, _, rfl⟩⟩⟩
  case round =>
    obtain ⟨k, hk, rfl, H⟩ := hrel
    by_cases hlt : k < m
    · have t1 : (k : Int) < m := by omega
      have t1' : (0 : Int) ≤ k := by omega
      obtain ⟨f, hrow, hf, hsl⟩ := H.out.2
      have HX := Lib.hid H.out.1
      have hbk : bs[k]? = some (bs.getD k 0) := by
        have := HBl.out
        rw [List.getElem?_eq_getElem (by omega)]; simp [List.getD, this, hlt]
      have hcall := Gather1_calls n B g o m c k (bs.getD k 0) wr hlt (HX.out.cell (HB.out (by omega))) (HX.out.cell (HS.out.at_ k _ hbk))
      obtain ⟨bk, hbk2⟩ : ∃ bk, bk = bs.getD k 0 := ⟨_, rfl⟩
      rw [← hbk2] at hcall
      have HC := Lib.hid hcall
      obtain ⟨za, zb, zc, hz⟩ := hsl k hlt
      have hst := hrow.cell (i := k) hlt
      have hfz := hrow.frozen k
      rw [hz] at hst
      have HN := Lib.hid (show Ext w (wr.setCell ⟨w.heap.size, k, none⟩ (slc n bk)) ∧ ∃ f, (wr.setCell ⟨w.heap.size, k, none⟩ (slc n bk)).rowIs w.heap.size 22 m f ∧ (∀ i, i < k + 1 → f i = slc n (bs.getD i 0)) ∧ ∀ i, i < m → ∃ a b c, f i = .slice a b c from
        ⟨HX.out.setCell (Nat.le_refl _) _, _, hrow.set _ _, fun i h1 => by
          by_cases e : i = k
          · rw [e]; simp only [if_true]; rw [hbk2]
          · simp only [if_neg e]; exact hf i (by omega), fun i h1 => by
          by_cases e : i = k
          · rw [e]; simp only [if_true]; unfold slc; exact ⟨_, _, _, rfl⟩
          · simp only [if_neg e]; exact hsl i h1⟩)
      unfold slc at HC HN
      clear hrow hf hsl hbk hcall hbk2 hz
      go_wp2_with fail
      refine HC.out.mono ?_
      rintro e w1 ⟨rfl, rfl⟩
      go_wp2
      go_roundw
      case rel => exact ⟨k + 1, by omega, by go_num, HN⟩
      case measure => simp [intOf]; omega
    · obtain rfl : k = m := by omega
      have t1 : ¬ (k : Int) < k := by omega
      obtain ⟨f, hrow, hf, _⟩ := H.out.2
      have HR := Lib.hid (HF.out wr f H.out.1 hrow hf)
      clear hrow hf
      go_wp2
      go_ret
      exact HR.out
end Go.Proofs.YtigffblelngpjaaDoor
/- normals.gather: what is kept in its loops. -/
namespace Go.Proofs.YtigffblelngpjaaDoor
set_option linter.unusedVariables false
set_option linter.unusedSimpArgs false
set_option maxRecDepth 8000
open Go Go.RowKit

/-- All pairs cross: the half twist. -/
theorem Spt.all {n : Nat} {p : Pm} (h : Spt n p) (hs : ∀ k, 1 ≤ k → k < n → p.St k) : p = Pm.dl n := by
  have hq : Spt n (p.mul (Pm.dl n)) := h.mul (Spt.dl n)
  have hno := hq.no fun k hk => by
    obtain ⟨k1, k2⟩ := hq.St hk
    have hst := hs k k1 k2
    unfold Pm.St at hk hst
    have hk' : dlf n (p.f (k + 1)) < dlf n (p.f k) := hk
    have a := h.in k1 (by omega : k ≤ n); have b := h.in (show 1 ≤ k + 1 by omega) (by omega : k + 1 ≤ n)
    rw [dlf_in a.1 a.2, dlf_in b.1 b.2] at hk'; omega
  have : (p.mul (Pm.dl n)).mul (Pm.dl n) = Pm.dl n := by rw [hno, Pm.one_mul]
  rwa [Pm.mul_assoc, Pm.dl_dl, Pm.mul_one] at this
theorem dl_all {n : Nat} {xs : List Int} (hx : PM n xs) (hn : 1 ≤ n) : setN (fallB xs) (n - 1) = setN (fun _ => true) (n - 1) ↔ pm n xs = Pm.dl n := by
  constructor
  · intro h
    have h2 := setN_all.1 h
    refine hx.spt.all fun k k1 k2 => (hx.St k1 k2).2 ?_
    have := h2 k k1 (by omega)
    unfold fallB at this
    simpa using this
  · intro h
    refine setN_all.2 fun k k1 k2 => ?_
    have hst : (pm n xs).St k := by
      rw [h]; show dlf n (k + 1) < dlf n k
      rw [dlf_in (by omega) (by omega), dlf_in k1 (by omega)]; omega
    have := (hx.St k1 (by omega)).1 hst
    unfold fallB
    simpa using this
theorem OB.set {w : World} {b q o : Nat} {xs : List Int} {cs : Array Value} {t : TypeId} {z : Nat × Nat} (h : OB w b xs) (hb : w.heap[q]? = some (.cells cs t z)) (ht : t ≠ 5) (u : Value) : OB (w.setCell ⟨q, o, none⟩ u) b xs := by
  obtain ⟨c, h1, h2⟩ := h
  refine ⟨c, ?_, h2⟩
  rw [Deep.blk_setCell_other _ _ _ _ (fun e => ?_)]
  · exact h1
  · have e' : b = q := e
    rw [← e', h1] at hb
    simp only [Option.some.injEq, Obj.cells.injEq] at hb
    exact ht hb.2.1.symm
theorem FL.setB {n Bo : Nat} {wb wr : World} {v : Value} {bs : List Nat} {ls : List (List Int)} (h : FL n wb Bo wr v bs ls) {q o : Nat} {cs : Array Value} {t : TypeId} {z : Nat × Nat} (hb : wr.heap[q]? = some (.cells cs t z)) (t1 : t ≠ 5) (t2 : t ≠ 22) (hq : wb.heap.size ≤ q) (u : Value) : FL n wb Bo (wr.setCell ⟨q, o, none⟩ u) v bs ls :=
  ⟨h.x.setCell hq _, h.lb, by simpa [World.setCell] using h.hb, own_setOther h.own (own_ne h.own hb t2), h.ob.map fun b _ y hy => hy.set hb t1 u, h.nd, h.lo, h.pl⟩
theorem Keep.setB {Bo : Nat} {bs : List Nat} {w0 wr : World} (h : Keep Bo bs w0 wr) {q o : Nat} {cs : Array Value} {t : TypeId} {z : Nat × Nat} (hb : wr.heap[q]? = some (.cells cs t z)) (t1 : t ≠ 5) (u : Value) : w0.heap.size ≤ (wr.setCell ⟨q, o, none⟩ u).heap.size ∧ (∀ r zs, r ∉ bs → OB w0 r zs → OB (wr.setCell ⟨q, o, none⟩ u) r zs) ∧ ∀ r, r ≠ q → r < Bo → r < w0.heap.size → r ∉ bs → (wr.setCell ⟨q, o, none⟩ u).heap[r]? = w0.heap[r]? :=
  ⟨by simpa [World.setCell] using h.1, fun r zs hr ho => (h.2.1 r zs hr ho).set hb t1 u, fun r hr h1 h2 h3 => by rw [Deep.blk_setCell_other _ _ _ _ hr]; exact h.2.2 r h1 h2 h3⟩
/-- The first loop of gather: k factors are put; B holds the list, R the result. -/
structure GS (n : Nat) (wb w0 : World) (R B : Nat) (bsf : List Nat) (lsf : List (List Int)) (k : Nat) (a : Option Addr) (m c : Nat) (bsl : List Nat) (lsl : List (List Int)) (wr : World) : Prop where
  fl : FL n wb w0.heap.size wr (.slice a m c) bsl lsl
  ml : m = bsl.length
  bb : wr.heap[B]? = some (.cells #[.slice a m c] 28 (0, 0))
  rb : wr.heap[R]? = some (.cells #[.int .i64 0, .int .i64 0, .slice Option.none 0 0] 30 (0, 0))
  sub : ∀ b ∈ bsl, b ∈ bsf.take k
  le : bsl.length ≤ k
  eq : Eq' n (pms n (lsf.take k)) (pms n lsl)
  nf : Nf (pms n lsl)
  lst : Lst (pms n lsl)
  sz : w0.heap.size ≤ wr.heap.size
  k1 : ∀ q zs, q ∉ bsf.take k → OB w0 q zs → OB wr q zs
  k2 : ∀ q, q ≠ B → q < w0.heap.size → q ∉ bsf.take k → wr.heap[q]? = w0.heap[q]?
theorem take_succ_map {α β : Type} (f : α → β) {l : List α} {k : Nat} {x : α} (h : l[k]? = some x) : (l.take (k + 1)).map f = (l.take k).map f ++ [f x] := by
  rw [List.take_add_one, h]; simp
/-- One more factor is put, and the list stored. -/
theorem GS.next {n : Nat} {wb w0 wr w' : World} {R B k : Nat} {bsf : List Nat} {lsf : List (List Int)} {a a' : Option Addr} {m c m' c' : Nat} {bsl bs' k' : List Nat} {lsl ls' : List (List Int)} {b : Nat} {fs : List Int} {r : Nat}
    (h : GS n wb w0 R B bsf lsf k a m c bsl lsl wr) (hbk : bsf[k]? = some b) (hfk : lsf[k]? = some fs) (hf : PM n fs) (hB : B < w0.heap.size) (hR : R < w0.heap.size) (hRB : R ≠ B) (hlb : wb.heap.size ≤ B) (hBn : ∀ q ∈ bsf, q ≠ B) (hRn : ∀ q ∈ bsf, q ≠ R)
    (hfl : FL n wb w0.heap.size w' (.slice a' m' c') bs' ls') (hm : m' = bs'.length) (he : bsl ++ [b] = bs' ++ k') (hk : Keep w0.heap.size (bsl ++ [b]) wr w') (hn : Nf (pms n ls')) (hl : Lst (pms n ls')) (hs : Star Mv (pms n (lsl ++ [fs])) (pms n ls' ++ ones r)) (hpl : PML n (lsf.take k)) :
    w'.heap[B]? = some (.cells #[.slice a m c] 28 (0, 0)) ∧ GS n wb w0 R B bsf lsf (k + 1) a' m' c' bs' ls' (w'.setCell ⟨B, 0, none⟩ (.slice a' m' c')) := by
  have hbs : ∀ q ∈ bsl ++ [b], q ∈ bsf.take (k + 1) := fun q hq => by
    rw [List.take_add_one, hbk]
    rcases List.mem_append.1 hq with hq | hq
    · exact List.mem_append_left _ (h.sub q hq)
    · exact List.mem_append_right _ (by simpa using hq)
  have hin : ∀ q ∈ bsl ++ [b], q ∈ bsf := fun q hq => List.mem_of_mem_take (hbs q hq)
  have hB' : w'.heap[B]? = some (.cells #[.slice a m c] 28 (0, 0)) := by
    rw [hk.2.2 B hB (Nat.lt_of_lt_of_le hB h.sz) (fun e => hBn B (hin B e) rfl)]; exact h.bb
  have hR' : w'.heap[R]? = some (.cells #[.int .i64 0, .int .i64 0, .slice Option.none 0 0] 30 (0, 0)) := by
    rw [hk.2.2 R hR (Nat.lt_of_lt_of_le hR h.sz) (fun e => hRn R (hin R e) rfl)]; exact h.rb
  have hset : (w'.setCell ⟨B, 0, none⟩ (.slice a' m' c')).heap[B]? = some (.cells #[.slice a' m' c'] 28 (0, 0)) := by
    have hlt : B < w'.heap.size := (Array.getElem?_eq_some_iff.1 hB').1
    have h' : w'.heap[B] = .cells #[.slice a m c] 28 (0, 0) := by simpa [Array.getElem?_eq_getElem hlt] using hB'
    simp [World.setCell, hlt, Array.getElem_modify, h']
  refine ⟨hB', ⟨hfl.setB hB' (by decide) (by decide) hlb _, hm, hset, ?_, fun q hq => hbs q (by rw [he]; exact List.mem_append_left _ hq), ?_, ?_, hn, hl, ?_, ?_, ?_⟩⟩
  · rw [Deep.blk_setCell_other _ _ _ _ (show R ≠ B from hRB)]; exact hR'
  · have := congrArg List.length he
    simp only [List.length_append, List.length_singleton] at this
    have := h.le; omega
  · have e1 : pms n (lsf.take (k + 1)) = pms n (lsf.take k) ++ [pm n fs] := take_succ_map (pm n) hfk
    rw [e1]
    have e2 := h.eq.app (SptL.one hf.spt)
    have e3 : pms n (lsl ++ [fs]) = pms n lsl ++ [pm n fs] := by unfold pms; simp
    rw [e3] at hs
    exact e2.trans ((Eq'.of_star (h.fl.pl.spt.app (SptL.one hf.spt)) hs).trans (Eq'.drop_ones hfl.pl.spt r))
  · simpa [World.setCell] using Nat.le_trans h.sz hk.1
  · intro q zs hq ho
    refine (hk.2.1 q zs (fun e => hq (hbs q e)) (h.k1 q zs (fun e => hq ?_) ho)).set hB' (by decide) _
    rw [List.take_add_one]; exact List.mem_append_left _ e
  · intro q hq h1 h2
    rw [Deep.blk_setCell_other _ _ _ _ hq, hk.2.2 q h1 (Nat.lt_of_lt_of_le h1 h.sz) (fun e => h2 (hbs q e))]
    exact h.k2 q hq h1 (fun e => h2 (by rw [List.take_add_one]; exact List.mem_append_left _ e))
end Go.Proofs.YtigffblelngpjaaDoor
/- What gather has at its end. -/
namespace Go.Proofs.YtigffblelngpjaaDoor
set_option linter.unusedVariables false
set_option linter.unusedSimpArgs false
set_option maxRecDepth 8000
open Go Go.RowKit

theorem ri_get {ls : List (List Int)} {i : Nat} (h : i < ls.length) : ri ls i = ls[i] := by
  unfold ri; rw [List.getD_eq_getElem?_getD, List.getElem?_eq_getElem h]; rfl
theorem fin_plain {n q : Nat} {p : Int} {lsf lsl : List (List Int)} (hp : PML n lsl) (e : Eq' n (pms n lsf) (pms n lsl)) (nf : Nf (pms n lsl)) (lst : Lst (pms n lsl)) (hq : q ≤ lsl.length) (hd : ∀ i, i < q → pm n (ri lsl i) = Pm.dl n) (hx : q = lsl.length ∨ pm n (ri lsl q) ≠ Pm.dl n) :
    Can n (p + q, pms n (lsl.drop q)) ∧ Qv n (p, pms n lsf) (p + q, pms n (lsl.drop q)) := by
  have hsplit : pms n lsl = reps n q ++ pms n (lsl.drop q) := by
    have h1 : pms n (lsl.take q) = reps n q := by
      unfold reps
      rw [List.eq_replicate_iff]
      refine ⟨by unfold pms; simp; omega, fun b hb => ?_⟩
      obtain ⟨x, hx, rfl⟩ := List.mem_map.1 hb
      obtain ⟨i, hi, rfl⟩ := List.mem_take_iff_getElem.1 hx
      rw [← hd i (by omega), ri_get (by omega)]
    rw [← h1]
    unfold pms
    rw [← List.map_append, List.take_append_drop]
  rw [hsplit] at nf lst e
  refine ⟨⟨PML.spt fun z hz => hp z (List.mem_of_mem_drop hz), nf.right, lst.right, ?_⟩, 0, q, by simp, e⟩
  show (pms n (lsl.drop q)).head? ≠ some (Pm.dl n)
  rcases hx with hx | hx
  · rw [List.drop_eq_nil_of_le (by omega)]; simp [pms]
  · rcases Nat.lt_or_ge q lsl.length with h | h
    · rw [List.drop_eq_getElem_cons h]
      rw [ri_get h] at hx
      exact fun e => hx (Option.some.inj e)
    · rw [List.drop_eq_nil_of_le h]; simp [pms]
/-- The slices from place q on. -/
theorem GS.sr {n : Nat} {wb w0 wo w3 : World} {R B k q gl : Nat} {bsf : List Nat} {lsf : List (List Int)} {m c : Nat} {bsl : List Nat} {lsl : List (List Int)} (h : GS n wb w0 R B bsf lsf k (some ⟨gl, 0, none⟩) m c bsl lsl wo) (h0 : bsl ≠ []) (x : Ext wo w3) (hq : q ≤ m) (u : Value) :
    SR n (w3.setCell ⟨B, 0, none⟩ u) gl q (m - q) (bsl.drop q) (lsl.drop q) := by
  have hB := x.block h.bb
  obtain ⟨g', e', _, hat⟩ := h.fl.at h0
  obtain rfl : gl = g' := by simpa using e'
  have hne : gl ≠ B := fun e => by
    obtain ⟨_, ⟨hv, _⟩ | ⟨g', cap, cur, hv, hB', hc', _⟩⟩ := h.fl.own
    · cases hv
    · simp only [Value.slice.injEq, Option.some.injEq, Addr.mk.injEq, and_true] at hv
      have hb := h.bb
      rw [← e, hv.1, hc'] at hb
      simp only [Option.some.injEq, Obj.cells.injEq] at hb
      exact absurd hb.2.1 (by decide)
  have hl : bsl.length = lsl.length := h.fl.ob.len
  refine ⟨by rw [List.length_drop, ← h.ml], fun i b hi => ?_, ?_, fun z hz => h.fl.pl z (List.mem_of_mem_drop hz)⟩
  · rw [List.getElem?_drop] at hi
    have h1 := x.cell (hat (q + i) b hi)
    simp only [World.cell?] at h1 ⊢
    rw [Deep.blk_setCell_other _ _ _ _ (show gl ≠ B from hne)]
    exact h1
  · have := h.fl.ob
    rw [← List.take_append_drop q bsl, ← List.take_append_drop q lsl] at this
    exact ((OBs.split (by simp [hl]) this).2.map fun b _ y hy => hy.ext x).map fun b _ y hy => hy.set hB (by decide) u
/-- A block of three cells. -/
def B3 (w : World) (b : Nat) (x y z : Value) (t : TypeId) : Prop := w.heap[b]? = some (.cells #[x, y, z] t (0, 0))
theorem B3.c0 {w : World} {b : Nat} {x y z : Value} {t : TypeId} (h : B3 w b x y z t) : w.cell? ⟨b, 0, none⟩ = some x := by unfold B3 at h; simp [World.cell?, h]
theorem B3.c1 {w : World} {b : Nat} {x y z : Value} {t : TypeId} (h : B3 w b x y z t) : w.cell? ⟨b, 1, none⟩ = some y := by unfold B3 at h; simp [World.cell?, h]
theorem B3.c2 {w : World} {b : Nat} {x y z : Value} {t : TypeId} (h : B3 w b x y z t) : w.cell? ⟨b, 2, none⟩ = some z := by unfold B3 at h; simp [World.cell?, h]
theorem B3.fz {w : World} {b o : Nat} {x y z : Value} {t : TypeId} (h : B3 w b x y z t) : w.frozen? ⟨b, o, none⟩ = false := by unfold B3 at h; simp [World.frozen?, h]
theorem B3.set {w : World} {b o : Nat} {x y z u : Value} {t : TypeId} (h : B3 w b x y z t) : (w.setCell ⟨b, o, none⟩ u).heap[b]? = some (.cells (#[x, y, z].setIfInBounds o u) t (0, 0)) := by
  unfold B3 at h
  have hlt : b < w.heap.size := (Array.getElem?_eq_some_iff.1 h).1
  have h' : w.heap[b] = .cells #[x, y, z] t (0, 0) := by simpa [Array.getElem?_eq_getElem hlt] using h
  simp [World.setCell, hlt, Array.getElem_modify, h']
theorem B3.set3 {w : World} {b : Nat} {x y z : Value} {t : TypeId} (h : B3 w b x y z t) (u v r : Value) : B3 (((w.setCell ⟨b, 0, none⟩ u).setCell ⟨b, 1, none⟩ v).setCell ⟨b, 2, none⟩ r) b u v r t := by
  have h1 : B3 (w.setCell ⟨b, 0, none⟩ u) b u y z t := h.set
  have h2 : B3 ((w.setCell ⟨b, 0, none⟩ u).setCell ⟨b, 1, none⟩ v) b u v z t := h1.set
  exact h2.set
theorem SR.setR3 {n : Nat} {w : World} {g o m R : Nat} {bs : List Nat} {ls : List (List Int)} (h : SR n w g o m bs ls) {x y z : Value} {t : TypeId} (hb : B3 w R x y z t) (ht : t ≠ 5) (hR : R ≠ g) (u v r : Value) : SR n (((w.setCell ⟨R, 0, none⟩ u).setCell ⟨R, 1, none⟩ v).setCell ⟨R, 2, none⟩ r) g o m bs ls := by
  have h1 : B3 (w.setCell ⟨R, 0, none⟩ u) R u y z t := hb.set
  have h2 : B3 ((w.setCell ⟨R, 0, none⟩ u).setCell ⟨R, 1, none⟩ v) R u v z t := h1.set
  refine ⟨h.len, fun i b hi => ?_, ((h.ob.map fun b _ q hq => hq.set hb ht u).map fun b _ q hq => hq.set h1 ht v).map fun b _ q hq => hq.set h2 ht r, h.pl⟩
  have := h.at_ i b hi
  simp only [World.cell?] at this ⊢
  rw [Deep.blk_setCell_other _ _ _ _ (show g ≠ R from fun e => hR e.symm), Deep.blk_setCell_other _ _ _ _ (show g ≠ R from fun e => hR e.symm), Deep.blk_setCell_other _ _ _ _ (show g ≠ R from fun e => hR e.symm)]
  exact this
end Go.Proofs.YtigffblelngpjaaDoor
