/- Texts of this claim in one file: libraries and walks. -/
import Derived.Test.YtlhkehfplcclgaaDoorL7
import Derived.Test.YtlhkehfplcclgaaDoorL14
/- added: the walk. -/
namespace Go.Proofs.YtlhkehfplcclgaaDoor
set_option linter.unusedVariables false
set_option linter.unusedSimpArgs false
set_option maxRecDepth 8000
open Go Go.RowKit

theorem BN.lt {w : World} {b : Nat} {a : Nm} (h : BN w b a) : b < w.heap.size := by unfold BN at h; exact (Array.getElem?_eq_some_iff.1 h).1
theorem BN.fr {w : World} {b : Nat} {a : Nm} (h : BN w b a) (o : Nat) : w.frozen? ⟨b, o, none⟩ = false := by unfold BN at h; simp [World.frozen?, h]
theorem BN.grown {w w' : World} {b : Nat} {a : Nm} {v : Option Nat} (h : BN w b a) (hg : w.grownBy w' v) (hv : v ≠ some b) : BN w' b a := by
  unfold BN at h ⊢; rw [hg.block b (Array.getElem?_eq_some_iff.1 h).1 (fun e => hv e.symm)]; exact h
theorem BN.set {w : World} {b : Nat} {a : Nm} (h : BN w b a) {d : Addr} (hd : b ≠ d.block) (u : Value) : BN (w.setCell d u) b a := by
  unfold BN at h ⊢; rw [Below.heap_setCell _ _ _ _ hd]; exact h
theorem B5.grown {w w' : World} {b : Nat} {c : Xg} {t : TypeId} {v : Option Nat} (h : B5 w b c t) (hg : w.grownBy w' v) (hv : v ≠ some b) : B5 w' b c t := by
  unfold B5 at h ⊢; rw [hg.block b (Array.getElem?_eq_some_iff.1 h).1 (fun e => hv e.symm)]; exact h
theorem B5.fr {w : World} {b : Nat} {c : Xg} {t : TypeId} (h : B5 w b c t) (o : Nat) : w.frozen? ⟨b, o, none⟩ = false := by unfold B5 at h; simp [World.frozen?, h]
theorem B5.put4 {w : World} {b : Nat} {c : Xg} {t : TypeId} (h : B5 w b c t) (n : Int) : B5 (w.setCell ⟨b, 4, none⟩ (.int .i64 n)) b ⟨c.a, c.b, n⟩ t := by
  unfold B5 at h ⊢
  simp [World.setCell, Array.getElem?_modify, h]
/-- The list that is returned lies in a row of the call's own. -/
def RetAd (w : World) (r : List Xg) (en : Ending) (w' : World) : Prop := ∃ v, en = .returned v ∧ w'.ownsRow w.heap.size 52 5 v r.length (r.map Xg.cs).flatten ∧ Ext w w'
/-- What the loop knows. -/
structure AS (w0 w : World) (a b : Nm) (v : Value) (r : List Xg) : Prop where
  x : Ext w0 w
  a : BN w w0.heap.size a
  b : BN w (w0.heap.size + 1) b
  o : w.ownsRow w0.heap.size 52 5 v r.length (r.map Xg.cs).flatten
theorem AS.ext {w0 w w' : World} {a b : Nm} {v : Value} {r : List Xg} (h : AS w0 w a b v r) (x : Ext w w') : AS w0 w' a b v r := ⟨h.x.trans x, h.a.ext x, h.b.ext x, own_extk h.o x⟩
theorem AS.ne {w0 w : World} {a b : Nm} {v : Value} {r : List Xg} (h : AS w0 w a b v r) : v.ownBlock ≠ some w0.heap.size ∧ v.ownBlock ≠ some (w0.heap.size + 1) :=
  ⟨own_ne_ty h.o h.a (by decide), own_ne_ty h.o h.b (by decide)⟩
theorem AS.set {w0 w : World} {a b : Nm} {v : Value} {r : List Xg} (h : AS w0 w a b v r) {g o : Nat} (hg : w0.heap.size + 1 < g) (hv : v.ownBlock ≠ some g) (u : Value) : AS w0 (w.setCell ⟨g, o, none⟩ u) a b v r :=
  ⟨Ext.setCell h.x (by dsimp only; omega) _, h.a.set (by dsimp only; omega) _, h.b.set (by dsimp only; omega) _, own_set h.o hv _⟩
theorem AS.app {w0 w w' : World} {a b : Nm} {v v' : Value} {r : List Xg} {c : Xg} (h : AS w0 w a b v r) (hg : w.grownBy w' v.ownBlock) (hown : w'.ownsRow w0.heap.size 52 5 v' (r.length + 1) ((r.map Xg.cs).flatten ++ c.cs)) : AS w0 w' a b v' (r ++ [c]) :=
  ⟨Ext.grown h.x hg fun g e => (h.o.lt g e).1, h.a.grown hg h.ne.1, h.b.grown hg h.ne.2, by simpa using hown⟩
/-- The test whether two names are equal, as the walk has it. -/
theorem nm_dec (a b : Nm) : ((a.y == b.y) && (a.n == b.n)) = decide (a = b) := by
  by_cases h : a = b
  · subst h; simp
  · rw [decide_eq_false h, Bool.and_eq_false_iff]
    by_cases h1 : a.y = b.y
    · exact .inr (beq_eq_false_iff_ne.2 fun e => h (Nm.ext' h1 e))
    · exact .inl (beq_eq_false_iff_ne.2 h1)
theorem hit_iff {x : Xg} {a b : Nm} : hitX x a b = true ↔ (x.a.y = a.y ∧ x.a.n = a.n) ∧ x.b.y = b.y ∧ x.b.n = b.n := by
  have h : ∀ p q : Nm, p = q ↔ p.y = q.y ∧ p.n = q.n := fun p q => ⟨fun e => by rw [e]; exact ⟨rfl, rfl⟩, fun e => Nm.ext' e.1 e.2⟩
  unfold hitX
  rw [decide_eq_true_iff, h, h]
set_option maxHeartbeats 8000000 in
theorem Added_calls (v : Value) (c : Nat) (l : List Xg) (a b : Nm) (s : Int) (w : World) (h : XL w v c l) (h9 : l.length ≤ 10000)
    (hn : ∀ i, i < l.length → -9223372036854775808 ≤ (xi l i).n + s ∧ (xi l i).n + s ≤ 9223372036854775807) :
    Calls Tryd.prog 25 #[v, a.val, b.val, .int .i64 s] w (RetAd w (adr a b s false l)) := by
  obtain ⟨la, n, rfl, hln, hnc, hc9, hat⟩ := h.open
  obtain ⟨W, hW⟩ : ∃ W, W = (w.alloc (.cells #[.int .u8 a.y, .int .i64 a.n] 41)).alloc (.cells #[.int .u8 b.y, .int .i64 b.n] 41) := ⟨_, rfl⟩
  have xW : Ext w W := by rw [hW]; exact ((Ext.refl _).alloc _).alloc _
  have HS0 := Lib.hid (show AS w W a b (.slice none 0 0) [] from ⟨xW, by rw [hW]; exact (BN.new w a).ext ((Ext.refl _).alloc _), by rw [hW]; have := BN.new (w.alloc (.cells #[.int .u8 a.y, .int .i64 a.n] 41)) b; simpa using this, own_none _ _ _ _⟩)
  have HX := Lib.hid hat; have HN := Lib.hid hn; have HW := Lib.hid hW; have Hln := Lib.hid hln
  have n9 : n ≤ 10000 := by omega
  have HR := Lib.hid (show adr a b s false l = adr a b s false (l.drop 0) by rfl)
  clear h h9 hn hat hW xW hln
  unfold Nm.val
  go_enter Tryd.func25, Tryd.ntmps25
  go_wp2
  rw [← HW.out]
  go_loopg [9, 10, 11, 12] n (fun g out dn i _ wr => ∃ (k : Nat) (d : Bool) (r : List Xg) (ao : Option Addr) (c' m : Nat), g + k = n ∧ i = .int .i64 k ∧ dn = .bool d ∧ out = .slice ao m c' ∧ m = r.length ∧ m ≤ 2 * k ∧ Hid (AS w wr a b (.slice ao m c') r ∧ r ++ adr a b s d (l.drop k) = adr a b s false l))
  case atStart => exact ⟨0, false, [], none, 0, 0, by omega, rfl, rfl, rfl, rfl, by omega, Lib.hid ⟨HS0.out, rfl⟩⟩
  case round =>
    obtain ⟨k, d, r, ao, c', m, hgk, rfl, rfl, rfl, hm, hm2, G⟩ := hrel
    have Hm := Lib.hid hm; have Hgk := Lib.hid hgk
    clear hm hgk
    by_cases hlt : k < n
    · have f1 : (k : Int) < n := by omega
      have f2 : (0 : Int) ≤ k := by omega
      obtain ⟨b1, o1, rfl, hA⟩ := HX.out k hlt
      obtain ⟨x, hx⟩ : ∃ x, x = xi l k := ⟨_, rfl⟩
      rw [← hx] at hA
      obtain ⟨q1, q2, q3, q4, q5⟩ := hA.ext G.out.1.x
      obtain ⟨gl, hgl⟩ : ∃ gl, gl = wr.heap.size := ⟨_, rfl⟩
      have Hx := Lib.hid hx; have Hgl := Lib.hid hgl
      obtain ⟨a0, a1⟩ := G.out.1.a.at
      obtain ⟨b0, b1⟩ := G.out.1.b.at
      simp only [Nat.zero_add] at a1 b1
      clear hA hx hgl
      go_upto_region 7 with fail
      obtain ⟨WB, hWB⟩ : ∃ WB, WB = wr.alloc (.cells #[.int .u8 x.a.y, .int .i64 x.a.n, .int .u8 x.b.y, .int .i64 x.b.n, .int .i64 x.n] 52) := ⟨_, rfl⟩
      rw [← hWB, ← Hgl.out]
      have HB := Lib.hid (show AS w WB a b (.slice ao m c') r ∧ B5 WB gl x 52 from ⟨by rw [hWB]; exact G.out.1.ext ((Ext.refl _).alloc _), by rw [hWB, Hgl.out]; exact B5.new _ _ _⟩)
      clear q1 q2 q3 q4 q5 a0 a1 b0 b1 hWB
      obtain ⟨a0, a1⟩ := HB.out.1.a.at
      obtain ⟨b0, b1⟩ := HB.out.1.b.at
      obtain ⟨q1, q2, q3, q4, q5⟩ := HB.out.2.at
      simp only [Nat.zero_add] at a1 b1 q2 q3 q4 q5
      obtain ⟨H, hH⟩ : ∃ H, H = hitX x a b := ⟨_, rfl⟩
      have HH := Lib.hid hH
      clear hH
      go_cut [32] from 13 to 73 (fun c wx => c = .bool H ∧ WB = wx)
      case first =>
        go_wp2_with fail
        all_goals go_meet
        all_goals (refine ⟨congrArg Value.bool ?_, rfl⟩; rw [HH.out, Bool.eq_iff_iff, hit_iff]; try simp; try omega)
      case rest =>
        obtain ⟨rfl, rfl⟩ := hcut
        go_upto_if 32 with fail
        clear q1 q2 q3 q4 a0 a1 b0 b1
        obtain ⟨N', hN'⟩ : ∃ N', N' = (updX x a b s).n := ⟨_, rfl⟩
        obtain ⟨D, hD⟩ : ∃ D, D = (d || H) := ⟨_, rfl⟩
        have HN' := Lib.hid hN'; have HD := Lib.hid hD
        have Hgw := Lib.hid (show w.heap.size + 1 < gl by rw [Hgl.out]; exact G.out.1.b.lt)
        have Hne := Lib.hid (show (Value.slice ao m c').ownBlock ≠ some gl from fun e => by have h1 := (G.out.1.o.lt gl e).2; rw [Hgl.out] at h1; omega)
        clear hN' hD
        go_cut [10] from 13 to 73 (fun dn wx => dn = .bool D ∧ Hid (AS w wx a b (.slice ao m c') r ∧ B5 wx gl ⟨x.a, x.b, N'⟩ 52))
        case first =>
          cases H with
          | true =>
            have hn := HN.out k (by rw [← Hln.out]; exact hlt)
            rw [← Hx.out] at hn
            have e1 : IntKind.i64.wrap (x.n + s) = x.n + s := IntWalk.i64_in _ hn
            have e2 := HB.out.2.fr 4
            have hN2 : N' = x.n + s := by rw [HN'.out]; unfold updX; rw [← HH.out, if_pos rfl]
            have HR2 := Lib.hid (show AS w (WB.setCell ⟨gl, 4, none⟩ (.int .i64 (x.n + s))) a b (.slice ao m c') r ∧ B5 (WB.setCell ⟨gl, 4, none⟩ (.int .i64 (x.n + s))) gl ⟨x.a, x.b, N'⟩ 52 from ⟨HB.out.1.set Hgw.out Hne.out _, by rw [hN2]; exact HB.out.2.put4 _⟩)
            have hD2 : D = true := by rw [HD.out, Bool.or_true]
            subst hD2
            clear hn hN2
            go_wp2_with fail
            go_meet
            case rel => exact ⟨rfl, HR2⟩
          | false =>
            have hN2 : N' = x.n := by rw [HN'.out]; unfold updX; rw [← HH.out, if_neg (by decide)]
            have hD2 : d = D := by rw [HD.out, Bool.or_false]
            subst hD2
            have HR2 := Lib.hid (show AS w WB a b (.slice ao m c') r ∧ B5 WB gl ⟨x.a, x.b, N'⟩ 52 from ⟨HB.out.1, by rw [hN2]; exact HB.out.2⟩)
            clear hN2
            go_wp2_with fail
            go_meet
            case rel => exact ⟨rfl, HR2⟩
        case rest =>
          obtain ⟨rfl, G2⟩ := hcut
          obtain ⟨wd, hwd⟩ : ∃ wd, wd = wc := ⟨_, rfl⟩
          subst hwd
          clear q5
          obtain ⟨I, hI⟩ : ∃ I, I = (!D && insX x a b) := ⟨_, rfl⟩
          have HI := Lib.hid hI
          clear hI
          go_upto_region 10 with fail
          go_cut [1, 59] from 13 to 73 (fun va c wx => va = .agg #[.int .u8 a.y, .int .i64 a.n] ∧ c = .bool I ∧ Hid (Ext wd wx))
          case first =>
            obtain ⟨a0, a1⟩ := G2.out.1.a.at
            obtain ⟨b0, b1⟩ := G2.out.1.b.at
            obtain ⟨q1, q2, q3, q4, q5⟩ := G2.out.2.at
            simp only [Nat.zero_add] at a1 b1 q2 q3 q4 q5
            cases D with
            | true =>
              have hI2 : I = false := by rw [HI.out]; rfl
              subst hI2
              go_wp2_with fail
              go_meet
              case rel => exact ⟨rfl, rfl, Lib.hid (Ext.refl _)⟩
            | false =>
              have hI2 : I = insX x a b := by rw [HI.out]; rfl
              have HI2 := Lib.hid hI2
              clear hI2
              go_wp2_with fail
              refine (Less_calls a x.a wd).mono ?_
              rintro e w5 ⟨rfl, x5⟩
              have X5 := Lib.hid x5
              clear a0 a1 b0 b1 q1 q2 q3 q4 q5 x5
              by_cases hab : ltN a x.a
              · have hl : lessI a x.a = 1 := by unfold lessI; rw [if_pos (cmpN_lt.2 hab)]
                have hI3 : I = true := by rw [HI2.out]; exact decide_eq_true (.inl hab)
                rw [hl]
                subst hI3
                clear hl hab
                go_wp2_with fail
                go_meet
                case rel => exact ⟨by simp [*], rfl, X5⟩
              · have hl : lessI a x.a = 0 := by unfold lessI; rw [if_neg (fun e => hab (cmpN_lt.1 e))]
                rw [hl]
                obtain ⟨a0, a1⟩ := (G2.out.1.a.ext X5.out).at
                obtain ⟨b0, b1⟩ := (G2.out.1.b.ext X5.out).at
                obtain ⟨q1, q2, q3, q4, q5⟩ := (G2.out.2.ext X5.out).at
                simp only [Nat.zero_add] at a1 b1 q2 q3 q4 q5
                have Hab := Lib.hid hab
                clear hl hab
                go_wp2_with fail
                · have hae : a = x.a := Nm.ext' (by assumption) (by assumption)
                  refine (Less_calls b x.b w5).mono ?_
                  rintro e w6 ⟨rfl, x6⟩
                  have X6 := Lib.hid (X5.out.trans x6)
                  clear x6
                  by_cases hb : ltN b x.b
                  · have hl : lessI b x.b = 1 := by unfold lessI; rw [if_pos (cmpN_lt.2 hb)]
                    have hI3 : I = true := by rw [HI2.out]; exact decide_eq_true (.inr ⟨hae, hb⟩)
                    rw [hl]
                    subst hI3
                    clear hl hb hae
                    go_wp2_with fail
                    go_meet
                    case rel => exact ⟨by simp [*], rfl, X6⟩
                  · have hl : lessI b x.b = 0 := by unfold lessI; rw [if_neg (fun e => hb (cmpN_lt.1 e))]
                    have hI3 : I = false := by rw [HI2.out]; exact decide_eq_false (fun e => e.elim Hab.out fun e => hb e.2)
                    rw [hl]
                    subst hI3
                    clear hl hb hae
                    go_wp2_with fail
                    go_meet
                    case rel => exact ⟨by simp [*], rfl, X6⟩
                · have hI3 : I = false := by rw [HI2.out]; exact decide_eq_false (fun e => e.elim Hab.out fun e => absurd (congrArg Nm.n e.1) (by assumption))
                  subst hI3
                  go_meet
                  case rel => exact ⟨by simp [*], rfl, X5⟩
                · have hI3 : I = false := by rw [HI2.out]; exact decide_eq_false (fun e => e.elim Hab.out fun e => absurd (congrArg Nm.y e.1) (by assumption))
                  subst hI3
                  go_meet
                  case rel => exact ⟨by simp [*], rfl, X5⟩
          case rest =>
            obtain ⟨rfl, rfl, G3⟩ := hcut
            have H3 := Lib.hid (And.intro (G2.out.1.ext G3.out) (G2.out.2.ext G3.out))
            obtain ⟨we, hwe⟩ : ∃ we, we = wc := ⟨_, rfl⟩
            subst hwe
            obtain ⟨D2, hD2⟩ : ∃ D2, D2 = (D || I) := ⟨_, rfl⟩
            have HD2 := Lib.hid hD2
            clear hD2
            go_upto_if 59 with fail
            go_cut [9, 10] from 13 to 73 (fun out dn wx => ∃ (r' : List Xg) (ao' : Option Addr) (m' c2 : Nat), out = .slice ao' m' c2 ∧ dn = .bool D2 ∧ m' ≤ 2 * k + 1 ∧ Hid (m' = r'.length ∧ AS w wx a b (.slice ao' m' c2) r' ∧ B5 wx gl ⟨x.a, x.b, N'⟩ 52 ∧ r' = r ++ (if I = true then [⟨a, b, s⟩] else []) ∧ (Value.slice ao' m' c2).ownBlock ≠ some gl))
            case first =>
              cases I with
              | true =>
                obtain ⟨a0, a1⟩ := H3.out.1.a.at
                obtain ⟨b0, b1⟩ := H3.out.1.b.at
                simp only [Nat.zero_add] at a1 b1
                have Ho := Lib.hid (show we.ownsRow w.heap.size 52 5 (.slice ao m c') m (r.map Xg.cs).flatten by have h1 := H3.out.1.o; rw [← Hm.out] at h1; exact h1)
                have hsz := Nat.le_of_lt (Nat.lt_of_lt_of_le (Nat.lt_of_succ_lt Hgw.out) (Nat.le_of_lt H3.out.2.lt))
                have Hsz := Lib.hid hsz
                clear hsz
                have hD3 : D2 = true := by rw [HD2.out, Bool.or_true]
                subst hD3
                go_wp2_with (at_builtin; refine app_at ekX rfl _ _ rfl w.heap.size _ m (r.map Xg.cs) rfl (own_extk Ho.out ((Ext.refl _).alloc _)) _ 1 [Xg.cs ⟨a, b, s⟩] rfl (CK.of_blk (Deep.blk_alloc_new _ _) (Ks.xg [⟨a, b, s⟩]) rfl (Nat.le_refl _) (by omega) rfl) (Ks.xg [⟨a, b, s⟩]) ?f1 ?f2 ?f3 ?_)
                case f1 => omega
                case f2 => omega
                case f3 => have h1 := Hsz.out; simp; omega
                intro v8 w8 hown hgr hat
                obtain ⟨a8, c8, rfl, _⟩ := own_slice hown
                have HR3 := Lib.hid (show m + 1 = (r ++ [(⟨a, b, s⟩ : Xg)]).length ∧ AS w w8 a b (.slice a8 (m + 1) c8) (r ++ [⟨a, b, s⟩]) ∧ B5 w8 gl ⟨x.a, x.b, N'⟩ 52 ∧ (r ++ [(⟨a, b, s⟩ : Xg)] = r ++ (if true = true then [⟨a, b, s⟩] else [])) ∧ (Value.slice a8 (m + 1) c8).ownBlock ≠ some gl from ⟨by rw [List.length_append, Hm.out]; rfl, AS.app (H3.out.1.ext ((Ext.refl _).alloc _)) hgr (by rw [← Hm.out]; exact hown), (H3.out.2.ext ((Ext.refl _).alloc _)).grown hgr Hne.out, rfl, fun e => by
                  have hgl := H3.out.2.lt
                  rcases hat with h1 | h1
                  · exact Hne.out (h1.symm.trans e)
                  · have h2 := h1.symm.trans e
                    have h3 := Option.some.inj h2
                    simp at h3; omega⟩)
                clear hown hgr hat
                go_wp2_with fail
                go_meet
                case rel => exact ⟨_, _, _, _, rfl, rfl, by omega, HR3⟩
              | false =>
                have hD3 : D = D2 := by rw [HD2.out, Bool.or_false]
                subst hD3
                have HR3 := Lib.hid (show m = r.length ∧ AS w we a b (.slice ao m c') r ∧ B5 we gl ⟨x.a, x.b, N'⟩ 52 ∧ (r = r ++ (if false = true then [⟨a, b, s⟩] else [])) ∧ (Value.slice ao m c').ownBlock ≠ some gl from ⟨Hm.out, H3.out.1, H3.out.2, by simp, Hne.out⟩)
                go_wp2_with fail
                go_meet
                case rel => exact ⟨_, _, _, _, rfl, rfl, by omega, HR3⟩
            case rest =>
              obtain ⟨r', ao', m', c2, rfl, rfl, hm', G4⟩ := hcut
              obtain ⟨wf, hwf⟩ : ∃ wf, wf = wc := ⟨_, rfl⟩
              subst hwf
              obtain ⟨q1, q2, q3, q4, q5⟩ := G4.out.2.2.1.at
              simp only [Nat.zero_add] at q2 q3 q4 q5
              have HE := Lib.hid (show ∀ r'', r'' = r' ++ (if N' = 0 then [] else [⟨x.a, x.b, N'⟩]) → r'' ++ adr a b s D2 (l.drop (k + 1)) = adr a b s false l from fun r'' hr => by
                have h1 := G.out.2
                rw [adr_step (by rw [← Hln.out]; exact hlt), ← Hx.out] at h1
                have hu : updX x a b s = ⟨x.a, x.b, N'⟩ := by
                  rw [HN'.out]; unfold updX; split <;> rfl
                rw [hu, ← HH.out, ← HD.out] at h1
                rw [hr, G4.out.2.2.2.1, ← h1, HD2.out, HI.out]
                cases D <;> cases insX x a b <;> simp)
              by_cases hz : N' = 0
              · have e1 : (N' != 0) = false := by rw [hz]; rfl
                have e2 : (N' == 0) = true := by rw [hz]; rfl
                have HR4 := Lib.hid (show AS w wf a b (.slice ao' m' c2) r' ∧ r' ++ adr a b s D2 (l.drop (k + 1)) = adr a b s false l from ⟨G4.out.2.1, HE.out r' (by rw [if_pos hz]; simp)⟩)
                subst hz
                go_wp2
                go_roundg (n - (k + 1))
                case measure => have := Hgk.out; omega
                case rel => exact ⟨k + 1, D2, r', ao', c2, m', by omega, by go_num, rfl, rfl, G4.out.1, by omega, HR4⟩
              · have e1 : (N' != 0) = true := bne_iff_ne.2 hz
                have e2 : (N' == 0) = false := beq_eq_false_iff_ne.2 hz
                have Ho := Lib.hid (show wf.ownsRow w.heap.size 52 5 (.slice ao' m' c2) m' (r'.map Xg.cs).flatten by have h1 := G4.out.2.1.o; rw [← G4.out.1] at h1; exact h1)
                have Hsz := Lib.hid (Nat.le_of_lt (Nat.lt_of_lt_of_le (Nat.lt_of_succ_lt Hgw.out) (Nat.le_of_lt G4.out.2.2.1.lt)))
                go_wp2_with (at_builtin; refine app_at ekX rfl _ _ rfl w.heap.size _ m' (r'.map Xg.cs) rfl (own_extk Ho.out ((Ext.refl _).alloc _)) _ 1 [Xg.cs ⟨x.a, x.b, N'⟩] rfl (CK.of_blk (Deep.blk_alloc_new _ _) (Ks.xg [⟨x.a, x.b, N'⟩]) rfl (Nat.le_refl _) (by omega) rfl) (Ks.xg [⟨x.a, x.b, N'⟩]) ?f1 ?f2 ?f3 ?_)
                case f1 => omega
                case f2 => omega
                case f3 => have h1 := Hsz.out; simp; omega
                intro v8 w8 hown hgr hat
                obtain ⟨a8, c8, rfl, _⟩ := own_slice hown
                have HR4 := Lib.hid (show AS w w8 a b (.slice a8 (m' + 1) c8) (r' ++ [⟨x.a, x.b, N'⟩]) ∧ (r' ++ [(⟨x.a, x.b, N'⟩ : Xg)]) ++ adr a b s D2 (l.drop (k + 1)) = adr a b s false l from ⟨AS.app (G4.out.2.1.ext ((Ext.refl _).alloc _)) hgr (by rw [← G4.out.1]; exact hown), HE.out _ (by rw [if_neg hz])⟩)
                have HL4 := Lib.hid (show m' + 1 = (r' ++ [(⟨x.a, x.b, N'⟩ : Xg)]).length by rw [List.length_append, G4.out.1]; rfl)
                clear hown hgr hat hz
                go_wp2
                go_roundg (n - (k + 1))
                case measure => have := Hgk.out; omega
                case rel => exact ⟨k + 1, D2, _, a8, c8, m' + 1, by omega, by go_num, rfl, rfl, HL4.out, by omega, HR4⟩
    · have f1 : ¬ (k : Int) < n := by omega
      have hkn : k ≤ n := by have := Hgk.out; omega
      have hk : l.drop k = [] := List.drop_eq_nil_of_le (by rw [← Hln.out]; omega)
      cases d with
      | true =>
        have HE := Lib.hid (show RetAd w (adr a b s false l) (.returned (.slice ao m c')) wr from by
          have h1 := G.out.2
          rw [hk, adr, if_pos rfl, List.append_nil] at h1
          rw [← h1]; exact ⟨_, rfl, G.out.1.o, G.out.1.x⟩)
        clear hk
        go_wp2
        go_ret
        exact HE.out
      | false =>
        have h1 := G.out.2
        rw [hk, adr, if_neg (by decide)] at h1
        have Hh1 := Lib.hid h1
        obtain ⟨a0, a1⟩ := G.out.1.a.at
        obtain ⟨b0, b1⟩ := G.out.1.b.at
        simp only [Nat.zero_add] at a1 b1
        have Ho := Lib.hid (show wr.ownsRow w.heap.size 52 5 (.slice ao m c') m (r.map Xg.cs).flatten by have h1 := G.out.1.o; rw [← Hm.out] at h1; exact h1)
        have Hsz := Lib.hid (G.out.1.x.size)
        clear hk h1
        go_wp2_with (at_builtin; refine app_at ekX rfl _ _ rfl w.heap.size _ m (r.map Xg.cs) rfl (own_extk Ho.out ((Ext.refl _).alloc _)) _ 1 [Xg.cs ⟨a, b, s⟩] rfl (CK.of_blk (Deep.blk_alloc_new _ _) (Ks.xg [⟨a, b, s⟩]) rfl (Nat.le_refl _) (by omega) rfl) (Ks.xg [⟨a, b, s⟩]) ?f1 ?f2 ?f3 ?_)
        case f1 => omega
        case f2 => omega
        case f3 => have h1 := Hsz.out; simp; omega
        intro v8 w8 hown hgr hat
        have HE := Lib.hid (show RetAd w (adr a b s false l) (.returned v8) w8 from by
          have h2 := AS.app (c := ⟨a, b, s⟩) (G.out.1.ext ((Ext.refl _).alloc _)) hgr (by rw [← Hm.out]; exact hown)
          rw [← Hh1.out]
          exact ⟨_, rfl, h2.o, h2.x⟩)
        clear hown hgr hat
        go_wp2
        go_ret
        exact HE.out
end Go.Proofs.YtlhkehfplcclgaaDoor
