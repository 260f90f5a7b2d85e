/- Part 11 of a proof: texts H6 H7 H8 H9 H10 N33. -/
import Derived.Test.YthmjdmianbobbaaGreatDoorWJ
namespace Go.Run.Tryz
open Go Go.Run Go.RowKit
open Go.Proofs.Tryz (prog)
def F71 : FN := ⟨5, (.seq (.reg [ji 1 (.box 24 (.t 0)), ji 2 (.mv (.c .nilfn))])
 (.seq (.reg [ji 3 (.ld true 5 (.t 1)), ji 4 (.call 96 [(.t 3), (ci 20)]), ji 2 (.mv (.t 4))])
 .ret)), [.tmp 2]⟩
theorem cF71 : cFn prog 71 = some F71 := by kernel_rfl
variable {G : Gl}
theorem Words1_ok (hG : GOS G) {b : Nat} {s : List UInt8} (hl : s.length ≤ 1000000) (ha : ∀ c ∈ s, c.toNat < 128) : ITER prog G 184 [] [.ptr b 0] (fun w => [.str w]) (wordsF s) (strB b s) := by
 intro σ yv step R J E s0 A0 hy hyv hR hJ hB
 have hbA : ∀ A, addB (strB b s) A b = some (.cells [.str s] 9) := fun A => Hp.upd_same
 refine CALL.of cF184 (Nat.le_of_ble_eq_true rfl) ?_
 refine AC.seq (AC.reg ?_)
 refine RG.box (d := yv) (ys := [yv]) .d rfl hyv fun q hq => ?_
 have hB' : freeB ((q, .cells [yv] 85) :: strB b s) A0 := ⟨hq, notF_cells, hB⟩
 have hbq : q ≠ b := fun e => by rw [e, hbA] at hq; cases hq
 have hAA : (addB (strB b s) A0).upd q (some (.cells [yv] 85)) = addB ((q, .cells [yv] 85) :: strB b s) A0 := rfl
 rw [hAA]
 have hqB : ∀ A, addB ((q, .cells [yv] 85) :: strB b s) A q = some (.cells [yv] 85) := fun A => Hp.upd_same
 have hbB : ∀ A, addB ((q, .cells [yv] 85) :: strB b s) A b = some (.cells [.str s] 9) := fun A => by rw [addB, Hp.upd_ne (Ne.symm hbq)]; exact hbA A
 generalize hBB : (q, DO.cells [yv] 85) :: strB b s = B' at hB' hqB hbB
 refine RG.nilS (AC.seq (AC.reg ?_))
 refine RG.ld .d rfl (hbB _) rfl ?_
 refine RG.call .d rfl (FieldsSeq_ok s _) (fun r H1 ⟨b2, k1, k2, k3⟩ => ?_) (fun _ _ h => h.elim)
 subst k1; subst k3
 refine RG.nilS (AC.block ?_)
 generalize hfr : Fr.put _ (some 5) _ = fr
 have f2 : fr 2 = .ptr q 0 := by rw [← hfr]; rfl
 have f5 : fr 5 = .func (.func 219) [] [.ptr b2 0] := by rw [← hfr]; rfl
 clear hfr
 have hlast : ∀ A1 A', freeB B' A1 → freeB (strB b2 s) (addB B' A1) → A' = addB B' A1 → SubH (addB (strB b s) A1) (addB (strB b2 s) A') := by
  rintro A1 A' g1 g2 rfl
  rw [← hBB] at g1 g2 ⊢
  exact (SubH.fresh g1.1).trans (freeB_sub g2)
 have hfree : ∀ A1, freeB B' A1 → freeB (strB b s) A1 := fun A1 g => by rw [← hBB] at g; exact g.2.2
 refine AC.rngJ (x := .t 5) (step := step) f5 (Fields1_ok hG hl ha) (fun _ => rfl) R (fun st A' => ∃ A1, J st A1 ∧ freeB B' A1 ∧ A' = addB B' A1) (fun st pend A' => pend = some .ret ∧ ∃ A1, E st A1 ∧ freeB B' A1 ∧ A' = addB B' A1) ?_ s0 _ hR ⟨A0, hJ, hB', rfl⟩ ⟨k2, notF_cells, trivial⟩ ?_ ?_
 · rintro st a A lp L hL hRa ⟨A1, j1, j2, rfl⟩ hA
   refine AC.reg ?_
   refine go ?_
   refine RG.nil ⟨rfl, _, hA, rfl, fun L' hL' => ?_⟩
   refine AC.to [(2, .ptr q 0), (3, .str a)] ⟨f2, rfl, trivial⟩ ?_
   have hlq : q ≠ lp := fun e => by rw [← e, hqB] at hA; cases hA
   have hF : freeB ((lp, L') :: B') A1 := ⟨hA, hL', j2⟩
   have hc := CALV.frameB hF (hy st a A1 hRa j1)
   refine AC.block (AC.seq (AC.reg ?_))
   refine RG.ld .d rfl (by rw [Hp.upd_ne hlq]; exact hqB _) rfl ?_
   refine go1 ?_
   refine RG.calV .d rfl rfl hc (fun r H2 ⟨A2, ⟨k1, k2, k3⟩, k4, k5⟩ => ?_) (fun r H' ⟨_, k, _⟩ => k.elim)
   subst k1; subst k5
   refine go ?_
   cases c1 : (step st a).2
   · refine RG.nilS (AC.cond_t rfl (AC.ret ?_))
     exact ⟨addB B' A2, c1, ⟨rfl, A2, k3 c1, k4.2.2, rfl⟩, k4.1, SubH.refl _⟩
   · refine RG.nilS (AC.cond_f rfl (AC.skip ?_))
     exact ⟨addB B' A2, c1, ⟨A2, k2 c1, k4.2.2, rfl⟩, k4.1, SubH.refl _⟩
 · rintro A' hr ⟨A1, j1, j2, rfl⟩ hF
   refine finD rfl (hlast A1 _ j2 hF rfl) ⟨A1, fun _ => j1, fun h => (by rw [hr] at h; cases h), hfree A1 j2, rfl⟩
 · rintro A' p hr ⟨rfl, A1, j1, j2, rfl⟩ hF
   refine finD rfl (hlast A1 _ j2 hF rfl) ⟨A1, fun h => (by rw [hr] at h; cases h), fun _ => j1, hfree A1 j2, rfl⟩
def walkE (p : Nat × El) : List DV := [.int .i64 p.1, .agg (elC p.2)]
theorem okR_append {σ α : Type} {R : σ → α → Prop} {step : σ → α → σ × Bool} : ∀ (a b : List α) (s : σ), okR R step s (a ++ b) → okR R step s a ∧ ((runG step s a).2 = true → okR R step (runG step s a).1 b)
 | [], b, s, h => ⟨trivial, fun _ => h⟩
 | x :: a, b, s, h => by
   obtain ⟨h1, h2⟩ := h
   refine ⟨⟨h1, fun hs => (okR_append a b _ (h2 hs)).1⟩, fun hs => ?_⟩
   rw [runG] at hs ⊢
   cases e : (step s x).2
   · rw [e] at hs; cases hs
   · rw [e, cond_true] at hs
     exact (okR_append a b _ (h2 e)).2 hs
theorem walkJ_ok {σ : Type} {yv : DV} {step : σ → Nat × El → σ × Bool} {R : σ → Nat × El → Prop} {J E : σ → Hp → Prop} (hy : YJ prog G walkE R yv step J E) (M : Nat) (hM : M < 1000000) :
  ∀ (m : Nat) (e : El) (d : Nat) (s : σ) (A : Hp), fits e → okR R step s (pre M e d) → J s A → M + 1 ≤ d + m → d ≤ M + 1 → CALL prog G 155 [.agg (elC e), .int .i64 d, .int .i64 M, yv] A
   (fun r H' => r = .bool (runG step s (pre M e d)).2 ∧ ((runG step s (pre M e d)).2 = true → J (runG step s (pre M e d)).1 H') ∧ ((runG step s (pre M e d)).2 = false → E (runG step s (pre M e d)).1 H')) (fun _ _ => False) := by
 intro m
 induction m with
 | zero =>
   intro e d s A hfit hR hJ hm hd
   have hb : Nat.blt M d = true := blt_iff.2 (by omega)
   have hp : pre M e d = [] := by cases e; rw [pre, hb]; rfl
   rw [hp]
   refine CALL.of cF155 (Nat.le_of_ble_eq_true rfl) ?_
   refine AC.seq (AC.reg ?_)
   refine RG.box .d rfl rfl fun b hb => ?_
   refine go ?_
   refine RG.nilS (AC.seq (AC.seq (AC.reg ?_)))
   refine go ?_
   have e1 : decide ((d : Int) > M) = true := by simp; omega
   rw [e1]
   refine RG.nilS (AC.cond_t rfl (AC.seq (AC.reg ?_)))
   refine go ?_
   exact RG.nilS (AC.ret (finD (H' := A) rfl (SubH.fresh hb) ⟨rfl, fun _ => hJ, fun h => by cases h⟩))
 | succ m ih =>
   intro e d s A hfit hR hJ hm hd
   refine CALL.of cF155 (Nat.le_of_ble_eq_true rfl) ?_
   refine AC.seq (AC.reg ?_)
   refine RG.box .d rfl rfl fun b hb => ?_
   refine go ?_
   refine RG.nilS (AC.seq (AC.seq (AC.reg ?_)))
   refine go ?_
   cases e1 : decide ((d : Int) > M)
   case true =>
    have hlt := of_decide_eq_true e1
    have hbb : Nat.blt M d = true := blt_iff.2 (by omega)
    have hp : pre M e d = [] := by cases e; rw [pre, hbb]; rfl
    rw [hp]
    refine RG.nilS (AC.cond_t rfl (AC.seq (AC.reg ?_)))
    refine go ?_
    exact RG.nilS (AC.ret (finD (H' := A) rfl (SubH.fresh hb) ⟨rfl, fun _ => hJ, fun h => by cases h⟩))
   have hle := of_decide_eq_false e1
   have hbf : Nat.blt M d = false := blt_false (by omega)
   obtain ⟨p, n, t, o, ks⟩ := e
   obtain ⟨hkl, hks⟩ := hfit
   have he : elC (.mk p n t o ks) = [.int .i64 p, .str n, .str t, .bool o, .lst (elsC ks) ks.length 5 none] := by rw [elC]
   have hpre : pre M (.mk p n t o ks) d = (d, .mk p n t o ks) :: pres M ks (d + 1) := by rw [pre, hbf]; rfl
   rw [hpre] at hR ⊢
   rw [runG]
   obtain ⟨hR1, hR2⟩ := hR
   have hy1 := hy s (d, .mk p n t o ks) A hR1 hJ
   refine RG.nilS (AC.cond_f rfl (AC.skip (AC.seq (AC.seq (AC.reg ?_)))))
   refine go1 ?_
   refine go1 ?_
   refine RG.ld .d wh hbb (d := .agg (elC (.mk p n t o ks))) (by rw [he]; rfl) ?_
   refine RG.calV .d rfl rfl (hy1.frame hb notF_cells) (fun r H' ⟨A', ⟨k1, k2, k2'⟩, k3, k4⟩ => ?_) (fun r H' ⟨_, k, _⟩ => k.elim)
   subst k1; subst k4
   refine go ?_
   generalize hs1 : (step s (d, .mk p n t o ks)).1 = s1 at k2 k2' hR2 ⊢
   cases e2 : (step s (d, .mk p n t o ks)).2
   case false =>
    refine RG.nilS (AC.cond_t rfl (AC.seq (AC.reg ?_)))
    refine go ?_
    exact RG.nilS (AC.ret (finD (H' := A') rfl (SubH.fresh k3) ⟨rfl, fun h => (by cases h), fun _ => k2' e2⟩))
   have hJ1 := k2 e2
   have hR3 := hR2 e2
   refine RG.nilS (AC.cond_f rfl (AC.skip (AC.seq (AC.seq (AC.reg ?_)))))
   rw [cond_true, he]
   refine go ?_
   refine RG.nilS ?_
   generalize hRES : runG step s1 (pres M ks (d + 1)) = RES
   refine AC.bloopH (α := Nat × σ) (β := Unit) (fun a => ks.length - a.1) (fun a => [(1, .int .i64 d), (2, .int .i64 M), (3, yv), (20, .lst (elsC ks) ks.length 5 none), (21, .int .i64 ks.length), (22, .int .i64 a.1)])
    (fun a H' => a.1 ≤ ks.length ∧ ∃ A1, J a.2 A1 ∧ A1 b = none ∧ H' = A1.upd b (some (.cells [.int .i64 p, .str n, .str t, .bool o, .lst (elsC ks) ks.length 5 none] elT)) ∧ RES = runG step a.2 (pres M (ks.drop a.1) (d + 1)) ∧ okR R step a.2 (pres M (ks.drop a.1) (d + 1)))
    (fun _ => []) (fun _ H' => RES.2 = true ∧ ∃ A1, J RES.1 A1 ∧ SubH A1 H') ?_ ?_ (0, s1) _ ⟨Nat.zero_le _, A', hJ1, k3, rfl, hRES.symm, hR3⟩ ⟨rfl, rfl, rfl, rfl, rfl, rfl, trivial⟩
   · rintro _ He fr ⟨h1, A1, h2, h3⟩ hfr
     refine AC.to _ hfr (AC.seq (AC.reg ?_))
     refine go ?_
     exact RG.nilS (AC.ret (finD rfl h3 ⟨by rw [h1]; rfl, fun _ => h2, fun h => (by rw [h1] at h; cases h)⟩))
   · rintro ⟨i, s2⟩ H' ⟨h1, A2, h2, h3, h4, h5, h6⟩ ih2 ex
     subst h4
     dsimp only at h1 h2 h3 h5 h6 ⊢
     refine AC.seq (AC.reg ?_)
     refine go ?_
     cases e3 : decide ((i : Int) < ks.length)
     · have e := of_decide_eq_false e3
       have hd : ks.drop i = [] := List.drop_eq_nil_of_le (by omega)
       rw [hd] at h5
       have h7 : RES = (s2, true) := h5
       exact RG.nilS (AC.seq (AC.cond_f rfl (AC.exit (ex () _ _ ⟨by rw [h7], A2, by rw [h7]; exact h2, SubH.fresh h3⟩ trivial))))
     · have e := of_decide_eq_true e3
       have hi : i < ks.length := by omega
       rw [pres_drop M (d + 1) ks i hi] at h5 h6
       rw [runG_append] at h5
       obtain ⟨g1, g2⟩ := okR_append _ _ _ h6
       have hrow' := row_el hi
       have hmem := List.getElem_mem hi
       generalize ks[i] = x at h5 g1 g2 hrow' hmem
       refine RG.nilS (AC.seq (AC.cond_t rfl (AC.skip (AC.seq (AC.block (AC.seq (AC.reg ?_)))))))
       refine RG.p .d (evP_iadr wh wh (by omega)) ?_
       refine RG.p .d (evP_ldc wh hrow') ?_
       refine RG.alloc .d fun q hq => ?_
       have hqb : q ≠ b := fun e => by rw [e, Hp.upd_same] at hq; cases hq
       have hq2 : A2 q = none := by rw [Hp.upd_ne hqb] at hq; exact hq
       refine RG.sto (cs := [.int .i64 0, .str [], .str [], .bool false, .nils]) (ty := elT) (d := .agg (elC x)) (ys := elC x) .d wh Hp.upd_same (by exact rfl) rfl (elC_length _) (by exact Nat.le_refl _) ?_
       rw [Hp.upd_upd, spl_el]
       refine RG.nilS (AC.seq (AC.reg ?_))
       refine RG.ld .d wh Hp.upd_same (ldEl x) ?_
       refine go ?_
       have hc := ih x (d + 1) s2 A2 (fitss_mem ks hks _ hmem) g1 h2 (by omega) (by omega)
       have hc2 := (hc.frame (b := b) (o := .cells [.int .i64 p, .str n, .str t, .bool o, .lst (elsC ks) ks.length 5 none] elT) h3 notF_cells).frame (b := q) (o := .cells (elC x) elT) (by rw [Hp.upd_ne hqb]; exact hq2) notF_cells
       refine RG.call .d rfl hc2 (fun r H' ⟨B', ⟨B2, ⟨k1, k2, k2'⟩, k3, k4⟩, k5, k6⟩ => ?_) (fun r H' ⟨_, ⟨_, k, _⟩, _⟩ => k.elim)
       subst k1; subst k4; subst k6
       refine go ?_
       generalize hR : runG step s2 (pre M x (d + 1)) = Rx at h5 k2 k2' g2 ⊢
       cases e4 : Rx.2
       · rw [e4, cond_false] at h5
         refine RG.nilS (AC.cond_t rfl (AC.seq (AC.reg ?_)))
         refine go ?_
         exact RG.nilS (AC.ret (finD (H' := B2) rfl ((SubH.fresh k3).trans (SubH.fresh k5)) ⟨by rw [h5]; rfl, fun h => (by rw [h5] at h; cases h), fun _ => by rw [h5]; exact k2' e4⟩))
       · rw [e4, cond_true] at h5
         refine RG.nilS (AC.cond_f rfl (AC.skip ?_))
         refine AC.drop (SubH.fresh k5) (AC.reg ?_)
         refine go ?_
         exact RG.nil (ih2 (i + 1, Rx.1) _ ⟨by dsimp only; omega, B2, k2 e4, k3, rfl, h5, g2 e4⟩ (by dsimp only; omega) _ ⟨rfl, rfl, rfl, rfl, rfl, rfl, trivial⟩)
def wB (b1 b2 : Nat) (e : El) (M : Nat) : List (Nat × DO) := [(b2, .cells [.int .i64 M] 3), (b1, .cells (elC e) elT)]
theorem within1J_ok {b1 b2 : Nat} {e : El} {M : Nat} (hM : M < 1000000) (hfit : fits e) : ITER prog G 154 [] [.ptr b1 0, .ptr b2 0] walkE (pre M e 1) (wB b1 b2 e M) := by
 intro σ yv step R J E s0 A0 hy hyv hR hJ hB
 have hc := CALL.frameB hB (walkJ_ok hy M hM (M + 1) e 1 s0 A0 hfit hR hJ (by omega) (by omega))
 have hw2 : addB (wB b1 b2 e M) A0 b2 = some (.cells [.int .i64 M] 3) := Hp.upd_same
 have hne : b1 ≠ b2 := fun e => by
  have := hB.1
  rw [← e] at this
  simp only [addB, Hp.upd_same] at this
  cases this
 have hw1 : addB (wB b1 b2 e M) A0 b1 = some (.cells (elC e) elT) := by
  show ((A0.upd b1 _).upd b2 _) b1 = _
  rw [Hp.upd_ne hne]; exact Hp.upd_same
 refine CALL.of cF154 (Nat.le_of_ble_eq_true rfl) ?_
 refine AC.reg ?_
 refine RG.ld .d wh hw1 (ldEl e) ?_
 refine RG.ld .d wh hw2 (d := .int .i64 M) rfl ?_
 refine go ?_
 refine RG.call .d rfl hc (fun r H' ⟨A', ⟨k1, k2, k3⟩, k4, k5⟩ => ?_) (fun r H' ⟨_, k, _⟩ => k.elim)
 subst k5
 exact RG.nil (fin rfl ⟨A', k2, k3, k4, rfl⟩)
theorem Walk_ok (e : El) (H : Hp) : CALL prog G 71 [.agg (elC e)] H
  (fun r H' => ∃ b1 b2, r = .func (.func 154) [] [.ptr b1 0, .ptr b2 0] ∧ freeB (wB b1 b2 e 20) H ∧ H' = addB (wB b1 b2 e 20) H) (fun _ _ => False) := by
 refine CALL.of cF71 (Nat.le_of_ble_eq_true rfl) ?_
 refine AC.seq (AC.reg ?_)
 refine RG.box (d := .agg (elC e)) (ys := elC e) .d rfl rfl fun q hq => ?_
 refine go ?_
 refine RG.nilS (AC.seq (AC.reg ?_))
 refine RG.ld .d wh Hp.upd_same (ldEl e) ?_
 refine RG.call .d rfl (within_ok e 20 _) (fun r H1 ⟨b1, b2, h1, h2, h3, h4, h5⟩ => ?_) (fun _ _ h => h.elim)
 subst h4; subst h5
 have n1 : b1 ≠ q := fun e => by rw [e, Hp.upd_same] at h1; cases h1
 have n2 : b2 ≠ q := fun e => by rw [e, Hp.upd_same] at h2; cases h2
 rw [Hp.upd_ne n1] at h1
 rw [Hp.upd_ne n2] at h2
 refine go ?_
 refine RG.nilS (AC.ret (finD (H' := addB (wB b1 b2 e 20) H) rfl ?_ ⟨b1, b2, rfl, ⟨by show (H.upd b1 _) b2 = none; rw [Hp.upd_ne h3]; exact h2, notF_cells, h1, notF_cells, trivial⟩, rfl⟩))
 rw [wH, Hp.upd_comm (Ne.symm n1), Hp.upd_comm (Ne.symm n2)]
 refine SubH.fresh ?_
 show ((H.upd b1 _).upd b2 _) q = none
 rw [Hp.upd_ne (Ne.symm n2), Hp.upd_ne (Ne.symm n1)]; exact hq
def F74 : FN := ⟨71, (.seq (.reg [ji 3 (.box 3 (.t 0)), ji 5 (.box 22 (.t 2)), ji 6 (.alloc [(.bool false)] 4)])
 (.scp (.seq .skip
 (.seq (.seq (.reg [ji 12 (.mv (.t 1)), ji 13 (.call 133 [(.t 12)])])
 (.block 0 (.rng (.t 13) [14] (.reg [ji 7 (.mv (.t 14))])
 (.block 1 (.seq (.seq (.reg [ji 15 (.mv (.t 7)), ji 16 (.bin .eql (.t 15) (.c (.str [84, 69, 88, 84])))])
 (.cond (.t 16) (.exit 1)
 .skip))
 (.seq (.reg [ji 17 (.mv (.t 7)), ji 8 (.mv (.t 17)), ji 9 (.mv (.c (.int .u8 0)))])
 (.seq (.seq (.reg [ji 18 (.mv (.t 7)), ji 19 (.mv (.t 7)), ji 20 (.len true (.t 19)), ji 21 (.bin .sub (.t 20) (ci 1)), ji 22 (.idx (.t 18) (.t 21)), ji 10 (.mv (.t 22))])
 (.seq (.reg [ji 23 (.mv (.t 10)), ji 24 (.bin .eql (.t 23) (.c (.int .u8 63))), ji 25 (.mv (.t 24)), jg 26 25 false (.mv (.t 10)), jg 27 25 false (.bin .eql (.t 26) (.c (.int .u8 42))), ji 28 (.pick (.t 25) (.c (.bool true)) (.t 27)), ji 29 (.mv (.t 28)), jg 30 29 false (.mv (.t 10)), jg 31 29 false (.bin .eql (.t 30) (.c (.int .u8 43))), ji 32 (.pick (.t 29) (.c (.bool true)) (.t 31))])
 (.cond (.t 32) (.reg [ji 33 (.mv (.t 7)), ji 34 (.mv (.t 7)), ji 35 (.len true (.t 34)), ji 36 (.bin .sub (.t 35) (ci 1)), ji 37 (.slcS (.t 33) none (some (.t 36))), ji 38 (.mv (.t 10)), ji 8 (.mv (.t 37)), ji 9 (.mv (.t 38))])
 .skip)))
 (.seq (.reg [ji 11 (.mv (.c (.bool false)))])
 (.seq (.block 2 (.loop (.seq (.seq (.draw [ji 39 (.ld false 1 (.t 5)), ji 40 (.len false (.t 39)), ji 41 (.bin .gtr (.t 40) (ci 0)), ji 42 (.mv (.t 41)), jg 43 42 true (.ld false 1 (.t 3)), jg 44 42 true (.mv (.t 8)), jg 45 42 true (.ld false 1 (.t 5)), jg 46 42 true (.iadr 5 (.t 45) (ci 0)), jg 47 42 true (.ld true 5 (.t 46)), jg 48 42 true (.call 134 [(.t 43), (.t 44), (.t 47)]), ji 49 (.pick (.t 42) (.t 48) (.c (.bool false)))] [[], [0], [1], [2], [3], [3], [3], [6, 3], [7, 3], [4, 5, 8, 3, 3], [3, 9]])
 (.cond (.t 49) .skip
 (.exit 2)))
 (.block 3 (.seq (.reg [ji 11 (.mv (.c (.bool true)))])
 (.seq (.reg [ji 50 (.ld false 1 (.t 5)), ji 51 (.slc 5 (.t 50) (some (ci 1)) none none), jn (.st 1 (.t 5) (.t 51))])
 (.seq (.reg [ji 52 (.mv (.t 9)), ji 53 (.bin .neq (.t 52) (.c (.int .u8 42))), ji 54 (.mv (.t 53)), jg 55 54 true (.mv (.t 9)), jg 56 54 true (.bin .neq (.t 55) (.c (.int .u8 43))), ji 57 (.pick (.t 54) (.t 56) (.c (.bool false)))])
 (.cond (.t 57) (.exit 1)
 .skip))))))))
 (.seq (.reg [ji 58 (.mv (.t 11)), ji 59 (.un .not (.t 58)), ji 60 (.mv (.t 59)), jg 61 60 true (.mv (.t 9)), jg 62 60 true (.bin .neq (.t 61) (.c (.int .u8 63))), ji 63 (.pick (.t 60) (.t 62) (.c (.bool false))), ji 64 (.mv (.t 63)), jg 65 64 true (.mv (.t 9)), jg 66 64 true (.bin .neq (.t 65) (.c (.int .u8 42))), ji 67 (.pick (.t 64) (.t 66) (.c (.bool false)))])
 (.cond (.t 67) (.seq (.reg [jn (.st 1 (.t 6) (.c (.bool false)))])
 .ret)
 .skip)))))))))))
 (.seq (.reg [ji 68 (.ld false 1 (.t 5)), ji 69 (.len false (.t 68)), ji 70 (.bin .eql (.t 69) (ci 0)), jn (.st 1 (.t 6) (.t 70))])
 .ret))))), [.cell 6 false 1]⟩
theorem cF74 : cFn prog 74 = some F74 := by kernel_rfl
def stepF (p : Int) (ks : List El) (w : List UInt8) : List El × Bool := match takeW p w ks with
 | some r => (r, true)
 | none => (ks, false)
theorem fitsW_run (p : Int) : ∀ (ws : List (List UInt8)) (ks : List El), fitsW p ws ks = bif (runG (stepF p) ks ws).2 then (runG (stepF p) ks ws).1.isEmpty else false
 | [], ks => rfl
 | w :: ws, ks => by
   rw [fitsW, runG]
   unfold stepF
   cases h : takeW p w ks with
   | none => rfl
   | some r => exact fitsW_run p ws r
theorem dropWhile_len {α : Type} (q : α → Bool) (l : List α) : (l.dropWhile q).length ≤ l.length := (List.dropWhile_sublist q).length_le
theorem takeW_len {p : Int} {w : List UInt8} {ks r : List El} (h : takeW p w ks = some r) : r.length ≤ ks.length := by
 rw [takeW.eq_def] at h
 cases c1 : w == wTEXT
 · rw [c1, cond_false] at h
   cases c2 : (markF w == 42 || markF w == 43)
   · rw [c2, cond_false] at h
     cases ks with
     | nil =>
       dsimp only at h
       cases c3 : markF w == 63
       · rw [c3] at h; cases h
       · rw [c3] at h; cases h; exact Nat.le_refl _
     | cons k ks =>
       dsimp only at h
       cases c3 : oneF p (namesF w) k
       · rw [c3, cond_false] at h
         cases c4 : markF w == 63
         · rw [c4] at h; cases h
         · rw [c4] at h; cases h; exact Nat.le_refl _
       · rw [c3] at h; cases h; simp
   · rw [c2, cond_true] at h
     dsimp only at h
     cases c3 : (!(decide ((ks.dropWhile (oneF p (namesF w))).length < ks.length)) && !(markF w == 42))
     · rw [c3, cond_false] at h; cases h
       exact dropWhile_len _ _
     · rw [c3] at h; cases h
 · rw [c1, cond_true] at h; cases h; exact Nat.le_refl _
theorem wordsGo_ok : ∀ (l w : List UInt8), ∀ x ∈ wordsGo l w, x ≠ [] ∧ x.length ≤ l.length + w.length
 | [], w, x, hx => by
   rw [wordsGo] at hx
   cases h : w == []
   · rw [h, cond_false, List.mem_singleton] at hx
     subst hx
     exact ⟨by simpa using h, by omega⟩
   · rw [h] at hx; simp at hx
 | c :: l, w, x, hx => by
   rw [wordsGo] at hx
   cases hs : isSp c
   · rw [hs, cond_false] at hx
     have := wordsGo_ok l (w ++ [c]) x hx
     rw [List.length_append, List.length_singleton] at this
     exact ⟨this.1, by rw [List.length_cons]; omega⟩
   · rw [hs, cond_true] at hx
     cases h : w == []
     · rw [h, cond_false] at hx
       rcases List.mem_cons.1 hx with rfl | hx
       · exact ⟨by simpa using h, by omega⟩
       · have := wordsGo_ok l [] x hx
         simp only [List.length_nil] at this
         exact ⟨this.1, by rw [List.length_cons]; omega⟩
     · rw [h, cond_true] at hx
       have := wordsGo_ok l [] x hx
       simp only [List.length_nil] at this
       exact ⟨this.1, by rw [List.length_cons]; omega⟩
def fitR (ks : List El) (w : List UInt8) : Prop := w ≠ [] ∧ w.length ≤ 1000000 ∧ ks.length ≤ 1000000
theorem fitR_ok (p : Int) : ∀ (ws : List (List UInt8)) (ks : List El), (∀ w ∈ ws, w ≠ [] ∧ w.length ≤ 1000000) → ks.length ≤ 1000000 → okR fitR (stepF p) ks ws
 | [], _, _, _ => trivial
 | w :: ws, ks, h, hk => by
   refine ⟨⟨(h w (by simp)).1, (h w (by simp)).2, hk⟩, fun hs => ?_⟩
   unfold stepF at hs ⊢
   cases e : takeW p w ks with
   | none => rw [e] at hs; cases hs
   | some r => exact fitR_ok p ws r (fun x hx => h x (by simp [hx])) (Nat.le_trans (takeW_len e) hk)
theorem last_at {w : List UInt8} (h : w ≠ []) : w[w.length - 1]? = some (lastB w) := by
 rw [lastB, ← List.getLast?_eq_getElem?]
 cases w with
 | nil => exact absurd rfl h
 | cons c l => rw [List.getLastD_eq_getLast?, List.getLast?_cons]; rfl
theorem slc1 {G : Gl} {fr : Fr} {H : Hp} {t : Nat} {k : El} {r : List El} (h : XV G fr (.t t) = .lst (elsC (k :: r)) (k :: r).length 5 none) : evP G fr H (.slc 5 (.t t) (some (ci 1)) none none) = some (.lst (elsC r) r.length 5 none) := by
 show slcD 5 (some (.int .i64 1)) none none (XV G fr (.t t)) = _
 rw [h]
 have e1 : (0 : Int) ≤ 1 ∧ (1 : Int) ≤ (((k :: r).length : Nat) : Int) := by rw [List.length_cons]; omega
 have e2 : (elsC (k :: r)).take ((k :: r).length * 5) = elsC (k :: r) := List.take_of_length_le (by rw [elsC_length]; exact Nat.le_refl _)
 have e3 : (elsC (k :: r)).drop 5 = elsC r := by rw [elsC, ← elC_length k, List.drop_left]
 simp only [slcD, bndD, Option.bind_some, if_true, e1, and_self, e2, Option.map_none, ite_self]
 show some (DV.lst ((elsC (k :: r)).drop 5) ((k :: r).length - 1) 5 none) = _
 rw [e3, List.length_cons, Nat.add_sub_cancel]
theorem takeW_one {p : Int} {w : List UInt8} {k : El} {r : List El} (h1 : (w == wTEXT) = false) (h2 : (markF w == 42 || markF w == 43) = false) (h3 : oneF p (namesF w) k = true) : takeW p w (k :: r) = some r := by
 rw [takeW.eq_def, h1, cond_false, h2, cond_false]
 dsimp only
 rw [h3, cond_true]
structure FI (p : Int) (w : List UInt8) (ks r : List El) (t : Bool) : Prop where
 ht : t = decide (r.length < ks.length)
 hm : (markF w == 42 || markF w == 43) = true → r.dropWhile (oneF p (namesF w)) = ks.dropWhile (oneF p (namesF w))
 h1 : (markF w == 42 || markF w == 43) = false → r = ks
 hl : r.length ≤ ks.length
theorem FI.zero (p : Int) (w : List UInt8) (ks : List El) : FI p w ks ks false := ⟨by simp, fun _ => rfl, fun _ => rfl, Nat.le_refl _⟩
theorem FI.next {p : Int} {w : List UInt8} {ks r : List El} {k : El} {t : Bool} (h : FI p w ks (k :: r) t) (h2 : (markF w == 42 || markF w == 43) = true) (h3 : oneF p (namesF w) k = true) : FI p w ks r true := by
 have := h.hl
 rw [List.length_cons] at this
 refine ⟨by rw [eq_comm, decide_eq_true_iff]; omega, fun _ => ?_, fun e => (by rw [h2] at e; cases e), by omega⟩
 rw [← h.hm h2, List.dropWhile_cons, h3]; rfl
theorem markF_or (w : List UInt8) : markF w = 0 ∨ markF w = 42 ∨ markF w = 43 ∨ markF w = 63 := by
 unfold markF isMark
 cases h1 : lastB w == 63
 · cases h2 : lastB w == 42
   · cases h3 : lastB w == 43
     · exact .inl rfl
     · exact .inr (.inr (.inl (by simpa using h3)))
   · exact .inr (.inl (by simpa using h2))
 · exact .inr (.inr (.inr (by simpa using h1)))
theorem FI.stop {p : Int} {w : List UInt8} {ks r : List El} {t : Bool} (h : FI p w ks r t) (h1 : (w == wTEXT) = false) (h3 : r.dropWhile (oneF p (namesF w)) = r) :
  takeW p w ks = bif !t && !(markF w == 63) && !(markF w == 42) then none else some r := by
 rw [takeW.eq_def, h1, cond_false]
 cases h2 : (markF w == 42 || markF w == 43)
 · have e := h.h1 h2
   subst e
   have e : t = false := by rw [h.ht]; simp
   subst e
   have e42 : (markF w == 42) = false := by
    cases e : markF w == 42
    · rfl
    · rw [e] at h2; cases h2
   rw [cond_false, e42]
   cases r with
   | nil =>
     dsimp only
     cases markF w == 63 <;> rfl
   | cons k r =>
     dsimp only
     have e1 : oneF p (namesF w) k = false := by
      cases e : oneF p (namesF w) k
      · rfl
      · rw [List.dropWhile_cons, e] at h3
        have := congrArg List.length h3
        have hh := dropWhile_len (oneF p (namesF w)) r
        simp only [if_true] at this
        rw [List.length_cons] at this
        omega
     rw [e1]
     cases markF w == 63 <;> rfl
 · have e := h.hm h2
   rw [h3] at e
   rw [cond_true, ← e, h.ht]
   dsimp only
   have e63 : (markF w == 63) = false := by
    rcases markF_or w with e | e | e | e <;> rw [e] at h2 ⊢ <;> first | rfl | cases h2
   rw [e63]
   cases decide (r.length < ks.length) <;> cases markF w == 42 <;> rfl
theorem namesF_len {w : List UInt8} {n : Nat} (h : w.length ≤ n) : (namesF w).length ≤ n := by
 rw [namesF]
 cases isMark (lastB w)
 · exact h
 · rw [cond_true, List.length_dropLast]; omega
def fitX (H : Hp) (b3 b5 b6 : Nat) (p : Int) (ks : List El) (r : Bool) : Hp := ((H.upd b3 (some (.cells [.int .i64 p] 3))).upd b5 (some (.cells [.lst (elsC ks) ks.length 5 none] 22))).upd b6 (some (.cells [.bool r] 4))
theorem fitsM_ok (hG : GOS G) (p : Int) {rule : List UInt8} {ks : List El} (hr : rule.length ≤ 100000) (ha : ∀ c ∈ rule, c.toNat < 128) (hk : ks.length ≤ 1000000) :
  PF prog G 74 [.int .i64 p, .str rule, .lst (elsC ks) ks.length 5 none] (.bool (fitsF p rule ks)) := by
 intro H
 refine CALL.of cF74 (Nat.le_of_ble_eq_true rfl) ?_
 refine AC.seq (AC.reg ?_)
 refine RG.box (d := .int .i64 p) (ys := [.int .i64 p]) .d rfl rfl fun b3 h3 => ?_
 refine RG.box (d := .lst (elsC ks) ks.length 5 none) (ys := [.lst (elsC ks) ks.length 5 none]) .d rfl rfl fun b5 h5 => ?_
 refine RG.alloc .d fun b6 h6 => ?_
 have n65 : b6 ≠ b5 := fun e => by rw [e, Hp.upd_same] at h6; cases h6
 rw [Hp.upd_ne n65] at h6
 have n63 : b6 ≠ b3 := fun e => by rw [e, Hp.upd_same] at h6; cases h6
 rw [Hp.upd_ne n63] at h6
 have n53 : b5 ≠ b3 := fun e => by rw [e, Hp.upd_same] at h5; cases h5
 rw [Hp.upd_ne n53] at h5
 have x3 : ∀ ks r, fitX H b3 b5 b6 p ks r b3 = some (.cells [.int .i64 p] 3) := fun ks r => by rw [fitX, Hp.upd_ne (Ne.symm n63), Hp.upd_ne (Ne.symm n53)]; exact Hp.upd_same
 have x5 : ∀ ks r, fitX H b3 b5 b6 p ks r b5 = some (.cells [.lst (elsC ks) ks.length 5 none] 22) := fun ks r => by rw [fitX, Hp.upd_ne (Ne.symm n65)]; exact Hp.upd_same
 have x6 : ∀ ks r, fitX H b3 b5 b6 p ks r b6 = some (.cells [.bool r] 4) := fun ks r => Hp.upd_same
 have s5 : ∀ ks ks' r, (fitX H b3 b5 b6 p ks r).upd b5 (some (.cells [.lst (elsC ks') ks'.length 5 none] 22)) = fitX H b3 b5 b6 p ks' r := fun ks ks' r => by rw [fitX, Hp.upd_comm n65, Hp.upd_upd]; rfl
 have s6 : ∀ ks r r', (fitX H b3 b5 b6 p ks r).upd b6 (some (.cells [.bool r'] 4)) = fitX H b3 b5 b6 p ks r' := fun ks r r' => by rw [fitX, Hp.upd_upd]; rfl
 have hsub : ∀ ks r, SubH H (fitX H b3 b5 b6 p ks r) := fun ks r => SubH.over (SubH.over (SubH.over (SubH.refl H) h3) h5) h6
 have hstart : ((H.upd b3 (some (.cells [.int .i64 p] 3))).upd b5 (some (.cells [.lst (elsC ks) ks.length 5 none] 22))).upd b6 (some (.cells [.bool false] 4)) = fitX H b3 b5 b6 p ks false := rfl
 rw [hstart]
 have xn : ∀ ks r k, fitX H b3 b5 b6 p ks r k = none → k ≠ b3 ∧ k ≠ b5 ∧ k ≠ b6 := fun ks r k h => ⟨fun e => (by rw [e, x3] at h; cases h), fun e => (by rw [e, x5] at h; cases h), fun e => (by rw [e, x6] at h; cases h)⟩
 have x6p := x6
 generalize hX : fitX H b3 b5 b6 p = X0 at x3 x5 x6 s5 s6 hsub xn
 refine RG.nilS (AC.scp (AC.seq (AC.skip (AC.seq (AC.seq (AC.reg ?_))))))
 refine go1 ?_
 refine RG.call .d rfl (Words_ok rule _) (fun r H1 ⟨b, k1, k2, k3⟩ => ?_) (fun _ _ h => h.elim)
 subst k1; subst k3
 refine RG.nilS (AC.block ?_)
 generalize hfr : Fr.put _ (some 13) _ = fr
 have f3 : fr 3 = .ptr b3 0 := by rw [← hfr]; rfl
 have f5 : fr 5 = .ptr b5 0 := by rw [← hfr]; rfl
 have f6 : fr 6 = .ptr b6 0 := by rw [← hfr]; rfl
 have f13 : fr 13 = .func (.func 184) [] [.ptr b 0] := by rw [← hfr]; rfl
 clear hfr
 have hws : ∀ w ∈ wordsF rule, w ≠ [] ∧ w.length ≤ 1000000 := fun w hw => by
  have := wordsGo_ok rule [] w hw
  simp only [List.length_nil] at this
  exact ⟨this.1, by omega⟩
 have hres : fitsF p rule ks = bif (runG (stepF p) ks (wordsF rule)).2 then (runG (stepF p) ks (wordsF rule)).1.isEmpty else false := fitsW_run p _ _
 refine AC.rngJ (x := .t 13) (step := stepF p) f13 (Words1_ok hG (by omega) ha) (fun _ => rfl) fitR (fun ks' A' => A' = X0 ks' false) (fun _ pend A' => pend = some .ret ∧ ∃ ks', A' = X0 ks' false) ?_ ks _ (fitR_ok p _ _ hws hk) rfl ⟨k2, notF_cells, trivial⟩ ?_ ?_
 · rintro ks1 w A lp L hL ⟨hw0, hwl, hkl⟩ rfl hA
   obtain ⟨m3, m5, m6⟩ := xn _ _ _ hA
   refine AC.reg ?_
   refine go ?_
   refine RG.nil ⟨rfl, _, hA, rfl, fun L' hL' => ?_⟩
   refine AC.to [(3, .ptr b3 0), (5, .ptr b5 0), (6, .ptr b6 0), (7, .str w)] ⟨f3, f5, f6, rfl, trivial⟩ ?_
   have good : ∀ {r : List El} {fr2 : Fr}, takeW p w ks1 = some r → RndJ lp L' (stepF p ks1 w) (fun ks' A' => A' = X0 ks' false) (fun _ pend A' => pend = some .ret ∧ ∃ ks', A' = X0 ks' false) .normal fr2 ((X0 r false).upd lp (some L')) := by
    intro r fr2 h
    have hs : stepF p ks1 w = (r, true) := by unfold stepF; rw [h]
    rw [hs]
    refine ⟨X0 r false, rfl, rfl, ?_, SubH.refl _⟩
    rw [← hX] at hA ⊢
    rw [fitX, Hp.upd_ne m6, Hp.upd_ne m5, Hp.upd_ne m3] at hA ⊢
    exact hA
   have bad : ∀ {r : List El} {fr2 : Fr}, takeW p w ks1 = none → RndJ lp L' (stepF p ks1 w) (fun ks' A' => A' = X0 ks' false) (fun _ pend A' => pend = some .ret ∧ ∃ ks', A' = X0 ks' false) .ret fr2 ((X0 r false).upd lp (some L')) := by
    intro r fr2 h
    have hs : stepF p ks1 w = (ks1, false) := by unfold stepF; rw [h]
    rw [hs]
    refine ⟨X0 r false, rfl, ⟨rfl, r, rfl⟩, ?_, SubH.refl _⟩
    rw [← hX] at hA ⊢
    rw [fitX, Hp.upd_ne m6, Hp.upd_ne m5, Hp.upd_ne m3] at hA ⊢
    exact hA
   refine AC.block ?_
   refine au ?_
   cases c1 : w == wTEXT
   case true =>
    have hT1 : takeW p w ks1 = some ks1 := by rw [takeW.eq_def, c1, cond_true]
    refine AC.cond_t (by rw [← c1]; rfl) (AC.exit ?_)
    exact good (fr2 := fr) hT1
   refine AC.cond_f (by rw [← c1]; rfl) (AC.skip (AC.seq (AC.reg ?_)))
   refine go ?_
   have hlast := last_at hw0
   have hpos : 1 ≤ w.length := List.length_pos_iff.2 hw0
   have hdl : w.take ((w.length : Int) - 1).toNat = w.dropLast := by rw [List.dropLast_eq_take, show ((w.length : Int) - 1).toNat = w.length - 1 by omega]
   refine RG.nilS (AC.seqI (I := fun fr' H' => H' = (X0 ks1 false).upd lp (some L') ∧ Agrees fr' [(3, .ptr b3 0), (5, .ptr b5 0), (6, .ptr b6 0), (8, .str (namesF w)), (9, .int .u8 (markF w).toNat)]) ?_ ?_)
   · refine AC.seq (AC.reg ?_)
     refine go ?_
     refine RG.at .d wh wh (by omega) (by rw [show ((w.length : Int) - 1).toNat = w.length - 1 by omega]; exact hlast) ?_
     refine go ?_
     have hN : namesF w = bif isMark (lastB w) then w.dropLast else w := rfl
     have hM : markF w = bif isMark (lastB w) then lastB w else 0 := rfl
     rw [hN, hM]
     generalize lastB w = c at hlast ⊢
     refine RG.nilS (AC.seqI (I := fun fr' H' => H' = (X0 ks1 false).upd lp (some L') ∧ Agrees fr' [(3, .ptr b3 0), (5, .ptr b5 0), (6, .ptr b6 0), (7, .str w), (8, .str w), (9, .int .u8 0), (10, .int .u8 c.toNat), (32, .bool (isMark c))]) (AC.reg ?_) ?_)
     · refine go1 ?_
       refine RG.p (d := .bool (c == 63)) .d (congrArg (fun b => some (DV.bool b)) (u8_beq c 63 (by decide))) ?_
       cases k1 : c == 63
       case true =>
        refine go ?_
        exact RG.nil ⟨rfl, rfl, rfl, rfl, rfl, rfl, rfl, rfl, by rw [isMark, k1]; rfl, trivial⟩
       refine go1 ?_
       refine go1 ?_
       refine RG.p (d := .bool (c == 42)) .d (congrArg (fun b => some (DV.bool b)) (u8_beq c 42 (by decide))) ?_
       cases k2 : c == 42
       case true =>
        refine go ?_
        exact RG.nil ⟨rfl, rfl, rfl, rfl, rfl, rfl, rfl, rfl, by rw [isMark, k1, k2]; rfl, trivial⟩
       refine go1 ?_
       refine go1 ?_
       refine go1 ?_
       refine RG.p (d := .bool (c == 43)) .d (congrArg (fun b => some (DV.bool b)) (u8_beq c 43 (by decide))) ?_
       refine go ?_
       exact RG.nil ⟨rfl, rfl, rfl, rfl, rfl, rfl, rfl, rfl, by rw [isMark, k1, k2]; rfl, trivial⟩
     rintro fr1 H1 ⟨rfl, hf1⟩
     refine AC.to _ hf1 ?_
     cases isMark c
     · exact AC.cond_f rfl (AC.skip ⟨rfl, rfl, rfl, rfl, rfl, rfl, trivial⟩)
     · refine AC.cond_t rfl (AC.reg ?_)
       refine go ?_
       rw [hdl]
       exact RG.nil ⟨rfl, rfl, rfl, rfl, rfl, rfl, trivial⟩
   rintro fr1 H1 ⟨rfl, hf1⟩
   refine AC.to _ hf1 ?_
   clear hf1
   generalize hmk : markF w = mk
   generalize hnm : namesF w = nm
   refine AC.seq (AC.reg ?_)
   refine go ?_
   refine RG.nilS (AC.seq ?_)
   have hupd5 : ∀ r r', ((X0 r false).upd lp (some L')).upd b5 (some (.cells [.lst (elsC r') r'.length 5 none] 22)) = (X0 r' false).upd lp (some L') := fun r r' => by rw [Hp.upd_comm m5, s5]
   have hl3 : ∀ r, ((X0 r false).upd lp (some L')) b3 = some (.cells [.int .i64 p] 3) := fun r => by rw [Hp.upd_ne (Ne.symm m3), x3]
   have hl5 : ∀ r, ((X0 r false).upd lp (some L')) b5 = some (.cells [.lst (elsC r) r.length 5 none] 22) := fun r => by rw [Hp.upd_ne (Ne.symm m5), x5]
   refine AC.bloopH (α := List El × Bool) (β := List El × Bool) (fun a => a.1.length) (fun a => [(3, .ptr b3 0), (5, .ptr b5 0), (6, .ptr b6 0), (8, .str nm), (9, .int .u8 mk.toNat), (11, .bool a.2)])
    (fun a H' => H' = (X0 a.1 false).upd lp (some L') ∧ FI p w ks1 a.1 a.2) (fun a => [(3, .ptr b3 0), (5, .ptr b5 0), (6, .ptr b6 0), (9, .int .u8 mk.toNat), (11, .bool a.2)]) (fun a H' => H' = (X0 a.1 false).upd lp (some L') ∧ FI p w ks1 a.1 a.2 ∧ a.1.dropWhile (oneF p nm) = a.1) ?_ ?_ (ks1, false) _ ⟨rfl, FI.zero p w ks1⟩ ⟨rfl, rfl, rfl, rfl, rfl, rfl, trivial⟩
   · rintro ⟨r, t⟩ He fr ⟨rfl, hF, hd⟩ hfr
     dsimp only at hF hd hfr
     subst hnm
     have hst := hF.stop c1 hd
     have hl6 : ((X0 r false).upd lp (some L')) b6 = some (.cells [.bool false] 4) := by rw [Hp.upd_ne (Ne.symm m6), x6]
     have hs6 : ((X0 r false).upd lp (some L')).upd b6 (some (.cells [.bool false] 4)) = (X0 r false).upd lp (some L') := by rw [Hp.upd_comm m6, s6]
     refine AC.to _ hfr ?_
     rcases markF_or w with e | e | e | e <;> rw [e] at hmk hst <;> subst hmk <;> cases t
     all_goals
      refine au ?_
     all_goals first
      | exact good (r := r) (fr2 := fr) hst
      | (have hb := bad (r := r) (fr2 := fr) hst
         rw [← hs6] at hb
         exact AC.ret hb)
   · rintro ⟨r, t⟩ H' ⟨rfl, hF⟩ ih ex
     dsimp only at hF
     refine AC.seq (AC.seq (AC.drawP [] rfl ?_))
     cases r with
     | nil =>
       refine VP.v 0 rfl (evP_ld rfl (hl5 []) rfl) ?_
       first|refine VP.z0 1 ?_|refine VP.z1 1 ?_|refine VP.z2 1 ?_|refine VP.z3 1 ?_|refine VP.z4 1 ?_|refine VP.z5 1 ?_|refine VP.z6 1 ?_|refine VP.z7 1 ?_|refine VP.z8 1 ?_
       first|refine VP.z0 2 ?_|refine VP.z1 2 ?_|refine VP.z2 2 ?_|refine VP.z3 2 ?_|refine VP.z4 2 ?_|refine VP.z5 2 ?_|refine VP.z6 2 ?_|refine VP.z7 2 ?_|refine VP.z8 2 ?_
       first|refine VP.z0 3 ?_|refine VP.z1 3 ?_|refine VP.z2 3 ?_|refine VP.z3 3 ?_|refine VP.z4 3 ?_|refine VP.z5 3 ?_|refine VP.z6 3 ?_|refine VP.z7 3 ?_|refine VP.z8 3 ?_
       first|refine VP.z0 4 ?_|refine VP.z1 4 ?_|refine VP.z2 4 ?_|refine VP.z3 4 ?_|refine VP.z4 4 ?_|refine VP.z5 4 ?_|refine VP.z6 4 ?_|refine VP.z7 4 ?_|refine VP.z8 4 ?_
       first|refine VP.z0 5 ?_|refine VP.z1 5 ?_|refine VP.z2 5 ?_|refine VP.z3 5 ?_|refine VP.z4 5 ?_|refine VP.z5 5 ?_|refine VP.z6 5 ?_|refine VP.z7 5 ?_|refine VP.z8 5 ?_
       first|refine VP.z0 6 ?_|refine VP.z1 6 ?_|refine VP.z2 6 ?_|refine VP.z3 6 ?_|refine VP.z4 6 ?_|refine VP.z5 6 ?_|refine VP.z6 6 ?_|refine VP.z7 6 ?_|refine VP.z8 6 ?_
       first|refine VP.z0 7 ?_|refine VP.z1 7 ?_|refine VP.z2 7 ?_|refine VP.z3 7 ?_|refine VP.z4 7 ?_|refine VP.z5 7 ?_|refine VP.z6 7 ?_|refine VP.z7 7 ?_|refine VP.z8 7 ?_
       first|refine VP.z0 8 ?_|refine VP.z1 8 ?_|refine VP.z2 8 ?_|refine VP.z3 8 ?_|refine VP.z4 8 ?_|refine VP.z5 8 ?_|refine VP.z6 8 ?_|refine VP.z7 8 ?_|refine VP.z8 8 ?_
       first|refine VP.z0 9 ?_|refine VP.z1 9 ?_|refine VP.z2 9 ?_|refine VP.z3 9 ?_|refine VP.z4 9 ?_|refine VP.z5 9 ?_|refine VP.z6 9 ?_|refine VP.z7 9 ?_|refine VP.z8 9 ?_
       first|refine VP.z0 10 ?_|refine VP.z1 10 ?_|refine VP.z2 10 ?_|refine VP.z3 10 ?_|refine VP.z4 10 ?_|refine VP.z5 10 ?_|refine VP.z6 10 ?_|refine VP.z7 10 ?_|refine VP.z8 10 ?_
       refine VP.pd ?_
       refine AC.cond_f rfl (AC.exit (ex ([], t) _ _ ⟨rfl, hF, rfl⟩ ⟨rfl, rfl, rfl, rfl, rfl, trivial⟩))
     | cons k r =>
       have hrl : (k :: r).length ≤ 1000000 := Nat.le_trans hF.hl hkl
       have hlen : ((((k :: r).length : Nat) : Int) > 0) = true := by simp
       refine VP.v 0 rfl (evP_ld rfl (hl5 (k :: r)) rfl) ?_
       first|refine VP.z0 1 ?_|refine VP.z1 1 ?_|refine VP.z2 1 ?_|refine VP.z3 1 ?_|refine VP.z4 1 ?_|refine VP.z5 1 ?_|refine VP.z6 1 ?_|refine VP.z7 1 ?_|refine VP.z8 1 ?_
       refine VP.v (d := .bool true) 2 rfl (by
        show some (DV.bool (decide ((((k :: r).length : Nat) : Int) > 0))) = _
        rw [decide_eq_true (by rw [List.length_cons]; omega)]) ?_
       first|refine VP.z0 3 ?_|refine VP.z1 3 ?_|refine VP.z2 3 ?_|refine VP.z3 3 ?_|refine VP.z4 3 ?_|refine VP.z5 3 ?_|refine VP.z6 3 ?_|refine VP.z7 3 ?_|refine VP.z8 3 ?_
       refine VP.v 4 rfl (evP_ld rfl (hl3 (k :: r)) rfl) ?_
       first|refine VP.z0 5 ?_|refine VP.z1 5 ?_|refine VP.z2 5 ?_|refine VP.z3 5 ?_|refine VP.z4 5 ?_|refine VP.z5 5 ?_|refine VP.z6 5 ?_|refine VP.z7 5 ?_|refine VP.z8 5 ?_
       refine VP.v 6 rfl (evP_ld rfl (hl5 (k :: r)) rfl) ?_
       refine VP.v 7 rfl (evP_iadr rfl rfl (by rw [List.length_cons]; omega)) ?_
       refine VP.v 8 rfl (evP_ldc rfl (row_el (ks := k :: r) (i := 0) (by simp))) ?_
       refine VP.c 9 (one_okF hG.ok p nm k (by rw [← hnm]; exact namesF_len hwl)) ?_
       first|refine VP.z0 10 ?_|refine VP.z1 10 ?_|refine VP.z2 10 ?_|refine VP.z3 10 ?_|refine VP.z4 10 ?_|refine VP.z5 10 ?_|refine VP.z6 10 ?_|refine VP.z7 10 ?_|refine VP.z8 10 ?_
       refine VP.pd ?_
       cases c2 : oneF p nm k
       · exact AC.cond_f rfl (AC.exit (ex (k :: r, t) _ _ ⟨rfl, hF, by rw [List.dropWhile_cons, c2]; rfl⟩ ⟨rfl, rfl, rfl, rfl, rfl, trivial⟩))
       refine AC.cond_t rfl (AC.skip (AC.block (AC.seq (AC.reg ?_))))
       refine go ?_
       refine RG.nilS (AC.seq (AC.reg ?_))
       refine RG.ld .d wh (hl5 (k :: r)) rfl ?_
       refine RG.p .d (slc1 (k := k) (r := r) rfl) ?_
       refine RG.sto (cs := [.lst (elsC (k :: r)) (k :: r).length 5 none]) (ty := 22) (d := .lst (elsC r) r.length 5 none) (ys := [.lst (elsC r) r.length 5 none]) .d wh (hl5 (k :: r)) rfl rfl rfl (by simp) ?_
       rw [show spliceL 0 [DV.lst (elsC r) r.length 5 none] [DV.lst (elsC (k :: r)) (k :: r).length 5 none] = [DV.lst (elsC r) r.length 5 none] from rfl, hupd5]
       subst hnm
       rcases markF_or w with e | e | e | e <;> rw [e] at hmk <;> subst hmk
       all_goals
        refine au ?_
       all_goals first
        | exact AC.exit (good (r := r) (fr2 := fr) (by rw [← hF.h1 (by rw [e]; rfl)]; exact takeW_one c1 (by rw [e]; rfl) c2))
        | exact ih (r, true) _ ⟨rfl, hF.next (by rw [e]; rfl) c2⟩ (by simp) _ ⟨rfl, rfl, rfl, rfl, rfl, rfl, trivial⟩
 · intro A' h1 h2 h3
   subst h2
   rw [h1, cond_true] at hres
   generalize (runG (stepF p) ks (wordsF rule)).1 = r at hres h3 ⊢
   obtain ⟨hb0, _⟩ := h3
   obtain ⟨n3, n5, n6⟩ := xn _ _ _ hb0
   have hHb : H b = none := by
    have hb1 : fitX H b3 b5 b6 p r false b = none := by rw [hX]; exact hb0
    rw [fitX, Hp.upd_ne n6, Hp.upd_ne n5, Hp.upd_ne n3] at hb1; exact hb1
   have l5 : addB (strB b rule) (X0 r false) b5 = some (.cells [.lst (elsC r) r.length 5 none] 22) := by
    show ((X0 r false).upd b _) b5 = _
    rw [Hp.upd_ne (Ne.symm n5), x5]
   have l6 : addB (strB b rule) (X0 r false) b6 = some (.cells [.bool false] 4) := by
    show ((X0 r false).upd b _) b6 = _
    rw [Hp.upd_ne (Ne.symm n6), x6]
   have e6 : ∀ v, (addB (strB b rule) (X0 r false)).upd b6 (some (.cells [.bool v] 4)) = addB (strB b rule) (X0 r v) := fun v => by
    show ((X0 r false).upd b _).upd b6 _ = (X0 r v).upd b _
    rw [Hp.upd_comm n6, s6]
   have hsb : ∀ v, SubH H (addB (strB b rule) (X0 r v)) := fun v => SubH.over (hsub r v) hHb
   generalize addB (strB b rule) (X0 r false) = HA at l5 l6 e6 ⊢
   show AC _ _ _ _ _ _ _ _
   refine AC.to [(5, .ptr b5 0), (6, .ptr b6 0)] ⟨f5, f6, trivial⟩ (AC.seq (AC.reg ?_))
   refine RG.ld .d wh l5 rfl ?_
   refine go1 ?_
   refine RG.p (d := .bool r.isEmpty) .d (by cases r <;> rfl) ?_
   refine RG.sto (cs := [.bool false]) (ty := 4) (d := .bool r.isEmpty) (ys := [.bool r.isEmpty]) .d wh l6 rfl rfl rfl (by simp) ?_
   rw [show spliceL 0 [DV.bool r.isEmpty] [DV.bool false] = [DV.bool r.isEmpty] from rfl, e6]
   have lr : (addB (strB b rule) (X0 r r.isEmpty)) b6 = some (.cells [.bool r.isEmpty] 4) := by
    show ((X0 r r.isEmpty).upd b _) b6 = _
    rw [Hp.upd_ne (Ne.symm n6), x6]
   refine RG.nilS (AC.ret (finD (ds := [.bool (fitsF p rule ks)]) (H' := H) ?_ (hsb _) ⟨rfl, rfl⟩))
   show (ldD (addB (strB b rule) (X0 r r.isEmpty)) false 1 (.ptr b6 0)).bind _ = _
   rw [show ldD (addB (strB b rule) (X0 r r.isEmpty)) false 1 (.ptr b6 0) = some (.bool r.isEmpty) by simp only [ldD, lr]; rfl, hres]; rfl
 · rintro A' pd h1 ⟨rfl, ks', rfl⟩ h3
   rw [h1, cond_false] at hres
   obtain ⟨hb0, _⟩ := h3
   obtain ⟨n3, n5, n6⟩ := xn _ _ _ hb0
   have hHb : H b = none := by
    have hb1 : fitX H b3 b5 b6 p ks' false b = none := by rw [hX]; exact hb0
    rw [fitX, Hp.upd_ne n6, Hp.upd_ne n5, Hp.upd_ne n3] at hb1; exact hb1
   have hsb : ∀ r v, SubH H (addB (strB b rule) (X0 r v)) := fun r v => SubH.over (hsub r v) hHb
   have lr : (addB (strB b rule) (X0 ks' false)) b6 = some (.cells [.bool false] 4) := by
    show ((X0 ks' false).upd b _) b6 = _
    rw [Hp.upd_ne (Ne.symm n6), x6]
   refine finD (ds := [.bool (fitsF p rule ks)]) (H' := H) ?_ (hsb _ _) ⟨rfl, rfl⟩
   show (ldD (addB (strB b rule) (X0 ks' false)) false 1 (fr 6)).bind _ = _
   rw [show ldD (addB (strB b rule) (X0 ks' false)) false 1 (fr 6) = some (.bool false) by rw [f6]; simp only [ldD, lr]; rfl, hres]; rfl
def F22 : FN := ⟨52, (.seq (.reg [ji 1 (.box 24 (.t 0)), ji 2 (.alloc [(.int .i64 0)] 3), ji 3 (.alloc [(.int .i64 0)] 29)])
 (.seq (.seq (.reg [ji 10 (.ld true 5 (.t 1)), ji 11 (.call 38 [(.t 10)]), ji 4 (.mv (.t 11))])
 (.seq (.reg [ji 12 (.mv (.t 4)), ji 13 (.bin .neq (.t 12) (ci 0))])
 (.cond (.t 13) (.seq (.reg [ji 14 (.mv (.t 4)), jn (.st 1 (.t 2) (ci 0)), jn (.st 1 (.t 3) (.t 14))])
 .ret)
 .skip)))
 (.seq (.reg [ji 5 (.alloc [(.int .i64 0)] 3), jn (.st 1 (.t 5) (ci 0))])
 (.seq (.seq (.reg [ji 15 (.ld true 5 (.t 1)), ji 16 (.call 71 [(.t 15)])])
 (.block 0 (.rng (.t 16) [17, 18] (.reg [ji 7 (.alloc [(.int .i64 0), (.str []), (.str []), (.bool false), .nils] 24), jn (.st 5 (.t 7) (.t 18))])
 (.block 1 (.seq (.reg [ji 19 (.ld false 1 (.t 5)), ji 20 (.bin .add (.t 19) (ci 1)), jn (.st 1 (.t 5) (.t 20))])
 (.seq (.reg [ji 22 (.fadr 0 (.t 7)), ji 23 (.ld false 1 (.t 22)), ji 24 (.fadr 1 (.t 7)), ji 25 (.ld false 1 (.t 24)), ji 26 (.call 72 [(.t 23), (.t 25)]), ji 21 (.mv (.t 26)), ji 27 (.ext (.t 21) 0), ji 28 (.ext (.t 21) 1), ji 8 (.mv (.t 27)), ji 9 (.mv (.t 28))])
 (.block 2 (.seq (.reg [ji 30 (.mv (.t 9)), ji 31 (.un .not (.t 30)), ji 29 (.mv (.t 31))])
 (.cond (.t 29) (.seq (.reg [ji 32 (.ld false 1 (.t 5)), jn (.st 1 (.t 2) (.t 32)), jn (.st 1 (.t 3) (ci 14))])
 .ret)
 (.seq (.reg [ji 34 (.fadr 2 (.t 7)), ji 35 (.ld false 1 (.t 34)), ji 36 (.bin .neq (.t 35) (.c (.str []))), ji 37 (.mv (.t 36)), jg 38 37 true (.mv (.t 8)), jg 39 37 true (.call 73 [(.t 38), (.c (.str [84, 69, 88, 84]))]), jg 40 37 true (.un .not (.t 39)), ji 41 (.pick (.t 37) (.t 40) (.c (.bool false))), ji 33 (.mv (.t 41))])
 (.cond (.t 33) (.seq (.reg [ji 42 (.ld false 1 (.t 5)), jn (.st 1 (.t 2) (.t 42)), jn (.st 1 (.t 3) (ci 3))])
 .ret)
 (.seq (.reg [ji 44 (.fadr 0 (.t 7)), ji 45 (.ld false 1 (.t 44)), ji 46 (.mv (.t 8)), ji 47 (.fadr 4 (.t 7)), ji 48 (.ld false 1 (.t 47)), ji 49 (.call 74 [(.t 45), (.t 46), (.t 48)]), ji 50 (.un .not (.t 49)), ji 43 (.mv (.t 50))])
 (.cond (.t 43) (.seq (.reg [ji 51 (.ld false 1 (.t 5)), jn (.st 1 (.t 2) (.t 51)), jn (.st 1 (.t 3) (ci 15))])
 .ret)
 .skip)))))))))))))
 (.seq (.reg [jn (.st 1 (.t 2) (ci 0)), jn (.st 1 (.t 3) (ci 0))])
 .ret))))), [.cell 2 false 1, .cell 3 false 1]⟩
theorem cF22 : cFn prog 22 = some F22 := by kernel_rfl
mutual
theorem allE_okE : ∀ (e : El), okE e → allE (fun x => check1 x = 0) e
 | .mk p n t o ks, h => ⟨h.1, allEs_okE ks h.2⟩
theorem allEs_okE : ∀ (ks : List El), okEs ks → allEs (fun x => check1 x = 0) ks
 | [], _ => trivial
 | k :: ks, h => ⟨allE_okE k h.1, allEs_okE ks h.2⟩
end
theorem pre_check1 {e : El} (h : checkF e = 0) (m : Nat) : ∀ q ∈ pre m e 1, check1 q.2 = 0 := pre_all _ m e 1 (allE_okE e (check_ok h).1)
theorem nodes_le {e : El} (h : checkF e = 0) : nodes e ≤ 2000 := by
 have h2 := (check_ok h).2
 rw [nodes_pre e 1 5000 (by omega)]
 unfold checkF at h
 obtain ⟨_, h⟩ := bif_zero (by omega) h
 obtain ⟨h3, _⟩ := bif_zero (by omega) h
 simp only [weightF, List.length_take, decide_eq_false_iff_not] at h3
 omega
theorem rulesB_asc : ∀ c ∈ rulesB, c.toNat < 128 := by
 have h : (rulesB.all fun c => Nat.blt c.toNat 128) = true := by kernel_rfl
 intro c hc
 have := List.all_eq_true.1 h c hc
 exact Nat.le_of_ble_eq_true this
theorem rulesB_len' : rulesB.length ≤ 100000 := Nat.le_of_ble_eq_true (by kernel_rfl)
theorem lineF_sub (l : List UInt8) : (∀ c ∈ lineF l, c ∈ l) ∧ (lineF l).length ≤ l.length := by
 rw [lineF]
 cases h : cutO [10] l with
 | none => exact ⟨fun c hc => hc, Nat.le_refl _⟩
 | some p =>
   obtain ⟨a, r⟩ := p
   have := cutO_spec _ _ _ _ h
   subst this
   exact ⟨fun c hc => by simp [hc], by simp⟩
theorem ruleGo_sub (hd : List UInt8) : ∀ (f : Nat) (l r : List UInt8), ruleGo hd f l = some r → (∀ c ∈ r, c ∈ l) ∧ r.length ≤ l.length
 | 0, l, r, h => by cases h
 | f + 1, l, r, h => by
   rw [ruleGo] at h
   cases hc : cutO hd l with
   | none => rw [hc] at h; cases h
   | some p =>
     obtain ⟨a, b⟩ := p
     have hs := cutO_spec _ _ _ _ hc
     rw [hc] at h
     dsimp only at h
     have hbl : (∀ c ∈ b, c ∈ l) ∧ b.length ≤ l.length := by
      subst hs
      exact ⟨fun c hc => by simp [hc], by simp; omega⟩
     cases b with
     | nil => cases h; exact ⟨fun c hc => by simp at hc, by simp⟩
     | cons c t =>
       dsimp only at h
       cases k1 : c == 10
       · rw [k1, cond_false] at h
         cases k2 : c == 32
         · rw [k2, cond_false] at h
           have := ruleGo_sub hd f _ _ h
           exact ⟨fun x hx => hbl.1 x (this.1 x hx), Nat.le_trans this.2 hbl.2⟩
         · rw [k2, cond_true] at h
           cases h
           have := lineF_sub t
           exact ⟨fun x hx => hbl.1 x (by simp [this.1 x hx]), Nat.le_trans this.2 (Nat.le_trans (by simp) hbl.2)⟩
       · rw [k1, cond_true] at h
         cases h; exact ⟨fun c hc => by simp at hc, by simp⟩
theorem ruleF_ok {p : Int} {n r : List UInt8} (h : ruleF p n = some r) : r.length ≤ 100000 ∧ ∀ c ∈ r, c.toNat < 128 := by
 rw [ruleF] at h
 cases e : n == []
 · rw [e, cond_false] at h
   have := ruleGo_sub _ _ _ _ h
   exact ⟨Nat.le_trans this.2 rulesB_len', fun c hc => rulesB_asc c (this.1 c hc)⟩
 · rw [e] at h; cases h
def gramS (s : Nat × Int) (q : Nat × El) : (Nat × Int) × Bool := bif gram1 q.2 == 0 then ((s.1 + 1, 0), true) else ((s.1 + 1, gram1 q.2), false)
theorem gramGo_run : ∀ (l : List (Nat × El)) (n : Nat) (f : Int), gramGo n l = bif (runG gramS (n, f) l).2 then (0, 0) else (runG gramS (n, f) l).1
 | [], n, f => rfl
 | q :: l, n, f => by
   rw [gramGo, runG]
   unfold gramS
   cases e : gram1 q.2 == 0
   · rfl
   · exact gramGo_run l (n + 1) 0
def gramR (s : Nat × Int) (q : Nat × El) : Prop := s.1 ≤ 100000 ∧ check1 q.2 = 0
theorem gramR_ok : ∀ (l : List (Nat × El)) (s : Nat × Int), s.1 + l.length ≤ 100000 → (∀ q ∈ l, check1 q.2 = 0) → okR gramR gramS s l
 | [], _, _, _ => trivial
 | q :: l, s, h, hc => by
   rw [List.length_cons] at h
   refine ⟨⟨by omega, hc q (by simp)⟩, fun hs => ?_⟩
   unfold gramS at hs ⊢
   cases e : gram1 q.2 == 0
   · rw [e] at hs; cases hs
   · have h' : s.1 + 1 + l.length ≤ 100000 := by omega
     exact gramR_ok l (s.1 + 1, 0) h' (fun x hx => hc x (by simp [hx]))
theorem gram_ok (hG : GOS G) (e : El) (hfit : fits e) : PF prog G 22 [.agg (elC e)] (.tup [.int .i64 (gramF e).1, .int .i64 (gramF e).2]) := by
 intro H
 refine CALL.of cF22 (Nat.le_of_ble_eq_true rfl) ?_
 refine AC.seq (AC.reg ?_)
 refine RG.box (d := .agg (elC e)) (ys := elC e) .d rfl rfl fun b1 h1 => ?_
 refine RG.alloc .d fun b2 h2 => ?_
 refine RG.alloc .d fun b3 h3 => ?_
 have n32 : b3 ≠ b2 := fun e => by rw [e, Hp.upd_same] at h3; cases h3
 rw [Hp.upd_ne n32] at h3
 have n31 : b3 ≠ b1 := fun e => by rw [e, Hp.upd_same] at h3; cases h3
 rw [Hp.upd_ne n31] at h3
 have n21 : b2 ≠ b1 := fun e => by rw [e, Hp.upd_same] at h2; cases h2
 rw [Hp.upd_ne n21] at h2
 let Y : Nat → Int → Hp := fun n f => ((H.upd b1 (some (.cells (elC e) 24))).upd b2 (some (.cells [.int .i64 n] 3))).upd b3 (some (.cells [.int .i64 f] 29))
 have y1 : ∀ n f, Y n f b1 = some (.cells (elC e) 24) := fun n f => by show ((_ : Hp).upd b3 _) b1 = _; rw [Hp.upd_ne (Ne.symm n31), Hp.upd_ne (Ne.symm n21)]; exact Hp.upd_same
 have y2 : ∀ n f, Y n f b2 = some (.cells [.int .i64 n] 3) := fun n f => by show ((_ : Hp).upd b3 _) b2 = _; rw [Hp.upd_ne (Ne.symm n32)]; exact Hp.upd_same
 have y3 : ∀ n f, Y n f b3 = some (.cells [.int .i64 f] 29) := fun n f => Hp.upd_same
 have u2 : ∀ n f n', (Y n f).upd b2 (some (.cells [.int .i64 (n' : Nat)] 3)) = Y n' f := fun n f n' => by show ((_ : Hp).upd b3 _).upd b2 _ = _; rw [Hp.upd_comm n32, Hp.upd_upd]
 have u3 : ∀ n f f', (Y n f).upd b3 (some (.cells [.int .i64 f'] 29)) = Y n f' := fun n f f' => by show ((_ : Hp).upd b3 _).upd b3 _ = _; rw [Hp.upd_upd]
 have hsub : ∀ n f, SubH H (Y n f) := fun n f => SubH.over (SubH.over (SubH.over (SubH.refl H) h1) h2) h3
 have yn : ∀ n f k, Y n f k = none → k ≠ b1 ∧ k ≠ b2 ∧ k ≠ b3 ∧ H k = none ∧ ∀ n' f', Y n' f' k = none := fun n f k h => by
  have k1 : k ≠ b1 := fun e => (by rw [e, y1] at h; cases h)
  have k2 : k ≠ b2 := fun e => (by rw [e, y2] at h; cases h)
  have k3 : k ≠ b3 := fun e => (by rw [e, y3] at h; cases h)
  have h : ((((H.upd b1 (some (.cells (elC e) 24))).upd b2 (some (.cells [.int .i64 n] 3))).upd b3 (some (.cells [.int .i64 f] 29))) k) = none := h
  rw [Hp.upd_ne k3, Hp.upd_ne k2, Hp.upd_ne k1] at h
  exact ⟨k1, k2, k3, h, fun n' f' => by show (((H.upd b1 _).upd b2 _).upd b3 _) k = none; rw [Hp.upd_ne k3, Hp.upd_ne k2, Hp.upd_ne k1]; exact h⟩
 show RG _ _ _ _ _ _ _ (Y 0 0)
 have hres : ∀ {n : Nat} {f : Int} {HR : Hp} {fr : Fr}, fr 2 = .ptr b2 0 → fr 3 = .ptr b3 0 → HR b2 = some (.cells [.int .i64 n] 3) → HR b3 = some (.cells [.int .i64 f] 29) → SubH H HR → gramF e = (n, f) →
   Fin F22.rs (fun d' H' => d' = .tup [.int .i64 (gramF e).1, .int .i64 (gramF e).2] ∧ H' = H) (fun _ _ => False) .ret fr HR := by
  intro n f HR fr f2 f3 l2 l3 hs hg
  refine finD (ds := [.int .i64 n, .int .i64 f]) (H' := H) ?_ hs ⟨by rw [hg]; rfl, rfl⟩
  show (ldD HR false 1 (fr 2)).bind (fun d => ((ldD HR false 1 (fr 3)).bind _).bind _) = _
  rw [f2, f3]
  simp only [ldD, l2, l3]; rfl
 generalize Y = Y0 at y1 y2 y3 u2 u3 hsub yn ⊢
 refine RG.nilS (AC.seq (AC.seq (AC.reg ?_)))
 refine RG.ld .d wh (y1 0 0) (ldEl e) ?_
 refine RG.callP .d rfl (Check_ok hG.ok e hfit) ?_
 refine go ?_
 refine RG.nilS (AC.seq (AC.reg ?_))
 refine go1 ?_
 refine RG.p (d := .bool (!(checkF e == 0))) .d (by rfl) ?_
 cases c1 : checkF e == 0
 case false =>
  refine RG.nilS (AC.cond_t rfl (AC.seq (AC.reg ?_)))
  have hg : gramF e = ((0 : Nat), checkF e) := by rw [gramF, c1, cond_false]
  refine go1 ?_
  refine RG.sto (cs := [.int .i64 0]) (ty := 3) (d := .int .i64 0) (ys := [.int .i64 0]) .d wh (y2 0 0) rfl rfl rfl (by simp) ?_
  rw [show spliceL 0 [DV.int .i64 0] [DV.int .i64 0] = [DV.int .i64 ((0 : Nat) : Int)] from rfl, u2]
  refine RG.sto (cs := [.int .i64 0]) (ty := 29) (d := .int .i64 (checkF e)) (ys := [.int .i64 (checkF e)]) .d wh (y3 0 0) rfl rfl rfl (by simp) ?_
  rw [show spliceL 0 [DV.int .i64 (checkF e)] [DV.int .i64 0] = [DV.int .i64 (checkF e)] from rfl, u3]
  exact RG.nilS (AC.ret (hres rfl rfl (y2 0 _) (y3 0 _) (hsub _ _) hg))
 refine RG.nilS (AC.cond_f rfl ?_)
 have hz : checkF e = 0 := by simpa using c1
 refine AC.skip (AC.seq (AC.reg ?_))
 refine RG.alloc .d fun b5 h5 => ?_
 obtain ⟨n51, n52, n53, h5', _⟩ := yn _ _ _ h5
 refine RG.sto (cs := [.int .i64 0]) (ty := 3) (d := .int .i64 0) (ys := [.int .i64 0]) .d wh Hp.upd_same rfl rfl rfl (by simp) ?_
 rw [Hp.upd_upd, show spliceL 0 [DV.int .i64 0] [DV.int .i64 0] = [DV.int .i64 ((0 : Nat) : Int)] from rfl]
 refine RG.nilS (AC.seq (AC.seq (AC.reg ?_)))
 refine RG.ld .d wh (d := .agg (elC e)) (by rw [Hp.upd_ne (Ne.symm n51)]; exact y1 0 0) (ldEl e) ?_
 refine RG.call .d rfl (Walk_ok e _) (fun r H1 ⟨w1, w2, k1, k2, k3⟩ => ?_) (fun _ _ h => h.elim)
 subst k1; subst k3
 refine RG.nilS (AC.block ?_)
 generalize hfr : Fr.put _ (some 16) _ = fr
 have f1 : fr 1 = .ptr b1 0 := by rw [← hfr]; rfl
 have f2 : fr 2 = .ptr b2 0 := by rw [← hfr]; rfl
 have f3 : fr 3 = .ptr b3 0 := by rw [← hfr]; rfl
 have f5 : fr 5 = .ptr b5 0 := by rw [← hfr]; rfl
 have f16 : fr 16 = .func (.func 154) [] [.ptr w1 0, .ptr w2 0] := by rw [← hfr]; rfl
 clear hfr
 have hgr : gramF e = bif (runG gramS (0, 0) (pre 20 e 1)).2 then (0, 0) else (runG gramS (0, 0) (pre 20 e 1)).1 := by rw [gramF, c1, cond_true]; exact gramGo_run _ 0 0
 have hlen := pre_size 20 e 1
 have hnod := nodes_le hz
 let Z : Nat → Int → Nat → Hp := fun n f c => (Y0 n f).upd b5 (some (.cells [.int .i64 c] 3))
 refine AC.rngJ (x := .t 16) (step := gramS) f16 (within1J_ok (by omega) hfit) (fun _ => rfl) gramR (fun s A' => A' = Z 0 0 s.1) (fun s pend A' => pend = some .ret ∧ A' = Z s.1 s.2 s.1) ?_ (0, 0) _ (gramR_ok _ _ (by simp only; omega) (pre_check1 hz 20)) rfl k2 ?_ ?_
 · rintro ⟨n, f0⟩ ⟨d, x⟩ A lp L hL ⟨hn, hx⟩ rfl hA
   dsimp only at hn hx hA ⊢
   obtain ⟨p, nm, t, o, ks⟩ := x
   obtain ⟨hp, hnm, hks, _⟩ := check1_ok hx
   have hl5 : lp ≠ b5 := fun e => by
    rw [e] at hA
    have : Z 0 0 n b5 = some (.cells [.int .i64 n] 3) := Hp.upd_same
    rw [this] at hA; cases hA
   have hlY : Y0 0 0 lp = none := by
    have : ((Y0 0 0).upd b5 (some (.cells [.int .i64 n] 3))) lp = none := hA
    rw [Hp.upd_ne hl5] at this; exact this
   obtain ⟨_, hl2, hl3, _, hlp0⟩ := yn _ _ _ hlY
   refine AC.reg ?_
   refine RG.alloc .d fun q hq => ?_
   refine RG.sto (cs := [.int .i64 0, .str [], .str [], .bool false, .nils]) (ty := 24) (d := .agg (elC (.mk p nm t o ks))) (ys := elC (.mk p nm t o ks)) .d wh Hp.upd_same (by exact rfl) rfl (elC_length _) (by exact Nat.le_refl _) ?_
   rw [Hp.upd_upd, spl_el]
   have qlp : q ≠ lp := fun e => by rw [e, Hp.upd_same] at hq; cases hq
   rw [Hp.upd_ne qlp] at hq
   have qb5 : q ≠ b5 := fun e => by
    rw [e] at hq
    have : Z 0 0 n b5 = some (.cells [.int .i64 n] 3) := Hp.upd_same
    rw [this] at hq; cases hq
   have hqY : Y0 0 0 q = none := by
    have : ((Y0 0 0).upd b5 (some (.cells [.int .i64 n] 3))) q = none := hq
    rw [Hp.upd_ne qb5] at this; exact this
   obtain ⟨_, qb2, qb3, _, hq0⟩ := yn _ _ _ hqY
   refine RG.nil ⟨rfl, (Z 0 0 n).upd q (some (.cells (elC (.mk p nm t o ks)) 24)), by rw [Hp.upd_ne (Ne.symm qlp)]; exact hA, by rw [Hp.upd_comm (Ne.symm qlp)], fun L' hL' => ?_⟩
   refine AC.to [(2, .ptr b2 0), (3, .ptr b3 0), (5, .ptr b5 0), (7, .ptr q 0)] ⟨f2, f3, f5, rfl, trivial⟩ ?_
   have zlp : ∀ a f c, Z a f c lp = none := fun a f c => by
    show ((Y0 a f).upd b5 _) lp = none
    rw [Hp.upd_ne hl5]; exact hlp0 a f
   have zq : ∀ a f c, Z a f c q = none := fun a f c => by
    show ((Y0 a f).upd b5 _) q = none
    rw [Hp.upd_ne qb5]; exact hq0 a f
   let W : Nat → Int → Nat → Hp := fun a f c => ((Z a f c).upd q (some (.cells [.int .i64 p, .str nm, .str t, .bool o, .lst (elsC ks) ks.length 5 none] 24))).upd lp (some L')
   have wq : ∀ a f c, W a f c q = some (.cells [.int .i64 p, .str nm, .str t, .bool o, .lst (elsC ks) ks.length 5 none] 24) := fun a f c => by
    show ((_ : Hp).upd lp _) q = _
    rw [Hp.upd_ne qlp]; exact Hp.upd_same
   have w5 : ∀ a f c, W a f c b5 = some (.cells [.int .i64 c] 3) := fun a f c => by
    show ((_ : Hp).upd lp _) b5 = _
    rw [Hp.upd_ne (Ne.symm hl5), Hp.upd_ne (Ne.symm qb5)]; exact Hp.upd_same
   have w2 : ∀ a f c, W a f c b2 = some (.cells [.int .i64 a] 3) := fun a f c => by
    show ((_ : Hp).upd lp _) b2 = _
    rw [Hp.upd_ne (Ne.symm hl2), Hp.upd_ne (Ne.symm qb2)]
    show ((Y0 a f).upd b5 _) b2 = _
    rw [Hp.upd_ne (Ne.symm n52)]; exact y2 _ _
   have w3 : ∀ a f c, W a f c b3 = some (.cells [.int .i64 f] 29) := fun a f c => by
    show ((_ : Hp).upd lp _) b3 = _
    rw [Hp.upd_ne (Ne.symm hl3), Hp.upd_ne (Ne.symm qb3)]
    show ((Y0 a f).upd b5 _) b3 = _
    rw [Hp.upd_ne (Ne.symm n53)]; exact y3 _ _
   have v5 : ∀ a f c (c' : Nat), (W a f c).upd b5 (some (.cells [.int .i64 c'] 3)) = W a f c' := fun a f c c' => by
    show (((_ : Hp).upd q _).upd lp _).upd b5 _ = _
    rw [Hp.upd_comm hl5, Hp.upd_comm qb5]
    show (((((Y0 a f).upd b5 _).upd b5 _).upd q _).upd lp _) = _
    rw [Hp.upd_upd]
   have v2 : ∀ a f c (a' : Nat), (W a f c).upd b2 (some (.cells [.int .i64 a'] 3)) = W a' f c := fun a f c a' => by
    show (((_ : Hp).upd q _).upd lp _).upd b2 _ = _
    rw [Hp.upd_comm hl2, Hp.upd_comm qb2]
    show (((((Y0 a f).upd b5 _).upd b2 _).upd q _).upd lp _) = _
    rw [Hp.upd_comm n52, u2]
   have v3 : ∀ a f c (f' : Int), (W a f c).upd b3 (some (.cells [.int .i64 f'] 29)) = W a f' c := fun a f c f' => by
    show (((_ : Hp).upd q _).upd lp _).upd b3 _ = _
    rw [Hp.upd_comm hl3, Hp.upd_comm qb3]
    show (((((Y0 a f).upd b5 _).upd b3 _).upd q _).upd lp _) = _
    rw [Hp.upd_comm n53, u3]
   have hsW : ∀ a f c, SubH ((Z a f c).upd lp (some L')) (W a f c) := fun a f c => by
    show SubH _ (((Z a f c).upd q _).upd lp _)
    rw [Hp.upd_comm qlp]
    exact SubH.fresh (by rw [Hp.upd_ne qlp]; exact zq a f c)
   have good : ∀ {fr2 : Fr}, gram1 (.mk p nm t o ks) = 0 → RndJ lp L' (gramS (n, f0) (d, .mk p nm t o ks)) (fun s A' => A' = Z 0 0 s.1) (fun s pend A' => pend = some .ret ∧ A' = Z s.1 s.2 s.1) .normal fr2 (W 0 0 (n + 1)) := by
    intro fr2 h
    have hs : gramS (n, f0) (d, .mk p nm t o ks) = ((n + 1, 0), true) := by unfold gramS; rw [h]; rfl
    rw [hs]
    exact ⟨Z 0 0 (n + 1), rfl, rfl, zlp _ _ _, hsW _ _ _⟩
   have bad : ∀ {fr2 : Fr} (f : Int), f ≠ 0 → gram1 (.mk p nm t o ks) = f → RndJ lp L' (gramS (n, f0) (d, .mk p nm t o ks)) (fun s A' => A' = Z 0 0 s.1) (fun s pend A' => pend = some .ret ∧ A' = Z s.1 s.2 s.1) .ret fr2 (((W 0 0 (n + 1)).upd b2 (some (.cells [.int .i64 ((n + 1 : Nat) : Int)] 3))).upd b3 (some (.cells [.int .i64 f] 29))) := by
    intro fr2 f hf h
    have hs : gramS (n, f0) (d, .mk p nm t o ks) = ((n + 1, f), false) := by
     unfold gramS; dsimp only; rw [h, show (f == 0) = false by simpa using hf]; rfl
    rw [hs, v2, v3]
    exact ⟨Z (n + 1) f (n + 1), rfl, ⟨rfl, rfl⟩, zlp _ _ _, hsW _ _ _⟩
   have hW0 : ((Z 0 0 n).upd q (some (.cells (elC (.mk p nm t o ks)) 24))).upd lp (some L') = W 0 0 n := by rw [eta_el]; rfl
   rw [hW0]
   generalize W = W0 at wq w2 w3 w5 v5 good bad ⊢
   clear hsW v2 v3 hW0
   refine AC.block (AC.seq (AC.reg ?_))
   refine RG.ld .d wh (w5 0 0 n) rfl ?_
   refine RG.addI .d wh wh (by omega) ?_
   refine RG.sto (cs := [.int .i64 n]) (ty := 3) (d := .int .i64 ((n + 1 : Nat) : Int)) (ys := [.int .i64 ((n + 1 : Nat) : Int)]) .d (by exact rfl) (w5 0 0 n) (by exact rfl) rfl rfl (by simp) ?_
   rw [show spliceL 0 [DV.int .i64 ((n + 1 : Nat) : Int)] [DV.int .i64 n] = [DV.int .i64 ((n + 1 : Nat) : Int)] from rfl, v5]
   have p5 := w5 0 0 (n + 1)
   have p2 := w2 0 0 (n + 1)
   have p3 := w3 0 0 (n + 1)
   have pq := wq 0 0 (n + 1)
   generalize W0 0 0 (n + 1) = WW at p5 p2 p3 pq good bad ⊢
   have hR := Rule_ok hG.ok hp hnm
   cases hr : ruleF p nm with
   | none =>
     rw [hr] at hR
     have hg : gram1 (.mk p nm t o ks) = 14 := by show (match ruleF p nm with | none => _ | some r => _) = _; rw [hr]
     repeat (first | refine go1 ?_ | refine RG.zD ?_ | refine RG.callP .d rfl (hR) ?_ | refine nav ?_)
     exact AC.ret (bad (fr2 := fr) 14 (by decide) hg)
   | some r =>
     rw [hr] at hR
     obtain ⟨hr1, hr2⟩ := ruleF_ok hr
     have hg : gram1 (.mk p nm t o ks) = bif !(t == []) && !(wTEXT.isPrefixOf r) then 3 else bif !(fitsF p r ks) then 15 else 0 := by
      show (match ruleF p nm with | none => _ | some r => _) = _
      rw [hr]; rfl
     have hF := fitsM_ok hG p hr1 hr2 (show ks.length ≤ 1000000 by omega)
     have hPr := hasPre_ok (G := G) r wTEXT
     repeat (first | refine go1 ?_ | refine RG.zD ?_ | refine RG.callP .d rfl (hR) ?_ | refine nav ?_)
     cases ht : t == []
     case true =>
      rw [ht, Bool.not_true, Bool.false_and, cond_false] at hg
      repeat (first | refine go1 ?_ | refine RG.zD ?_ | refine RG.callP .d rfl (hF) ?_ | refine nav ?_)
      cases hff : fitsF p r ks
      · rw [hff] at hg
        refine au ?_
        exact AC.ret (bad (fr2 := fr) 15 (by decide) hg)
      · rw [hff] at hg
        refine au ?_
        exact good (fr2 := fr) hg
     rw [ht] at hg
     repeat (first | refine go1 ?_ | refine RG.zD ?_ | refine RG.callP .d rfl (hPr) ?_ | refine nav ?_)
     cases hpp : wTEXT.isPrefixOf r
     · rw [hpp] at hg
       refine au ?_
       exact AC.ret (bad (fr2 := fr) 3 (by decide) hg)
     rw [hpp] at hg
     repeat (first | refine go1 ?_ | refine RG.zD ?_ | refine RG.callP .d rfl (hF) ?_ | refine nav ?_)
     cases hff : fitsF p r ks
     · rw [hff] at hg
       refine au ?_
       exact AC.ret (bad (fr2 := fr) 15 (by decide) hg)
     · rw [hff] at hg
       refine au ?_
       exact good (fr2 := fr) hg
 · intro A' h1 h2 h3
   subst h2
   rw [h1, cond_true] at hgr
   generalize (runG gramS (0, 0) (pre 20 e 1)).1.1 = c at h3 ⊢
   have hs := freeB_sub h3
   have l2 : addB (wB w1 w2 e 20) (Z 0 0 c) b2 = some (.cells [.int .i64 ((0 : Nat) : Int)] 3) := hs _ _ (by show ((Y0 0 0).upd b5 _) b2 = _; rw [Hp.upd_ne (Ne.symm n52)]; exact y2 0 0)
   have l3 : addB (wB w1 w2 e 20) (Z 0 0 c) b3 = some (.cells [.int .i64 0] 29) := hs _ _ (by show ((Y0 0 0).upd b5 _) b3 = _; rw [Hp.upd_ne (Ne.symm n53)]; exact y3 0 0)
   have hsb : SubH H (addB (wB w1 w2 e 20) (Z 0 0 c)) := (SubH.over (hsub 0 0) h5').trans hs
   generalize addB (wB w1 w2 e 20) (Z 0 0 c) = HA at l2 l3 hsb ⊢
   show AC _ _ _ _ _ _ _ _
   refine AC.to [(2, .ptr b2 0), (3, .ptr b3 0)] ⟨f2, f3, trivial⟩ (AC.seq (AC.reg ?_))
   refine RG.sto (cs := [.int .i64 0]) (ty := 3) (d := .int .i64 0) (ys := [.int .i64 0]) .d wh l2 rfl rfl rfl (by simp) ?_
   rw [show spliceL 0 [DV.int .i64 0] [DV.int .i64 0] = [DV.int .i64 ((0 : Nat) : Int)] from rfl, Hp.upd_id l2]
   refine RG.sto (cs := [.int .i64 0]) (ty := 29) (d := .int .i64 0) (ys := [.int .i64 0]) .d wh l3 rfl rfl rfl (by simp) ?_
   rw [show spliceL 0 [DV.int .i64 0] [DV.int .i64 0] = [DV.int .i64 0] from rfl, Hp.upd_id l3]
   exact RG.nilS (AC.ret (hres rfl rfl l2 l3 hsb hgr))
 · rintro A' pd h1 ⟨rfl, rfl⟩ h3
   rw [h1, cond_false] at hgr
   generalize (runG gramS (0, 0) (pre 20 e 1)).1 = s at h3 hgr ⊢
   have hs := freeB_sub h3
   have l2 : addB (wB w1 w2 e 20) (Z s.1 s.2 s.1) b2 = some (.cells [.int .i64 s.1] 3) := hs _ _ (by show ((Y0 s.1 s.2).upd b5 _) b2 = _; rw [Hp.upd_ne (Ne.symm n52)]; exact y2 _ _)
   have l3 : addB (wB w1 w2 e 20) (Z s.1 s.2 s.1) b3 = some (.cells [.int .i64 s.2] 29) := hs _ _ (by show ((Y0 s.1 s.2).upd b5 _) b3 = _; rw [Hp.upd_ne (Ne.symm n53)]; exact y3 _ _)
   exact hres f2 f3 l2 l3 ((SubH.over (hsub _ _) h5').trans hs) hgr
open Go Go.Run Go.RowKit
open Go.Proofs.Tryz (prog)
def F23 : FN := ⟨14, (.seq (.reg [ji 2 (.box 24 (.t 0)), ji 4 (.mv (.c (.str [])))])
 (.seq (.reg [ji 8 (.ld true 5 (.t 2)), ji 9 (.mv (.t 1)), ji 10 (.call 75 [(.t 8), (.t 9)]), ji 7 (.mv (.t 10)), ji 11 (.ext (.t 7) 0), ji 12 (.ext (.t 7) 1), ji 5 (.mv (.t 11)), ji 6 (.mv (.t 12))])
 (.seq (.reg [ji 13 (.mv (.t 5)), ji 4 (.mv (.t 13))])
 .ret))), [.tmp 4]⟩
theorem cF23 : cFn prog 23 = some F23 := by kernel_rfl
def F25 : FN := ⟨36, (.seq (.reg [ji 2 (.box 24 (.t 0)), ji 4 (.mv (.c .nils))])
 (.seq (.reg [ji 5 (.mv (.c .nils))])
 (.seq (.seq (.reg [ji 8 (.fadr 4 (.t 2)), ji 9 (.ld false 1 (.t 8)), ji 10 (.len false (.t 9)), ji 11 (.mv (ci 0))])
 (.block 0 (.loop (.seq (.reg [ji 12 (.bin .lss (.t 11) (.t 10))])
 (.seq (.cond (.t 12) .skip
 (.exit 0))
 (.seq (.block 1 (.seq (.reg [ji 13 (.iadr 5 (.t 9) (.t 11)), ji 14 (.ld true 5 (.t 13)), ji 7 (.alloc [(.int .i64 0), (.str []), (.str []), (.bool false), .nils] 24), jn (.st 5 (.t 7) (.t 14))])
 (.seq (.reg [ji 15 (.fadr 1 (.t 7)), ji 16 (.ld false 1 (.t 15)), ji 17 (.mv (.t 1)), ji 18 (.bin .eql (.t 16) (.t 17)), ji 19 (.mv (.t 18)), jg 20 19 false (.fadr 1 (.t 7)), jg 21 19 false (.ld false 1 (.t 20)), jg 22 19 false (.mv (.t 1)), jg 23 19 false (.bin .add (.t 22) (.c (.str [80, 114, 101, 102]))), jg 24 19 false (.bin .eql (.t 21) (.t 23)), ji 25 (.pick (.t 19) (.c (.bool true)) (.t 24))])
 (.cond (.t 25) (.draw [ji 26 (.mv (.t 5)), ji 27 (.ld true 5 (.t 7)), ji 28 (.call 23 [(.t 27), (.c (.str [67, 84, 84, 121, 112, 101]))]), ji 29 (.ld true 5 (.t 7)), ji 30 (.call 23 [(.t 29), (.c (.str [86, 101, 114, 67, 84]))]), ji 31 (.bld [(.str []), (.str [])] [(0, 1, (.t 28)), (1, 1, (.t 30))]), ji 32 (.bsl 115 1 2 [(.str []), (.str [])] [(0, 2, (.t 31))]), ji 33 (.app 115 2 32 (.t 26) (.t 32)), ji 5 (.mv (.t 33))] [[], [], [1], [], [3, 2], [2, 4], [5], [0, 6, 4], [7, 7, 0, 1, 2, 3, 4, 5, 6, 7]])
 .skip))))
 (.reg [ji 34 (.bin .add (.t 11) (ci 1)), ji 11 (.mv (.t 34))])))))))
 (.seq (.reg [ji 35 (.mv (.t 5)), ji 4 (.mv (.t 35))])
 .ret)))), [.tmp 4]⟩
theorem cF25 : cFn prog 25 = some F25 := by kernel_rfl
variable {G : Gl}
theorem text_ok (e : El) (n : List UInt8) (hl : e.kids.length ≤ 1000000000) : PF prog G 23 [.agg (elC e), .str n] (.str (textF e.kids n)) := by
 intro H
 refine CALL.of cF23 (Nat.le_of_ble_eq_true rfl) ?_
 refine AC.seq (AC.reg ?_)
 refine RG.box (d := .agg (elC e)) (ys := elC e) .d rfl rfl fun b hb => ?_
 refine au ?_
 refine RG.ld .d wh Hp.upd_same (ldEl e) ?_
 repeat (first | refine go1 ?_ | refine RG.zD ?_ | refine RG.callP .d rfl (treeText_ok e n hl) ?_ | refine nav ?_)
 exact AC.ret (finD (H' := H) rfl (SubH.fresh hb) ⟨rfl, rfl⟩)
def hitF (n : List UInt8) (k : El) : Bool := k.name == n || k.name == n ++ nPref
theorem heard_take (l : List El) (n : List UInt8) (i : Nat) (hi : i < l.length) : heardD (l.take (i + 1)) n = heardD (l.take i) n ++ bif hitF n l[i] then [(textF l[i].kids nCT, textF l[i].kids nVer)] else [] := by
 rw [List.take_succ_eq_append_getElem hi]
 unfold heardD hitF
 rw [List.filter_append, List.map_append]
 congr 1
 rw [List.filter_cons, List.filter_nil]
 cases (l[i].name == n || l[i].name == n ++ nPref) <;> rfl
theorem heard_len (l : List El) (n : List UInt8) : (heardD l n).length ≤ l.length := by
 unfold heardD
 rw [List.length_map]; exact List.length_filter_le _ _
theorem frmsC_append (a b : List Frm) : frmsC (a ++ b) = frmsC a ++ frmsC b := by simp [frmsC]
theorem heard_ok (e : El) (n : List UInt8) (hn : n.length ≤ 1000) (hl : e.kids.length ≤ 1000000) (hk : ∀ k ∈ e.kids, k.kids.length ≤ 1000000) : PF prog G 25 [.agg (elC e), .str n] (.lst (frmsC (heardD e.kids n)) (heardD e.kids n).length 2 none) := by
 intro H
 refine CALL.of cF25 (Nat.le_of_ble_eq_true rfl) ?_
 refine AC.seq (AC.reg ?_)
 refine RG.box (d := .agg (elC e)) (ys := elC e) .d rfl rfl fun b hb => ?_
 rw [eta_el]
 generalize hHH : H.upd b (some (.cells [.int .i64 e.page, .str e.name, .str e.text, .bool e.op, .lst (elsC e.kids) e.kids.length 5 none] 24)) = HH
 have hHb : HH b = some (.cells [.int .i64 e.page, .str e.name, .str e.text, .bool e.op, .lst (elsC e.kids) e.kids.length 5 none] 24) := by rw [← hHH]; exact Hp.upd_same
 have hsub : SubH H HH := by rw [← hHH]; exact SubH.fresh hb
 refine al ?_
 generalize e.kids = ks at hl hk hHb hHH
 refine AC.bloopH (α := Nat × DV) (β := DV) (fun a => ks.length - a.1) (fun a => [(1, .str n), (5, a.2), (9, .lst (elsC ks) ks.length 5 none), (10, .int .i64 ks.length), (11, .int .i64 a.1)])
  (fun a H' => a.1 ≤ ks.length ∧ GR 115 2 HH (frmsC (heardD (ks.take a.1) n)) (heardD (ks.take a.1) n).length a.2 H') (fun v => [(5, v)])
  (fun v H' => GR 115 2 HH (frmsC (heardD ks n)) (heardD ks n).length v H') ?_ ?_ (0, .nils) _ ⟨Nat.zero_le _, GR.nil⟩ ⟨rfl, rfl, rfl, rfl, rfl, trivial⟩
 · intro v He fr h hfr
   refine AC.to _ hfr ?_
   refine au ?_
   exact AC.ret (finL (H' := H) rfl h.le (hsub.trans h.sub) ⟨rfl, rfl⟩)
 · rintro ⟨i, v⟩ H' ⟨h2, h3⟩ ih ex
   dsimp only at h2 h3 ih ⊢
   refine AC.seq (AC.reg ?_)
   refine go ?_
   cases e1 : decide ((i : Int) < ks.length)
   · have e := of_decide_eq_false e1
     rw [List.take_of_length_le (by omega)] at h3
     exact RG.nilS (AC.seq (AC.cond_f rfl (AC.exit (ex v _ _ h3 ⟨rfl, trivial⟩))))
   · have e := of_decide_eq_true e1
     have hi : i < ks.length := by omega
     have hkt := heard_take ks n i hi
     have hkl := heard_len (ks.take i) n
     rw [List.length_take] at hkl
     have hkm := hk _ (List.getElem_mem hi)
     refine RG.nilS (AC.seq (AC.cond_t rfl (AC.skip (AC.seq (AC.block (AC.seq (AC.reg ?_)))))))
     refine RG.p .d (evP_iadr wh wh (by omega)) ?_
     refine RG.p .d (evP_ldc wh (row_el hi)) ?_
     generalize ks[i] = x at hkt hkm
     refine RG.alloc .d fun q hq => ?_
     refine RG.sto (cs := [.int .i64 0, .str [], .str [], .bool false, .nils]) (ty := elT) (d := .agg (elC x)) (ys := elC x) .d wh Hp.upd_same (by exact rfl) rfl (elC_length _) (by exact Nat.le_refl _) ?_
     rw [Hp.upd_upd, spl_el]
     obtain ⟨g1, g2⟩ := h3.up (k := q) (o := .cells (elC x) elT) hq
     have hqq : (H'.upd q (some (.cells (elC x) elT))) q = some (.cells (elC x) elT) := Hp.upd_same
     refine RG.nilS (AC.seqI (I := fun fr' HX => HX = H'.upd q (some (.cells (elC x) elT)) ∧ Agrees fr' [(1, .str n), (5, v), (7, .ptr q 0), (9, .lst (elsC ks) ks.length 5 none), (10, .int .i64 ks.length), (11, .int .i64 i), (25, .bool (hitF n x))]) (AC.reg ?_) ?_)
     · refine go1 ?_
       refine RG.ld .d wh hqq (d := .str x.name) (by rw [eta_el]; rfl) ?_
       refine go ?_
       cases c1 : x.name == n
       · refine go1 ?_
         refine RG.ld .d wh hqq (d := .str x.name) (by rw [eta_el]; rfl) ?_
         refine go1 ?_
         refine RG.addS (b := nPref) .d wh (by exact rfl) (by simp [nPref]; omega) ?_
         refine go ?_
         exact RG.nil ⟨rfl, rfl, rfl, rfl, rfl, rfl, rfl, by rw [hitF, c1]; rfl, trivial⟩
       · refine go ?_
         exact RG.nil ⟨rfl, rfl, rfl, rfl, rfl, rfl, rfl, by rw [hitF, c1]; rfl, trivial⟩
     rintro fr1 H1 ⟨rfl, hf1⟩
     refine AC.to _ hf1 ?_
     cases c1 : hitF n x
     · rw [c1, cond_false, List.append_nil] at hkt
       refine AC.cond_f rfl (AC.skip ?_)
       refine AC.drop (SubH.fresh hq) (AC.reg ?_)
       refine go ?_
       exact RG.nil (ih (i + 1, v) _ ⟨by dsimp only; omega, by dsimp only; rw [hkt]; exact h3⟩ (by dsimp only; omega) _ ⟨rfl, rfl, rfl, rfl, rfl, trivial⟩)
     · rw [c1, cond_true] at hkt
       refine AC.cond_t rfl (AC.drawP [7, 8] rfl ?_)
       have hx9 : x.kids.length ≤ 1000000000 := by omega
       first|refine VP.z0 0 ?_|refine VP.z1 0 ?_|refine VP.z2 0 ?_|refine VP.z3 0 ?_|refine VP.z4 0 ?_|refine VP.z5 0 ?_|refine VP.z6 0 ?_|refine VP.z7 0 ?_|refine VP.z8 0 ?_
       refine VP.v 1 rfl (evP_ld rfl hqq (ldEl x)) ?_
       refine VP.c 2 (text_ok x nCT hx9) ?_
       refine VP.v 3 rfl (evP_ld rfl hqq (ldEl x)) ?_
       refine VP.c 4 (text_ok x nVer hx9) ?_
       first|refine VP.z0 5 ?_|refine VP.z1 5 ?_|refine VP.z2 5 ?_|refine VP.z3 5 ?_|refine VP.z4 5 ?_|refine VP.z5 5 ?_|refine VP.z6 5 ?_|refine VP.z7 5 ?_|refine VP.z8 5 ?_
       refine VP.z8 (cs := frmsC [(textF x.kids nCT, textF x.kids nVer)]) 6 ?_ (hb := rfl)
       refine VP.pe 7 rfl rfl (EF.app (m := 1) (ys := frmsC [(textF x.kids nCT, textF x.kids nVer)]) trivial g2 rfl (by show srcD _ 2 (.lst (frmsC [(textF x.kids nCT, textF x.kids nVer)]) 1 2 none) = _; simp [srcD]) (by omega) (by omega)) (fun _ _ _ h => h.elim) (fun v' A' hv' => ⟨?_, ?_⟩)
       · exact (by (repeat (refine stabP_cons rfl (by first | exact StabP.of (QV.evP trivial rfl) rfl | exact StabP.of (QV.bsl trivial rfl) rfl | exact StabP.of (QV.callP trivial rfl (text_ok _ _ hx9)) rfl | exact StabP.of (QV.evP trivial (evP_ld rfl (hv'.look Hp.upd_same) (ldEl x))) rfl) ?_)); exact stabP_nil)
       refine VP.pe 8 rfl rfl (EF.of_evP (d := v') rfl) (fun _ _ _ h => h.elim) (fun d H2 ⟨f1, f2⟩ => ⟨stabP_nil, ?_⟩)
       subst f1; subst f2
       obtain ⟨A2, k1, k2, _, _⟩ := hv'.down g1
       refine VP.pd ?_
       refine AC.drop k2 (AC.reg ?_)
       refine go ?_
       refine RG.nil (ih (i + 1, d) _ ⟨by dsimp only; omega, ?_⟩ (by dsimp only; omega) _ ⟨rfl, rfl, rfl, rfl, rfl, trivial⟩)
       dsimp only
       rw [hkt, frmsC_append, List.length_append]; exact k1
open Go Go.Run Go.RowKit
open Go.Proofs.Tryz (prog)
def F7 : FN := ⟨115, (.seq (.reg [ji 1 (.box 24 (.t 0)), ji 2 (.alloc [(.str []), (.str []), (.str []), (.str []), (.str []), (.bool false), .nils] 28), ji 3 (.mv (ci 0))])
 (.seq (.seq (.reg [ji 19 (.ld true 5 (.t 1)), ji 20 (.call 22 [(.t 19)]), ji 18 (.mv (.t 20)), ji 21 (.ext (.t 18) 0), ji 22 (.ext (.t 18) 1), ji 4 (.mv (.t 21)), ji 5 (.mv (.t 22))])
 (.seq (.reg [ji 23 (.mv (.t 5)), ji 24 (.bin .neq (.t 23) (ci 0))])
 (.cond (.t 24) (.seq (.reg [ji 25 (.bld [(.str []), (.str []), (.str []), (.str []), (.str []), (.bool false), .nils] []), ji 26 (.mv (.t 5)), jn (.st 7 (.t 2) (.t 25)), ji 3 (.mv (.t 26))])
 .ret)
 .skip)))
 (.seq (.draw [ji 27 (.ld true 5 (.t 1)), ji 28 (.call 23 [(.t 27), (.c (.str [77, 97, 110]))]), ji 29 (.ld true 5 (.t 1)), ji 30 (.call 23 [(.t 29), (.c (.str [77, 111, 100]))]), ji 31 (.ld true 5 (.t 1)), ji 32 (.call 23 [(.t 31), (.c (.str [83, 119, 86]))]), ji 33 (.ld true 5 (.t 1)), ji 34 (.call 23 [(.t 33), (.c (.str [68, 101, 118, 73, 68]))]), ji 35 (.ld true 5 (.t 1)), ji 36 (.call 23 [(.t 35), (.c (.str [68, 101, 118, 84, 121, 112]))]), ji 37 (.ld true 5 (.t 1)), ji 38 (.call 24 [(.t 37), (.c (.str [83, 117, 112, 112, 111, 114, 116, 76, 97, 114, 103, 101, 79, 98, 106, 115]))]), ji 39 (.len false (.t 38)), ji 40 (.bin .gtr (.t 39) (ci 0)), ji 41 (.bld [(.str []), (.str []), (.str []), (.str []), (.str []), (.bool false), .nils] [(0, 1, (.t 28)), (1, 1, (.t 30)), (2, 1, (.t 32)), (3, 1, (.t 34)), (4, 1, (.t 36)), (5, 1, (.t 40))]), ji 6 (.alloc [(.str []), (.str []), (.str []), (.str []), (.str []), (.bool false), .nils] 28), jn (.st 7 (.t 6) (.t 41))] [[], [0], [], [2, 1], [], [4, 3], [], [6, 5], [], [8, 7], [], [10, 9], [11], [12], [1, 3, 5, 7, 9, 13], [], [15, 14, 11, 0, 1, 2, 3, 4, 5, 6, 7, 8, 9, 10, 11, 12, 13, 14, 15]])
 (.seq (.seq (.reg [ji 42 (.ld true 5 (.t 1)), ji 43 (.call 24 [(.t 42), (.c (.str [68, 97, 116, 97, 83, 116, 111, 114, 101]))]), ji 44 (.len false (.t 43)), ji 45 (.mv (ci 0))])
 (.block 0 (.loop (.seq (.reg [ji 46 (.bin .lss (.t 45) (.t 44))])
 (.seq (.cond (.t 46) .skip
 (.exit 0))
 (.seq (.block 1 (.seq (.reg [ji 47 (.iadr 5 (.t 43) (.t 45)), ji 48 (.ld true 5 (.t 47)), ji 8 (.alloc [(.int .i64 0), (.str []), (.str []), (.bool false), .nils] 24), jn (.st 5 (.t 8) (.t 48))])
 (.seq (.draw [ji 49 (.ld true 5 (.t 8)), ji 50 (.call 23 [(.t 49), (.c (.str [83, 111, 117, 114, 99, 101, 82, 101, 102]))]), ji 51 (.ld true 5 (.t 8)), ji 52 (.call 23 [(.t 51), (.c (.str [68, 105, 115, 112, 108, 97, 121, 78, 97, 109, 101]))]), ji 53 (.ld true 5 (.t 8)), ji 54 (.call 25 [(.t 53), (.c (.str [82, 120]))]), ji 55 (.ld true 5 (.t 8)), ji 56 (.call 25 [(.t 55), (.c (.str [84, 120]))]), ji 57 (.bld [(.str []), (.str []), (.int .i64 0), .nils, .nils, .nils] [(0, 1, (.t 50)), (1, 1, (.t 52)), (3, 1, (.t 54)), (4, 1, (.t 56))]), ji 9 (.alloc [(.str []), (.str []), (.int .i64 0), .nils, .nils, .nils] 56), jn (.st 6 (.t 9) (.t 57))] [[], [0], [], [2, 1], [], [4, 3], [], [6, 5], [1, 3, 5, 7], [], [9, 8, 7, 0, 1, 2, 3, 4, 5, 6, 7, 8, 9]])
 (.seq (.reg [ji 59 (.ld true 5 (.t 8)), ji 60 (.call 23 [(.t 59), (.c (.str [77, 97, 120, 71, 85, 73, 68, 83, 105, 122, 101]))]), ji 61 (.call 26 [(.t 60)]), ji 58 (.mv (.t 61)), ji 62 (.ext (.t 58) 0), ji 63 (.ext (.t 58) 1), ji 64 (.fadr 2 (.t 9)), jn (.st 1 (.t 64) (.t 62))])
 (.seq (.seq (.reg [ji 65 (.ld true 5 (.t 8)), ji 66 (.call 24 [(.t 65), (.c (.str [83, 121, 110, 99, 67, 97, 112]))]), ji 67 (.len false (.t 66)), ji 68 (.mv (ci 0))])
 (.block 2 (.loop (.seq (.reg [ji 69 (.bin .lss (.t 68) (.t 67))])
 (.seq (.cond (.t 69) .skip
 (.exit 2))
 (.seq (.block 3 (.seq (.reg [ji 70 (.iadr 5 (.t 66) (.t 68)), ji 71 (.ld true 5 (.t 70)), ji 11 (.alloc [(.int .i64 0), (.str []), (.str []), (.bool false), .nils] 24), jn (.st 5 (.t 11) (.t 71))])
 (.seq (.reg [ji 72 (.ld true 5 (.t 11)), ji 73 (.call 24 [(.t 72), (.c (.str [83, 121, 110, 99, 84, 121, 112, 101]))]), ji 74 (.len false (.t 73)), ji 75 (.mv (ci 0))])
 (.block 4 (.loop (.seq (.reg [ji 76 (.bin .lss (.t 75) (.t 74))])
 (.seq (.cond (.t 76) .skip
 (.exit 4))
 (.seq (.block 5 (.seq (.reg [ji 77 (.iadr 5 (.t 73) (.t 75)), ji 78 (.ld true 5 (.t 77)), ji 13 (.alloc [(.int .i64 0), (.str []), (.str []), (.bool false), .nils] 24), jn (.st 5 (.t 13) (.t 78))])
 (.seq (.reg [ji 80 (.fadr 2 (.t 13)), ji 81 (.ld false 1 (.t 80)), ji 82 (.call 26 [(.t 81)]), ji 79 (.mv (.t 82)), ji 83 (.ext (.t 79) 0), ji 84 (.ext (.t 79) 1), ji 14 (.mv (.t 83)), ji 15 (.mv (.t 84))])
 (.reg [ji 85 (.fadr 5 (.t 9)), ji 86 (.ld false 1 (.t 85)), ji 87 (.mv (.t 14)), ji 88 (.bsl 3 1 1 [(.int .i64 0)] [(0, 1, (.t 87))]), ji 89 (.app 3 1 8 (.t 86) (.t 88)), ji 90 (.fadr 5 (.t 9)), jn (.st 1 (.t 90) (.t 89))]))))
 (.reg [ji 91 (.bin .add (.t 75) (ci 1)), ji 75 (.mv (.t 91))])))))))))
 (.reg [ji 92 (.bin .add (.t 68) (ci 1)), ji 68 (.mv (.t 92))])))))))
 (.reg [ji 93 (.fadr 6 (.t 6)), ji 94 (.ld false 1 (.t 93)), ji 95 (.ld true 6 (.t 9)), ji 96 (.bsl 56 1 6 [(.str []), (.str []), (.int .i64 0), .nils, .nils, .nils] [(0, 6, (.t 95))]), ji 97 (.app 56 6 112 (.t 94) (.t 96)), ji 98 (.fadr 6 (.t 6)), jn (.st 1 (.t 98) (.t 97))]))))))
 (.reg [ji 99 (.bin .add (.t 45) (ci 1)), ji 45 (.mv (.t 99))])))))))
 (.seq (.seq (.reg [ji 101 (.ld true 7 (.t 6)), ji 102 (.call 27 [(.t 101)]), ji 100 (.mv (.t 102)), ji 103 (.ext (.t 100) 0), ji 104 (.ext (.t 100) 1), ji 16 (.alloc [(.int .i64 0), (.str []), (.str []), (.bool false), .nils] 24), jn (.st 5 (.t 16) (.t 103)), ji 17 (.mv (.t 104))])
 (.seq (.reg [ji 105 (.mv (.t 17)), ji 106 (.bin .neq (.t 105) (ci 0)), ji 107 (.mv (.t 106)), jg 108 107 false (.ld true 5 (.t 16)), jg 109 107 false (.ld true 5 (.t 1)), jg 110 107 false (.call 28 [(.t 108), (.t 109)]), jg 111 107 false (.un .not (.t 110)), ji 112 (.pick (.t 107) (.c (.bool true)) (.t 111))])
 (.cond (.t 112) (.seq (.reg [ji 113 (.bld [(.str []), (.str []), (.str []), (.str []), (.str []), (.bool false), .nils] []), jn (.st 7 (.t 2) (.t 113)), ji 3 (.mv (ci 3))])
 .ret)
 .skip)))
 (.seq (.reg [ji 114 (.ld true 7 (.t 6)), jn (.st 7 (.t 2) (.t 114)), ji 3 (.mv (ci 0))])
 .ret)))))), [.cell 2 true 7, .tmp 3]⟩
theorem cF7 : cFn prog 7 = some F7 := by kernel_rfl
variable {G : Gl}
theorem EF.alloc {r : Option Nat} {N : Nat} {fr : Fr} {H : Hp} {dst : Option Nat} {g : Option (Nat × Bool)} {zs : List DV} {ty : TypeId} (hg : GOk g fr) :
  EF prog G r N ⟨dst, g, .alloc zs ty⟩ (fun d H' => ∃ b, d = .ptr b 0 ∧ H b = none ∧ H' = H.upd b (some (.cells zs ty))) (fun _ _ => False) fr H := by
 intro fr1 l Q hs k kp
 exact RG.alloc (GOk.congr (i := ⟨dst, g, .alloc zs ty⟩) hg hs) fun b hb => k _ _ ⟨b, rfl, hb, rfl⟩
mutual
theorem fits_ok : ∀ (e : El), okE e → fits e
 | .mk p n t o ks, h => ⟨by have := (check1_ok h.1).2.2.1; omega, fitss_ok ks h.2⟩
theorem fitss_ok : ∀ (ks : List El), okEs ks → fitss ks
 | [], _ => trivial
 | k :: ks, h => ⟨fits_ok k h.1, fitss_ok ks h.2⟩
end
theorem okE_kids {e : El} (h : okE e) : e.kids.length ≤ 200 ∧ ∀ k ∈ e.kids, okE k := by
 obtain ⟨p, n, t, o, ks⟩ := e
 exact ⟨(check1_ok h.1).2.2.1, fun k hk => okEs_mem ks k hk h.2⟩
theorem okE_text {e : El} (h : okE e) : e.text.length ≤ 4000 := by
 obtain ⟨p, n, t, o, ks⟩ := e
 exact (check1_ok h.1).2.2.2.2.1
theorem kidsF_mem {l : List El} {n : List UInt8} {k : El} (h : k ∈ kidsF l n) : k ∈ l := (List.mem_filter.1 h).1
theorem textF_len {e : El} (n : List UInt8) (h : okE e) : (textF e.kids n).length ≤ 4000 := by
 rw [textF]
 cases hk : kidsF e.kids n with
 | nil => exact Nat.zero_le _
 | cons k r => exact okE_text ((okE_kids h).2 k (kidsF_mem (n := n) (by rw [hk]; simp)))
theorem gramF_zero {e : El} (h : (gramF e).2 = 0) : checkF e = 0 := by
 rw [gramF] at h
 cases c : checkF e == 0
 · rw [c] at h; exact h
 · simpa using c
def ofF (e : El) : Dvc × Int := bif !((gramF e).2 == 0) then (Dvc0, (gramF e).2) else bif (elemDF (dvcD e)).2 == 0 && sameF (elemDF (dvcD e)).1 e 20 then (dvcD e, 0) else (Dvc0, 3)
def Z7 : List DV := [.str [], .str [], .str [], .str [], .str [], .bool false, .nils]
theorem Dvc0_le : DLe (.agg Z7) (.agg (dvcC Dvc0)) := (DLes.cons (DLe.refl _) (.cons (DLe.refl _) (.cons (DLe.refl _) (.cons (DLe.refl _) (.cons (DLe.refl _) (.cons (DLe.refl _) (.cons DLe.nils .nil))))))).agg
theorem plcsC_append (a b : List Plc) : plcsC (a ++ b) = plcsC a ++ plcsC b := by simp [plcsC]
set_option maxRecDepth 8000 in
theorem Of_ok (hG : GOS G) (e : El) (hfit : fits e) : PF prog G 7 [.agg (elC e)] (.tup [.agg (dvcC (ofF e).1), .int .i64 (ofF e).2]) := by
 intro H
 refine CALL.of cF7 (Nat.le_of_ble_eq_true rfl) ?_
 refine AC.seq (AC.reg ?_)
 refine RG.box (d := .agg (elC e)) (ys := elC e) .d rfl rfl fun b1 q1 => ?_
 refine RG.alloc .d fun b2 q2 => ?_
 have n21 : b2 ≠ b1 := fun e => by rw [e, Hp.upd_same] at q2; cases q2
 rw [Hp.upd_ne n21] at q2
 let Y : List DV → Hp := fun cs => (H.upd b1 (some (.cells (elC e) 24))).upd b2 (some (.cells cs 28))
 have y1 : ∀ cs, Y cs b1 = some (.cells (elC e) 24) := fun cs => by show ((_ : Hp).upd b2 _) b1 = _; rw [Hp.upd_ne (Ne.symm n21)]; exact Hp.upd_same
 have y2 : ∀ cs, Y cs b2 = some (.cells cs 28) := fun cs => Hp.upd_same
 have u2 : ∀ cs cs', (Y cs).upd b2 (some (.cells cs' 28)) = Y cs' := fun cs cs' => Hp.upd_upd
 have hsub : ∀ cs, SubH H (Y cs) := fun cs => SubH.over (SubH.over (SubH.refl H) q1) q2
 show RG _ _ _ _ _ _ _ (Y Z7)
 have hres : ∀ {cs : List DV} {HR : Hp} {fr : Fr}, fr 2 = .ptr b2 0 → fr 3 = .int .i64 (ofF e).2 → HR b2 = some (.cells cs 28) → cs.length = 7 → SubH H HR → DLe (.agg cs) (.agg (dvcC (ofF e).1)) →
   Fin F7.rs (fun d' H' => d' = .tup [.agg (dvcC (ofF e).1), .int .i64 (ofF e).2] ∧ H' = H) (fun _ _ => False) .ret fr HR := by
  intro cs HR fr f2 f3 l2 hl hs hd
  refine finL (ds := [.agg cs, .int .i64 (ofF e).2]) (d := .tup [.agg (dvcC (ofF e).1), .int .i64 (ofF e).2]) (H' := H) ?_ ?_ hs ⟨rfl, rfl⟩
  · show (ldD HR true 7 (fr 2)).bind (fun d => ((some [fr 3]).bind fun l => some (d :: l))) = _
    rw [f2, f3, show ldD HR true 7 (.ptr b2 0) = some (.agg cs) by
     simp only [ldD, l2]
     have h7 : partD true 0 7 (cs.drop (0 * 7)) = some (.agg cs) := partD_row (i := 0) (ds := cs) (by simp only [Nat.zero_mul, List.drop_zero]; exact List.take_of_length_le (by omega)) (by omega)
     simpa using h7]
    rfl
  · exact (DLes.cons hd (.cons (DLe.refl _) .nil)).tup
 generalize Y = Y0 at y1 y2 u2 hsub hres ⊢
 refine go1 ?_
 refine RG.nilS (AC.seq (AC.seq (AC.reg ?_)))
 refine RG.ld .d wh (y1 Z7) (ldEl e) ?_
 refine RG.callP .d rfl (gram_ok hG e hfit) ?_
 refine go ?_
 refine RG.nilS (AC.seq (AC.reg ?_))
 refine go1 ?_
 refine RG.p (d := .bool (!((gramF e).2 == 0))) .d (by rfl) ?_
 cases c1 : (gramF e).2 == 0
 case false =>
  have hof : ofF e = (Dvc0, (gramF e).2) := by rw [ofF, c1]; rfl
  refine RG.nilS (AC.cond_t rfl (AC.seq (AC.reg ?_)))
  refine go ?_
  refine RG.sto (cs := Z7) (ty := 28) (d := .agg Z7) (ys := Z7) .d wh (y2 Z7) (by exact rfl) rfl rfl (by exact Nat.le_refl _) ?_
  rw [show spliceL 0 Z7 Z7 = Z7 from rfl, u2]
  refine go1 ?_
  exact RG.nilS (AC.ret (hres rfl (by rw [hof]; rfl) (y2 Z7) rfl (hsub Z7) (by rw [hof]; exact Dvc0_le)))
 refine RG.nilS (AC.cond_f rfl (AC.skip ?_))
 have hg0 : (gramF e).2 = 0 := by simpa using c1
 have hz := gramF_zero hg0
 have hok := (check_ok hz).1
 obtain ⟨hkl, hkk⟩ := okE_kids hok
 have hl9 : e.kids.length ≤ 1000000000 := by omega
 have hlarge : decide ((((kidsF e.kids nLarge).length : Nat) : Int) > 0) = (dvcD e).large := by
  show _ = decide (0 < (kidsF e.kids nLarge).length)
  rw [decide_eq_decide]; omega
 refine AC.seq (AC.drawP [15, 16] rfl ?_)
 refine VP.v 0 rfl (evP_ld rfl (y1 Z7) (ldEl e)) ?_
 refine VP.c 1 (text_ok e nMan hl9) ?_
 refine VP.v 2 rfl (evP_ld rfl (y1 Z7) (ldEl e)) ?_
 refine VP.c 3 (text_ok e nMod hl9) ?_
 refine VP.v 4 rfl (evP_ld rfl (y1 Z7) (ldEl e)) ?_
 refine VP.c 5 (text_ok e nSwV hl9) ?_
 refine VP.v 6 rfl (evP_ld rfl (y1 Z7) (ldEl e)) ?_
 refine VP.c 7 (text_ok e nDevID hl9) ?_
 refine VP.v 8 rfl (evP_ld rfl (y1 Z7) (ldEl e)) ?_
 refine VP.c 9 (text_ok e nDevTyp hl9) ?_
 refine VP.v 10 rfl (evP_ld rfl (y1 Z7) (ldEl e)) ?_
 refine VP.c 11 (Kids_ok e nLarge hl9) ?_
 first|refine VP.z0 12 ?_|refine VP.z1 12 ?_|refine VP.z2 12 ?_|refine VP.z3 12 ?_|refine VP.z4 12 ?_|refine VP.z5 12 ?_|refine VP.z6 12 ?_|refine VP.z7 12 ?_|refine VP.z8 12 ?_
 refine VP.v (d := .bool (dvcD e).large) 13 rfl (congrArg (fun b => some (DV.bool b)) hlarge) ?_
 first|refine VP.z0 14 ?_|refine VP.z1 14 ?_|refine VP.z2 14 ?_|refine VP.z3 14 ?_|refine VP.z4 14 ?_|refine VP.z5 14 ?_|refine VP.z6 14 ?_|refine VP.z7 14 ?_|refine VP.z8 14 ?_
 refine VP.pe 15 rfl rfl (EF.alloc trivial) (fun _ _ _ h => h.elim) (fun d H2 ⟨b6, k1, q6, k2⟩ => ⟨?_, ?_⟩)
 · subst k2
   have n61 : b6 ≠ b1 := fun e => by rw [e, y1] at q6; cases q6
   exact (by (repeat (refine stabP_cons rfl (by first | exact StabP.of (QV.evP trivial rfl) rfl | exact StabP.of (QV.bsl trivial rfl) rfl | exact StabP.of (QV.callP trivial rfl (text_ok _ _ hl9)) rfl | exact StabP.of (QV.callP trivial rfl (Kids_ok _ _ hl9)) rfl | exact StabP.of (QV.evP trivial (evP_ld rfl ((Hp.upd_ne (Ne.symm n61)).trans (y1 Z7)) (ldEl e))) rfl | exact StabP.of (QV.evP trivial (congrArg (fun b => some (DV.bool b)) hlarge)) rfl) ?_)); exact stabP_nil)
 subst k1; subst k2
 let DC : DV → List DV := fun v => [.str (dvcD e).man, .str (dvcD e).mod_, .str (dvcD e).soft, .str (dvcD e).id, .str (dvcD e).type, .bool (dvcD e).large, v]
 refine VP.pe 16 rfl rfl (EF.sto (cs := Z7) (ty := 28) (ys := DC .nils) (d := .agg (DC .nils)) trivial rfl Hp.upd_same rfl rfl rfl (by exact Nat.le_refl _)) (fun _ _ _ h => h.elim) (fun d H9 ⟨f1, f2⟩ => ⟨stabP_nil, ?_⟩)
 subst f1; subst f2
 refine VP.pd ?_
 rw [Hp.upd_upd, show spliceL 0 (DC .nils) Z7 = DC .nils from rfl]
 have n61 : b6 ≠ b1 := fun e => by rw [e, y1] at q6; cases q6
 have n62 : b6 ≠ b2 := fun e => by rw [e, y2] at q6; cases q6
 have W1 : ∀ v, ((Y0 Z7).upd b6 (some (.cells (DC v) 28))) b1 = some (.cells (elC e) 24) := fun v => (Hp.upd_ne (Ne.symm n61)).trans (y1 Z7)
 have W2 : ∀ v, ((Y0 Z7).upd b6 (some (.cells (DC v) 28))) b2 = some (.cells Z7 28) := fun v => (Hp.upd_ne (Ne.symm n62)).trans (y2 Z7)
 have W6 : ∀ v, ((Y0 Z7).upd b6 (some (.cells (DC v) 28))) b6 = some (.cells (DC v) 28) := fun v => Hp.upd_same
 have U6 : ∀ v v', (((Y0 Z7).upd b6 (some (.cells (DC v) 28))).upd b6 (some (.cells (DC v') 28))) = (Y0 Z7).upd b6 (some (.cells (DC v') 28)) := fun v v' => Hp.upd_upd
 have WS : ∀ v, SubH H ((Y0 Z7).upd b6 (some (.cells (DC v) 28))) := fun v => (hsub Z7).trans (SubH.fresh q6)
 generalize hW : (fun v => (Y0 Z7).upd b6 (some (.cells (DC v) 28))) = W
 have hWv : ∀ v, (Y0 Z7).upd b6 (some (.cells (DC v) 28)) = W v := fun v => by rw [← hW]
 simp only [hWv] at W1 W2 W6 U6 WS ⊢
 clear hW hWv
 refine AC.seq (AC.seq (AC.reg ?_))
 refine RG.ld .d wh (W1 .nils) (ldEl e) ?_
 refine RG.callP .d rfl (Kids_ok e nStore hl9) ?_
 refine go ?_
 refine RG.nilS ?_
 have hkst : ∀ k ∈ kidsF e.kids nStore, okE k := fun k hk => hkk k (kidsF_mem hk)
 have hksl : (kidsF e.kids nStore).length ≤ 200 := Nat.le_trans (kidsF_len _ _) hkl
 have hpl : (dvcD e).places = (kidsF e.kids nStore).map plcD := rfl
 generalize kidsF e.kids nStore = ks at hkst hksl hpl ⊢
 refine AC.bloopH (α := Nat × DV) (β := DV) (fun a => ks.length - a.1) (fun a => [(1, .ptr b1 0), (2, .ptr b2 0), (3, .int .i64 0), (6, .ptr b6 0), (43, .lst (elsC ks) ks.length 5 none), (44, .int .i64 ks.length), (45, .int .i64 a.1)])
  (fun a H' => a.1 ≤ ks.length ∧ GR 56 6 (W a.2) (plcsC ((ks.take a.1).map plcD)) (ks.take a.1).length a.2 H') (fun v => [(1, .ptr b1 0), (2, .ptr b2 0), (3, .int .i64 0), (6, .ptr b6 0)])
  (fun v H' => GR 56 6 (W v) (plcsC (ks.map plcD)) ks.length v H') ?_ ?_ (0, .nils) _ ⟨Nat.zero_le _, GR.nil⟩ ⟨rfl, rfl, rfl, rfl, rfl, rfl, rfl, trivial⟩
 · intro v He fr h hfr
   refine AC.to _ hfr ?_
   refine AC.drop h.sub (AC.seq (AC.seq (AC.reg ?_)))
   have hd : DLe (.agg (DC v)) (.agg (dvcC (dvcD e))) := by
    have hh := h.le
    rw [show ks.length = (ks.map plcD).length from (List.length_map _).symm, ← hpl] at hh
    exact (DLes.cons (DLe.refl _) (.cons (DLe.refl _) (.cons (DLe.refl _) (.cons (DLe.refl _) (.cons (DLe.refl _) (.cons (DLe.refl _) (.cons hh .nil))))))).agg
   have w1 := W1 v
   have w2 := W2 v
   have w6 := W6 v
   have wS := WS v
   generalize W v = WW at w1 w2 w6 wS ⊢
   refine RG.ld .d wh w6 (d := .agg (DC v)) (by exact rfl) ?_
   refine RG.leSet hd ?_
   refine RG.callP .d rfl (elemDev_ok hG.ok (dvcD e)) ?_
   refine go ?_
   refine RG.alloc .d fun q16 hq16 => ?_
   have hof : ofF e = bif (elemDF (dvcD e)).2 == 0 && sameF (elemDF (dvcD e)).1 e 20 then (dvcD e, 0) else (Dvc0, 3) := by rw [ofF, c1]; rfl
   have hfx : (elemDF (dvcD e)).2 = 0 → fits (elemDF (dvcD e)).1 := fun h => by
    rw [elemDF] at h ⊢
    cases c : checkD (dvcD e) == 0
    · rw [c] at h; rw [show checkD (dvcD e) = 0 from h] at c; cases c
    · exact fits_ok _ (check_ok (dev_law _ (by simpa using c)).1).1
   generalize elemDF (dvcD e) = ef at hof hfx ⊢
   obtain ⟨f, fl⟩ := ef
   dsimp only at hof hfx ⊢
   refine RG.sto (cs := [.int .i64 0, .str [], .str [], .bool false, .nils]) (ty := elT) (d := .agg (elC f)) (ys := elC f) .d wh Hp.upd_same (by exact rfl) rfl (elC_length _) (by exact Nat.le_refl _) ?_
   rw [Hp.upd_upd, spl_el]
   have x16 : (WW.upd q16 (some (.cells (elC f) elT))) q16 = some (.cells (elC f) elT) := Hp.upd_same
   have m1 : q16 ≠ b1 := fun e => by rw [e, w1] at hq16; cases hq16
   have m2 : q16 ≠ b2 := fun e => by rw [e, w2] at hq16; cases hq16
   have m6 : q16 ≠ b6 := fun e => by rw [e, w6] at hq16; cases hq16
   have x1 := (Hp.upd_ne (o := some (.cells (elC f) elT)) (Ne.symm m1)).trans w1
   have x2 := (Hp.upd_ne (o := some (.cells (elC f) elT)) (Ne.symm m2)).trans w2
   have x6 := (Hp.upd_ne (o := some (.cells (elC f) elT)) (Ne.symm m6)).trans w6
   have xS : SubH H (WW.upd q16 (some (.cells (elC f) elT))) := wS.trans (SubH.fresh hq16)
   generalize WW.upd q16 (some (.cells (elC f) elT)) = XX at x16 x1 x2 x6 xS ⊢
   have hnb : H b2 = none := q2
   have xSb : ∀ cs, SubH H (XX.upd b2 (some (.cells cs 28))) := fun cs k o hk => by
    rw [Hp.upd_ne (fun e => by rw [e, hnb] at hk; cases hk)]; exact xS k o hk
   refine go1 ?_
   refine RG.nilS (AC.seq (AC.reg ?_))
   refine go1 ?_
   refine RG.p (d := .bool (!(fl == 0))) .d (by rfl) ?_
   cases c2 : fl == 0
   · rw [c2] at hof
     refine go ?_
     refine RG.nilS ?_
     refine AC.cond_t rfl (AC.seq (AC.reg ?_))
     refine go1 ?_
     refine RG.sto (cs := Z7) (ty := 28) (d := .agg Z7) (ys := Z7) .d wh x2 (by exact rfl) rfl rfl (by exact Nat.le_refl _) ?_
     rw [show spliceL 0 Z7 Z7 = Z7 from rfl]
     refine go1 ?_
     exact RG.nilS (AC.ret (hres rfl (by rw [hof]; rfl) Hp.upd_same rfl (xSb Z7) (by rw [hof]; exact Dvc0_le)))
   · have hfl : fl = 0 := by simpa using c2
     have hff := hfx hfl
     refine go1 ?_
     refine RG.ld .d wh x16 (ldEl f) ?_
     refine RG.ld .d wh x1 (ldEl e) ?_
     refine RG.callP .d rfl (treeSame_ok f e hff hfit) ?_
     cases c3 : sameF f e 20
     · rw [c2, c3] at hof
       refine go ?_
       refine RG.nilS ?_
       refine AC.cond_t rfl (AC.seq (AC.reg ?_))
       refine go1 ?_
       refine RG.sto (cs := Z7) (ty := 28) (d := .agg Z7) (ys := Z7) .d wh x2 (by exact rfl) rfl rfl (by exact Nat.le_refl _) ?_
       rw [show spliceL 0 Z7 Z7 = Z7 from rfl]
       refine go1 ?_
       exact RG.nilS (AC.ret (hres rfl (by rw [hof]; rfl) Hp.upd_same rfl (xSb Z7) (by rw [hof]; exact Dvc0_le)))
     · rw [c2, c3] at hof
       refine go ?_
       refine RG.nilS (AC.cond_f rfl (AC.skip (AC.seq (AC.reg ?_))))
       refine RG.ld .d wh x6 (d := .agg (DC v)) (by exact rfl) ?_
       refine RG.sto (cs := Z7) (ty := 28) (d := .agg (DC v)) (ys := DC v) .d wh x2 (by exact rfl) rfl rfl (by exact Nat.le_refl _) ?_
       rw [show spliceL 0 (DC v) Z7 = DC v from rfl]
       refine go1 ?_
       exact RG.nilS (AC.ret (hres rfl (by rw [hof]; rfl) Hp.upd_same rfl (xSb _) (by rw [hof]; exact hd)))
 · rintro ⟨i, v⟩ H' ⟨h2, h3⟩ ih ex
   dsimp only at h2 h3 ih ⊢
   refine AC.seq (AC.reg ?_)
   refine go ?_
   cases e1 : decide ((i : Int) < ks.length)
   · have e := of_decide_eq_false e1
     rw [List.take_of_length_le (by omega)] at h3
     exact RG.nilS (AC.seq (AC.cond_f rfl (AC.exit (ex v _ _ h3 ⟨rfl, rfl, rfl, rfl, trivial⟩))))
   have e2 := of_decide_eq_true e1
   have hi : i < ks.length := by omega
   have hkt : (ks.take (i + 1)).map plcD = (ks.take i).map plcD ++ [plcD ks[i]] := by rw [List.take_succ_eq_append_getElem hi, List.map_append]; rfl
   have htl : (ks.take i).length = i := by rw [List.length_take]; omega
   have hxo := hkst _ (List.getElem_mem hi)
   refine RG.nilS (AC.seq (AC.cond_t rfl (AC.skip (AC.seq (AC.block (AC.seq (AC.reg ?_)))))))
   refine RG.p .d (evP_iadr wh wh (by omega)) ?_
   refine RG.p .d (evP_ldc wh (row_el hi)) ?_
   generalize ks[i] = x at hkt hxo
   obtain ⟨hxl, hxk⟩ := okE_kids hxo
   have hx9 : x.kids.length ≤ 1000000000 := by omega
   have hxk6 : ∀ k ∈ x.kids, k.kids.length ≤ 1000000 := fun k hk => by have := (okE_kids (hxk k hk)).1; omega
   refine RG.alloc .d fun q hq => ?_
   refine RG.sto (cs := [.int .i64 0, .str [], .str [], .bool false, .nils]) (ty := elT) (d := .agg (elC x)) (ys := elC x) .d wh Hp.upd_same (by exact rfl) rfl (elC_length _) (by exact Nat.le_refl _) ?_
   rw [Hp.upd_upd, spl_el]
   have hqq : (H'.upd q (some (.cells (elC x) elT))) q = some (.cells (elC x) elT) := Hp.upd_same
   have hq6 : (H'.upd q (some (.cells (elC x) elT))) b6 = some (.cells (DC v) 28) := by
    have := h3.look (W6 v)
    rw [Hp.upd_ne (fun e => by rw [e, hq] at this; cases this)]; exact this
   have hsq : SubH H' (H'.upd q (some (.cells (elC x) elT))) := SubH.fresh hq
   generalize H'.upd q (some (.cells (elC x) elT)) = HQ at hqq hq6 hsq ⊢
   refine RG.nilS (AC.seq (AC.drawP [9, 10] rfl ?_))
   refine VP.v 0 rfl (evP_ld rfl hqq (ldEl x)) ?_
   refine VP.c 1 (text_ok x nRef hx9) ?_
   refine VP.v 2 rfl (evP_ld rfl hqq (ldEl x)) ?_
   refine VP.c 3 (text_ok x nDisp hx9) ?_
   refine VP.v 4 rfl (evP_ld rfl hqq (ldEl x)) ?_
   refine VP.c 5 (heard_ok x nRx (by decide) (by omega) hxk6) ?_
   refine VP.v 6 rfl (evP_ld rfl hqq (ldEl x)) ?_
   refine VP.c 7 (heard_ok x nTx (by decide) (by omega) hxk6) ?_
   first|refine VP.z0 8 ?_|refine VP.z1 8 ?_|refine VP.z2 8 ?_|refine VP.z3 8 ?_|refine VP.z4 8 ?_|refine VP.z5 8 ?_|refine VP.z6 8 ?_|refine VP.z7 8 ?_|refine VP.z8 8 ?_
   refine VP.pe 9 rfl rfl (EF.alloc trivial) (fun _ _ _ h => h.elim) (fun d H2 ⟨q9, k1, hq9, k2⟩ => ⟨?_, ?_⟩)
   · subst k2
     have n9 : q9 ≠ q := fun e => by rw [e, hqq] at hq9; cases hq9
     exact (by (repeat (refine stabP_cons rfl (by first | exact StabP.of (QV.evP trivial rfl) rfl | exact StabP.of (QV.bsl trivial rfl) rfl | exact StabP.of (QV.callP trivial rfl (text_ok _ _ hx9)) rfl | exact StabP.of (QV.callP trivial rfl (heard_ok _ _ (by decide) (by omega) hxk6)) rfl | exact StabP.of (QV.evP trivial (evP_ld rfl ((Hp.upd_ne (Ne.symm n9)).trans hqq) (ldEl x))) rfl) ?_)); exact stabP_nil)
   subst k1; subst k2
   let PC : Int → DV → List DV := fun m v => [.str (textF x.kids nRef), .str (textF x.kids nDisp), .int .i64 m, .lst (frmsC (heardD x.kids nRx)) (heardD x.kids nRx).length 2 none, .lst (frmsC (heardD x.kids nTx)) (heardD x.kids nTx).length 2 none, v]
   refine VP.pe 10 rfl rfl (EF.sto (cs := [.str [], .str [], .int .i64 0, .nils, .nils, .nils]) (ty := 56) (ys := PC 0 .nils) (d := .agg (PC 0 .nils)) trivial rfl Hp.upd_same rfl rfl rfl (by exact Nat.le_refl _)) (fun _ _ _ h => h.elim) (fun d H9 ⟨f1, f2⟩ => ⟨stabP_nil, ?_⟩)
   subst f1; subst f2
   refine VP.pd ?_
   rw [Hp.upd_upd, show spliceL 0 (PC 0 .nils) [.str [], .str [], .int .i64 0, .nils, .nils, .nils] = PC 0 .nils from rfl]
   have n9 : q9 ≠ q := fun e => by rw [e, hqq] at hq9; cases hq9
   have n96 : q9 ≠ b6 := fun e => by rw [e, hq6] at hq9; cases hq9
   have P8 : ∀ m v, (HQ.upd q9 (some (.cells (PC m v) 56))) q = some (.cells (elC x) elT) := fun m v => (Hp.upd_ne (Ne.symm n9)).trans hqq
   have P6 : ∀ m v', (HQ.upd q9 (some (.cells (PC m v') 56))) b6 = some (.cells (DC v) 28) := fun m v' => (Hp.upd_ne (Ne.symm n96)).trans hq6
   have P9 : ∀ m v, (HQ.upd q9 (some (.cells (PC m v) 56))) q9 = some (.cells (PC m v) 56) := fun m v => Hp.upd_same
   have PU : ∀ m v m' v', (HQ.upd q9 (some (.cells (PC m v) 56))).upd q9 (some (.cells (PC m' v') 56)) = HQ.upd q9 (some (.cells (PC m' v') 56)) := fun m v m' v' => Hp.upd_upd
   have PS : ∀ m v, SubH H' (HQ.upd q9 (some (.cells (PC m v) 56))) := fun m v => hsq.trans (SubH.fresh hq9)
   generalize hPB : (fun m v => HQ.upd q9 (some (.cells (PC m v) 56))) = PB
   have hPBv : ∀ m v, HQ.upd q9 (some (.cells (PC m v) 56)) = PB m v := fun m v => by rw [← hPB]
   simp only [hPBv] at P8 P6 P9 PU PS ⊢
   clear hPB hPBv
   have hmax := textF_len nMax hxo
   refine AC.seq (AC.reg ?_)
   refine RG.ld .d wh (P8 0 .nils) (ldEl x) ?_
   refine RG.callP .d rfl (text_ok x nMax hx9) ?_
   refine RG.callP .d rfl (figRead_ok (textF x.kids nMax) (by omega)) ?_
   have hpl2 : plcD x = ⟨textF x.kids nRef, textF x.kids nDisp, (figF (textF x.kids nMax)).1, heardD x.kids nRx, heardD x.kids nTx, kindsD x.kids⟩ := rfl
   generalize (figF (textF x.kids nMax)).1 = m at hpl2 ⊢
   refine go ?_
   refine RG.sto (cs := PC 0 .nils) (ty := 56) (d := .int .i64 m) (ys := [.int .i64 m]) .d wh (P9 0 .nils) (by exact rfl) rfl rfl (by show 3 ≤ 6; omega) ?_
   rw [show spliceL (0 + 2) [.int .i64 m] (PC 0 .nils) = PC m .nils from rfl, PU]
   refine RG.nilS (AC.seq (AC.seq (AC.reg ?_)))
   refine RG.ld .d wh (P8 m .nils) (ldEl x) ?_
   refine RG.callP .d rfl (Kids_ok x nCap hx9) ?_
   refine go ?_
   refine RG.nilS ?_
   have hkd : kindsD x.kids = (kidsF x.kids nCap).flatMap fun c => (kidsF c.kids nSync).map fun s => (figF s.text).1 := rfl
   have hcst : ∀ k ∈ kidsF x.kids nCap, okE k := fun k hk => hxk k (kidsF_mem hk)
   have hcsl : (kidsF x.kids nCap).length ≤ 200 := Nat.le_trans (kidsF_len _ _) hxl
   generalize kidsF x.kids nCap = cs at hkd hcst hcsl ⊢
   let KF : El → List Int := fun c => (kidsF c.kids nSync).map fun s => (figF s.text).1
   have hKF : ∀ c, okE c → (KF c).length ≤ 200 := fun c hc => by
    show ((kidsF c.kids nSync).map _).length ≤ 200
    rw [List.length_map]
    exact Nat.le_trans (kidsF_len _ _) (okE_kids hc).1
   have hKFs : ∀ l : List El, (∀ c ∈ l, okE c) → (l.flatMap KF).length ≤ 200 * l.length := fun l hl => by
    induction l with
    | nil => simp
    | cons c l ihl =>
      rw [List.flatMap_cons, List.length_append, List.length_cons]
      have h1 := hKF c (hl c (by simp))
      have h2 := ihl fun c' hc => hl c' (by simp [hc])
      omega
   refine AC.bloopH (α := Nat × DV) (β := DV) (fun a => cs.length - a.1) (fun a => [(1, .ptr b1 0), (2, .ptr b2 0), (3, .int .i64 0), (6, .ptr b6 0), (9, .ptr q9 0), (43, .lst (elsC ks) ks.length 5 none), (44, .int .i64 ks.length), (45, .int .i64 i), (66, .lst (elsC cs) cs.length 5 none), (67, .int .i64 cs.length), (68, .int .i64 a.1)])
    (fun a H' => a.1 ≤ cs.length ∧ GR 3 1 (PB m a.2) (((cs.take a.1).flatMap KF).map (DV.int .i64)) ((cs.take a.1).flatMap KF).length a.2 H') (fun vk => [(1, .ptr b1 0), (2, .ptr b2 0), (3, .int .i64 0), (6, .ptr b6 0), (9, .ptr q9 0), (43, .lst (elsC ks) ks.length 5 none), (44, .int .i64 ks.length), (45, .int .i64 i)])
    (fun vk H' => GR 3 1 (PB m vk) ((cs.flatMap KF).map (DV.int .i64)) (cs.flatMap KF).length vk H') ?_ ?_ (0, .nils) _ ⟨Nat.zero_le _, GR.nil⟩ ⟨rfl, rfl, rfl, rfl, rfl, rfl, rfl, rfl, rfl, rfl, rfl, trivial⟩
   · intro vk He fr h hfr
     refine AC.to _ hfr ?_
     refine AC.reg ?_
     refine go1 ?_
     refine RG.ld .d wh (h.look (P6 m vk)) (by exact rfl) ?_
     refine RG.ld .d wh (h.look (P9 m vk)) (d := .agg (PC m vk)) (by exact rfl) ?_
     have hd : DLe (.agg (PC m vk)) (.agg (plcC (plcD x))) := by
      rw [hpl2, hkd]
      exact (DLes.cons (DLe.refl _) (.cons (DLe.refl _) (.cons (DLe.refl _) (.cons (DLe.refl _) (.cons (DLe.refl _) (.cons h.le .nil)))))).agg
     refine RG.leSet hd (RG.drop ((PS m vk).trans h.sub) ?_)
     have hpc : (plcC (plcD x)).length = 6 := rfl
     refine RG.bslF (cs := plcC (plcD x)) .d (by exact rfl) ?_
     refine GR.app (ys := plcC (plcD x)) (m := 1) .d h3 rfl (by show srcD _ 6 (.lst (plcC (plcD x)) 1 6 none) = _; simp [srcD]) (by omega) (by omega) fun v' HL' hv' => ?_
     refine go1 ?_
     have hs := hv'.set (o' := .cells (DC v') 28) (W6 v)
     rw [U6] at hs
     refine RG.sto (cs := DC v) (ty := 28) (d := v') (ys := [v']) .d wh (hv'.look (W6 v)) (by exact rfl) hv'.cells rfl (by show 7 ≤ 7; omega) ?_
     rw [show spliceL (0 + 6) [v'] (DC v) = DC v' from rfl]
     refine RG.nil (AC.reg ?_)
     refine go ?_
     refine RG.nil (ih (i + 1, v') _ ⟨by dsimp only; omega, ?_⟩ (by dsimp only; omega) _ ⟨rfl, rfl, rfl, rfl, rfl, rfl, rfl, trivial⟩)
     dsimp only
     have hl1 : (ks.take (i + 1)).length = (ks.take i).length + 1 := by rw [List.length_take, List.length_take]; omega
     rw [hkt, plcsC_append, hl1]
     have : plcsC [plcD x] = plcC (plcD x) := by simp [plcsC]
     rw [this]; exact hs
   · rintro ⟨j, vk⟩ HK ⟨j2, j3⟩ ih2 ex2
     dsimp only at j2 j3 ih2 ⊢
     refine AC.seq (AC.reg ?_)
     refine go ?_
     cases x1 : decide ((j : Int) < cs.length)
     · have e := of_decide_eq_false x1
       rw [List.take_of_length_le (by omega)] at j3
       exact RG.nilS (AC.seq (AC.cond_f rfl (AC.exit (ex2 vk _ _ j3 ⟨rfl, rfl, rfl, rfl, rfl, rfl, rfl, rfl, trivial⟩))))
     have x2 := of_decide_eq_true x1
     have hj : j < cs.length := by omega
     have hct : (cs.take (j + 1)).flatMap KF = (cs.take j).flatMap KF ++ KF cs[j] := by rw [List.take_succ_eq_append_getElem hj, List.flatMap_append]; simp
     have hco := hcst _ (List.getElem_mem hj)
     have hcap := hKFs (cs.take j) fun c hc => hcst c (List.mem_of_mem_take hc)
     have hctl : (cs.take j).length = j := by rw [List.length_take]; omega
     rw [hctl] at hcap
     refine RG.nilS (AC.seq (AC.cond_t rfl (AC.skip (AC.seq (AC.block (AC.seq (AC.reg ?_)))))))
     refine RG.p .d (evP_iadr wh wh (by omega)) ?_
     refine RG.p .d (evP_ldc wh (row_el hj)) ?_
     generalize cs[j] = c at hct hco
     obtain ⟨hcl, hck⟩ := okE_kids hco
     have hc9 : c.kids.length ≤ 1000000000 := by omega
     refine RG.alloc .d fun q11 hq11 => ?_
     refine RG.sto (cs := [.int .i64 0, .str [], .str [], .bool false, .nils]) (ty := elT) (d := .agg (elC c)) (ys := elC c) .d wh Hp.upd_same (by exact rfl) rfl (elC_length _) (by exact Nat.le_refl _) ?_
     rw [Hp.upd_upd, spl_el]
     refine RG.nilS (AC.seq (AC.reg ?_))
     refine RG.ld .d wh Hp.upd_same (ldEl c) ?_
     refine RG.drop (SubH.fresh hq11) ?_
     refine RG.callP .d rfl (Kids_ok c nSync hc9) ?_
     refine go ?_
     refine RG.nilS ?_
     have hkf : KF c = (kidsF c.kids nSync).map fun s => (figF s.text).1 := rfl
     have hsst : ∀ k ∈ kidsF c.kids nSync, okE k := fun k hk => hck k (kidsF_mem hk)
     have hssl : (kidsF c.kids nSync).length ≤ 200 := Nat.le_trans (kidsF_len _ _) hcl
     generalize KF c = kfc at hct hkf
     generalize kidsF c.kids nSync = ss at hkf hsst hssl ⊢
     subst hkf
     generalize (cs.take j).flatMap KF = L0 at j3 hct hcap ⊢
     refine AC.bloopH (α := Nat × DV) (β := DV) (fun a => ss.length - a.1) (fun a => [(1, .ptr b1 0), (2, .ptr b2 0), (3, .int .i64 0), (6, .ptr b6 0), (9, .ptr q9 0), (43, .lst (elsC ks) ks.length 5 none), (44, .int .i64 ks.length), (45, .int .i64 i), (66, .lst (elsC cs) cs.length 5 none), (67, .int .i64 cs.length), (68, .int .i64 j), (73, .lst (elsC ss) ss.length 5 none), (74, .int .i64 ss.length), (75, .int .i64 a.1)])
      (fun a H' => a.1 ≤ ss.length ∧ GR 3 1 (PB m a.2) ((L0 ++ (ss.take a.1).map fun s => (figF s.text).1).map (DV.int .i64)) (L0 ++ (ss.take a.1).map fun s => (figF s.text).1).length a.2 H') (fun vk => [(1, .ptr b1 0), (2, .ptr b2 0), (3, .int .i64 0), (6, .ptr b6 0), (9, .ptr q9 0), (43, .lst (elsC ks) ks.length 5 none), (44, .int .i64 ks.length), (45, .int .i64 i), (66, .lst (elsC cs) cs.length 5 none), (67, .int .i64 cs.length), (68, .int .i64 j)])
      (fun vk H' => GR 3 1 (PB m vk) ((L0 ++ ss.map fun s => (figF s.text).1).map (DV.int .i64)) (L0 ++ ss.map fun s => (figF s.text).1).length vk H') ?_ ?_ (0, vk) _ ⟨Nat.zero_le _, by simpa using j3⟩ ⟨rfl, rfl, rfl, rfl, rfl, rfl, rfl, rfl, rfl, rfl, rfl, rfl, rfl, rfl, trivial⟩
     · intro vl He fr h hfr
       refine AC.to _ hfr ?_
       refine AC.reg ?_
       refine go ?_
       exact RG.nil (ih2 (j + 1, vl) _ ⟨by dsimp only; omega, by dsimp only; rw [hct]; exact h⟩ (by dsimp only; omega) _ ⟨rfl, rfl, rfl, rfl, rfl, rfl, rfl, rfl, rfl, rfl, rfl, trivial⟩)
     · rintro ⟨l, vl⟩ HL ⟨l2, l3⟩ ih3 ex3
       dsimp only at l2 l3 ih3 ⊢
       refine AC.seq (AC.reg ?_)
       refine go ?_
       cases y1 : decide ((l : Int) < ss.length)
       · have e := of_decide_eq_false y1
         rw [List.take_of_length_le (by omega)] at l3
         exact RG.nilS (AC.seq (AC.cond_f rfl (AC.exit (ex3 vl _ _ l3 ⟨rfl, rfl, rfl, rfl, rfl, rfl, rfl, rfl, rfl, rfl, rfl, trivial⟩))))
       have y2 := of_decide_eq_true y1
       have hl : l < ss.length := by omega
       have hst : (ss.take (l + 1)).map (fun s => (figF s.text).1) = (ss.take l).map (fun s => (figF s.text).1) ++ [(figF ss[l].text).1] := by rw [List.take_succ_eq_append_getElem hl, List.map_append]; rfl
       have hso := okE_text (hsst _ (List.getElem_mem hl))
       refine RG.nilS (AC.seq (AC.cond_t rfl (AC.skip (AC.seq (AC.block (AC.seq (AC.reg ?_)))))))
       refine RG.p .d (evP_iadr wh wh (by omega)) ?_
       refine RG.p .d (evP_ldc wh (row_el hl)) ?_
       generalize ss[l] = y at hst hso
       refine RG.alloc .d fun q13 hq13 => ?_
       refine RG.sto (cs := [.int .i64 0, .str [], .str [], .bool false, .nils]) (ty := elT) (d := .agg (elC y)) (ys := elC y) .d wh Hp.upd_same (by exact rfl) rfl (elC_length _) (by exact Nat.le_refl _) ?_
       rw [Hp.upd_upd, spl_el]
       refine RG.nilS (AC.seq (AC.reg ?_))
       refine go1 ?_
       refine RG.ld .d wh Hp.upd_same (d := .str y.text) (by rw [eta_el]; rfl) ?_
       refine RG.drop (SubH.fresh hq13) ?_
       refine RG.callP .d rfl (figRead_ok y.text (by omega)) ?_
       generalize hfy : (figF y.text).1 = fy at hst ⊢
       refine go ?_
       refine RG.nilS (AC.reg ?_)
       refine go1 ?_
       refine RG.ld .d wh (l3.look (P9 m vl)) (by exact rfl) ?_
       refine go1 ?_
       refine RG.bslF (cs := [.int .i64 fy]) .d (by exact rfl) ?_
       have hLL : (L0 ++ (ss.take l).map fun s => (figF s.text).1).length ≤ 1000000 := by rw [List.length_append, List.length_map, List.length_take]; omega
       refine GR.app (ys := [.int .i64 fy]) (m := 1) .d l3 rfl (by show srcD _ 1 (.lst [.int .i64 fy] 1 1 none) = _; simp [srcD]) (by omega) (by omega) fun v' HL' hv' => ?_
       refine go1 ?_
       have hs := hv'.set (o' := .cells (PC m v') 56) (P9 m vl)
       rw [PU] at hs
       refine RG.sto (cs := PC m vl) (ty := 56) (d := v') (ys := [v']) .d wh (hv'.look (P9 m vl)) (by exact rfl) hv'.cells rfl (by show 6 ≤ 6; omega) ?_
       rw [show spliceL (0 + 5) [v'] (PC m vl) = PC m v' from rfl]
       refine RG.nil (AC.reg ?_)
       refine go ?_
       refine RG.nil (ih3 (l + 1, v') _ ⟨by dsimp only; omega, ?_⟩ (by dsimp only; omega) _ ⟨rfl, rfl, rfl, rfl, rfl, rfl, rfl, rfl, rfl, rfl, rfl, rfl, rfl, rfl, trivial⟩)
       dsimp only
       rw [hst, ← List.append_assoc, List.map_append, List.length_append]
       exact hs
open Go Go.Run Go.RowKit
open Go.Proofs.Tryz (prog)
def F193 : FN := ⟨89, (.seq (.reg [ji 2 (.mv (ci 0)), ji 3 (.mv (ci 0))])
 (.seq (.seq (.reg [ji 9 (.mv (.t 0)), ji 10 (.bin .eql (.t 9) (.c (.str [])))])
 (.cond (.t 10) (.seq (.reg [ji 2 (.mv (ci 0)), ji 3 (.mv (ci 0))])
 .ret)
 .skip))
 (.seq (.reg [ji 11 (.mv (.t 0)), ji 12 (.idx (.t 11) (ci 0)), ji 13 (.conv .i64 (.t 12)), ji 4 (.mv (.t 13))])
 (.seq (.reg [ji 5 (.mv (ci 0)), ji 6 (.mv (ci 0)), ji 7 (.mv (ci 0))])
 (.seq (.block 0 (.seq (.reg [ji 15 (.mv (.t 4)), ji 16 (.bin .lss (.t 15) (ci 128)), ji 14 (.mv (.t 16))])
 (.cond (.t 14) (.seq (.reg [ji 17 (.mv (.t 4)), ji 2 (.mv (.t 17)), ji 3 (.mv (ci 1))])
 .ret)
 (.seq (.reg [ji 19 (.mv (.t 4)), ji 20 (.bin .geq (.t 19) (ci 192)), ji 21 (.mv (.t 20)), jg 22 21 true (.mv (.t 4)), jg 23 21 true (.bin .lss (.t 22) (ci 224)), ji 24 (.pick (.t 21) (.t 23) (.c (.bool false))), ji 18 (.mv (.t 24))])
 (.cond (.t 18) (.reg [ji 25 (.mv (.t 4)), ji 26 (.bin .rem (.t 25) (ci 32)), ji 5 (.mv (ci 2)), ji 6 (.mv (.t 26)), ji 7 (.mv (ci 128))])
 (.seq (.reg [ji 28 (.mv (.t 4)), ji 29 (.bin .geq (.t 28) (ci 224)), ji 30 (.mv (.t 29)), jg 31 30 true (.mv (.t 4)), jg 32 30 true (.bin .lss (.t 31) (ci 240)), ji 33 (.pick (.t 30) (.t 32) (.c (.bool false))), ji 27 (.mv (.t 33))])
 (.cond (.t 27) (.reg [ji 34 (.mv (.t 4)), ji 35 (.bin .rem (.t 34) (ci 16)), ji 5 (.mv (ci 3)), ji 6 (.mv (.t 35)), ji 7 (.mv (ci 2048))])
 (.seq (.reg [ji 37 (.mv (.t 4)), ji 38 (.bin .geq (.t 37) (ci 240)), ji 39 (.mv (.t 38)), jg 40 39 true (.mv (.t 4)), jg 41 39 true (.bin .lss (.t 40) (ci 248)), ji 42 (.pick (.t 39) (.t 41) (.c (.bool false))), ji 36 (.mv (.t 42))])
 (.cond (.t 36) (.reg [ji 43 (.mv (.t 4)), ji 44 (.bin .rem (.t 43) (ci 8)), ji 5 (.mv (ci 4)), ji 6 (.mv (.t 44)), ji 7 (.mv (ci 65536))])
 (.seq (.reg [ji 2 (.mv (ci 0)), ji 3 (.mv (ci 0))])
 .ret))))))))))
 (.seq (.seq (.reg [ji 45 (.mv (.t 0)), ji 46 (.len true (.t 45)), ji 47 (.mv (.t 5)), ji 48 (.bin .lss (.t 46) (.t 47))])
 (.cond (.t 48) (.seq (.reg [ji 2 (.mv (ci 0)), ji 3 (.mv (ci 0))])
 .ret)
 .skip))
 (.seq (.seq (.reg [ji 8 (.mv (ci 1))])
 (.block 1 (.loop (.seq (.seq (.reg [ji 49 (.mv (.t 8)), ji 50 (.mv (.t 5)), ji 51 (.bin .lss (.t 49) (.t 50))])
 (.cond (.t 51) .skip
 (.exit 1)))
 (.seq (.block 2 (.seq (.seq (.reg [ji 54 (.mv (.t 0)), ji 55 (.mv (.t 8)), ji 56 (.idx (.t 54) (.t 55)), ji 57 (.bin .lss (.t 56) (.c (.int .u8 128))), ji 58 (.mv (.t 57)), jg 59 58 false (.mv (.t 0)), jg 60 58 false (.mv (.t 8)), jg 61 58 false (.idx (.t 59) (.t 60)), jg 62 58 false (.bin .geq (.t 61) (.c (.int .u8 192))), ji 63 (.pick (.t 58) (.c (.bool true)) (.t 62))])
 (.cond (.t 63) (.seq (.reg [ji 2 (.mv (ci 0)), ji 3 (.mv (ci 0))])
 .ret)
 .skip))
 (.reg [ji 64 (.mv (.t 6)), ji 65 (.bin .mul (ci 64) (.t 64)), ji 66 (.mv (.t 0)), ji 67 (.mv (.t 8)), ji 68 (.idx (.t 66) (.t 67)), ji 69 (.conv .i64 (.t 68)), ji 70 (.bin .rem (.t 69) (ci 64)), ji 71 (.bin .add (.t 65) (.t 70)), ji 6 (.mv (.t 71))])))
 (.reg [ji 52 (.mv (.t 8)), ji 53 (.bin .add (.t 52) (ci 1)), ji 8 (.mv (.t 53))]))))))
 (.seq (.seq (.reg [ji 72 (.mv (.t 6)), ji 73 (.mv (.t 7)), ji 74 (.bin .lss (.t 72) (.t 73)), ji 75 (.mv (.t 74)), jg 76 75 false (.mv (.t 6)), jg 77 75 false (.bin .geq (.t 76) (ci 55296)), jg 78 75 false (.mv (.t 77)), jg 79 78 true (.mv (.t 6)), jg 80 78 true (.bin .lss (.t 79) (ci 57344)), jg 81 75 false (.pick (.t 78) (.t 80) (.c (.bool false))), ji 82 (.pick (.t 75) (.c (.bool true)) (.t 81)), ji 83 (.mv (.t 82)), jg 84 83 false (.mv (.t 6)), jg 85 83 false (.bin .gtr (.t 84) (ci 1114111)), ji 86 (.pick (.t 83) (.c (.bool true)) (.t 85))])
 (.cond (.t 86) (.seq (.reg [ji 2 (.mv (ci 0)), ji 3 (.mv (ci 0))])
 .ret)
 .skip))
 (.seq (.reg [ji 87 (.mv (.t 6)), ji 88 (.mv (.t 5)), ji 2 (.mv (.t 87)), ji 3 (.mv (.t 88))])
 .ret))))))))), [.tmp 2, .tmp 3]⟩
theorem cF193 : cFn prog 193 = some F193 := by kernel_rfl
def F149 : FN := ⟨26, (.seq (.reg [ji 2 (.mv (.c .nils)), ji 3 (.mv (.c (.bool false)))])
 (.seq (.reg [ji 4 (.mv (.c .nils))])
 (.seq (.block 0 (.loop (.seq (.seq (.reg [ji 7 (.mv (.t 0)), ji 8 (.bin .neq (.t 7) (.c (.str [])))])
 (.cond (.t 8) .skip
 (.exit 0)))
 (.block 1 (.seq (.reg [ji 10 (.mv (.t 0)), ji 11 (.call 193 [(.t 10)]), ji 9 (.mv (.t 11)), ji 12 (.ext (.t 9) 0), ji 13 (.ext (.t 9) 1), ji 5 (.mv (.t 12)), ji 6 (.mv (.t 13))])
 (.seq (.seq (.reg [ji 14 (.mv (.t 6)), ji 15 (.bin .eql (.t 14) (ci 0))])
 (.cond (.t 15) (.seq (.reg [ji 16 (.mv (.t 4)), ji 2 (.mv (.t 16)), ji 3 (.mv (.c (.bool false)))])
 .ret)
 .skip))
 (.seq (.reg [ji 17 (.mv (.t 4)), ji 18 (.mv (.t 5)), ji 19 (.conv .i32 (.t 18)), ji 20 (.bsl 21 1 1 [(.int .i32 0)] [(0, 1, (.t 19))]), ji 21 (.app 21 1 4 (.t 17) (.t 20)), ji 4 (.mv (.t 21))])
 (.reg [ji 22 (.mv (.t 0)), ji 23 (.mv (.t 6)), ji 24 (.slcS (.t 22) (some (.t 23)) none), ji 0 (.mv (.t 24))]))))))))
 (.seq (.reg [ji 25 (.mv (.t 4)), ji 2 (.mv (.t 25)), ji 3 (.mv (.c (.bool true)))])
 .ret)))), [.tmp 2, .tmp 3]⟩
theorem cF149 : cFn prog 149 = some F149 := by kernel_rfl
def F90 : FN := ⟨11, (.seq (.reg [ji 2 (.mv (.c (.bool false)))])
 (.seq (.reg [ji 6 (.mv (.t 0)), ji 7 (.call 149 [(.t 6)]), ji 5 (.mv (.t 7)), ji 8 (.ext (.t 5) 0), ji 9 (.ext (.t 5) 1), ji 3 (.mv (.t 8)), ji 4 (.mv (.t 9))])
 (.seq (.reg [ji 10 (.mv (.t 4)), ji 2 (.mv (.t 10))])
 .ret))), [.tmp 2]⟩
theorem cF90 : cFn prog 90 = some F90 := by kernel_rfl
variable {G : Gl}
def foldX (s : List UInt8) (x0 : Nat) : Nat → Nat
 | 0 => x0
 | i + 1 => 64 * foldX s x0 i + (s.getD (i + 1) 0).toNat % 64
theorem foldX_lt (s : List UInt8) {x0 : Nat} (h : x0 < 32) : ∀ i, i ≤ 3 → foldX s x0 i < 32 * 64 ^ i
 | 0, _ => by simpa [foldX] using h
 | i + 1, hi => by
   have := foldX_lt s h i (by omega)
   rw [foldX, Nat.pow_succ]
   have := Nat.mod_lt (s.getD (i + 1) 0).toNat (show 0 < 64 by decide)
   omega
structure ONE (s : List UInt8) (k x0 least : Nat) : Prop where
 k2 : 2 ≤ k
 k4 : k ≤ 4
 kl : k ≤ s.length
 co : ∀ j, 1 ≤ j → j < k → (s.getD j 0).toNat / 64 = 2
 x5 : x0 < 32
 le : least ≤ foldX s x0 (k - 1)
 su : foldX s x0 (k - 1) < 55296 ∨ 57344 ≤ foldX s x0 (k - 1)
 mx : foldX s x0 (k - 1) ≤ 1114111
theorem one_cases {s : List UInt8} (hok : ¬ ((Lib.decodeL s).1 = 65533 ∧ (Lib.decodeL s).2 = 1)) : ((s.getD 0 0).toNat < 128 ∧ (Lib.decodeL s).2 = 1) ∨
  (192 ≤ (s.getD 0 0).toNat ∧ (s.getD 0 0).toNat < 224 ∧ (Lib.decodeL s).2 = 2 ∧ ONE s 2 ((s.getD 0 0).toNat % 32) 128) ∨
  (224 ≤ (s.getD 0 0).toNat ∧ (s.getD 0 0).toNat < 240 ∧ (Lib.decodeL s).2 = 3 ∧ ONE s 3 ((s.getD 0 0).toNat % 16) 2048) ∨
  (240 ≤ (s.getD 0 0).toNat ∧ (s.getD 0 0).toNat < 248 ∧ (Lib.decodeL s).2 = 4 ∧ ONE s 4 ((s.getD 0 0).toNat % 8) 65536) := by
 rw [Lib.decodeL_N] at hok ⊢
 unfold Lib.decodeN at hok ⊢
 split
 · exact .inl ⟨‹_›, rfl⟩
 rename_i h1
 rw [if_neg h1] at hok
 split
 · rename_i h2
   rw [if_pos h2] at hok
   split
   · rename_i h3
     refine .inr (.inl ⟨by omega, by omega, rfl, ⟨by omega, by omega, by omega, fun j j1 j2 => ?_, by omega, ?_, ?_, ?_⟩⟩)
     · have : j = 1 := by omega
       subst this; omega
     all_goals (simp only [foldX, Nat.zero_add, Nat.reduceAdd, Nat.reduceSub]; omega)
   · rename_i h3
     rw [if_neg h3] at hok
     exact absurd ⟨rfl, rfl⟩ hok
 rename_i h2
 rw [if_neg h2] at hok
 split
 · rename_i h3
   rw [if_pos h3] at hok
   split
   · rename_i h4
     refine .inr (.inr (.inl ⟨by omega, by omega, rfl, ⟨by omega, by omega, by omega, fun j j1 j2 => ?_, by omega, ?_, ?_, ?_⟩⟩))
     · have : j = 1 ∨ j = 2 := by omega
       rcases this with rfl | rfl <;> omega
     all_goals (simp only [foldX, Nat.zero_add, Nat.reduceAdd, Nat.reduceSub]; omega)
   · rename_i h4
     rw [if_neg h4] at hok
     exact absurd ⟨rfl, rfl⟩ hok
 rename_i h3
 rw [if_neg h3] at hok
 split
 · rename_i h4
   rw [if_pos h4] at hok
   split
   · rename_i h5
     refine .inr (.inr (.inr ⟨by omega, by omega, rfl, ⟨by omega, by omega, by omega, fun j j1 j2 => ?_, by omega, ?_, ?_, ?_⟩⟩))
     · have : j = 1 ∨ j = 2 ∨ j = 3 := by omega
       rcases this with rfl | rfl | rfl <;> omega
     all_goals (simp only [foldX, Nat.zero_add, Nat.reduceAdd, Nat.reduceSub]; omega)
   · rename_i h5
     rw [if_neg h5] at hok
     exact absurd ⟨rfl, rfl⟩ hok
 · rename_i h4
   rw [if_neg h4] at hok
   exact absurd ⟨rfl, rfl⟩ hok
theorem at0 {s : List UInt8} {i : Nat} (h : i < s.length) : s[i]? = some (s.getD i 0) := by
 simp [List.getD, List.getElem?_eq_getElem h]
theorem ev_bool {b b' : Bool} (h : b = b') : (some (DV.bool b) : Option DV) = some (.bool b') := by rw [h]
theorem one_ok {s : List UInt8} (hne : s ≠ []) (hok : ¬ ((Lib.decodeL s).1 = 65533 ∧ (Lib.decodeL s).2 = 1)) (H : Hp) : CALL prog G 193 [.str s] H (fun r H' => (∃ x, r = .tup [.int .i64 x, .int .i64 (Lib.decodeL s).2]) ∧ H' = H) (fun _ _ => False) := by
 have hl : 0 < s.length := List.length_pos_iff.2 hne
 have hcs := one_cases hok
 have hb := (s.getD 0 0).toNat_lt
 refine CALL.of cF193 (Nat.le_of_ble_eq_true rfl) ?_
 refine AC.seq (AC.reg ?_)
 refine go1 ?_
 refine go1 ?_
 refine RG.nilS (AC.seq (AC.seq (AC.reg ?_)))
 refine go1 ?_
 refine RG.p (d := .bool false) .d (ev_bool (by cases s with | nil => exact absurd rfl hne | cons a l => rfl)) ?_
 refine RG.nilS (AC.cond_f rfl (AC.skip (AC.seq (AC.reg ?_))))
 refine go1 ?_
 refine RG.at (b := s.getD 0 0) .d rfl rfl (by omega) (at0 hl) ?_
 refine RG.p (d := .int .i64 (s.getD 0 0).toNat) .d (by
  show some (DV.int .i64 (IntKind.wrap .i64 ((s.getD 0 0).toNat : Int))) = _
  rw [IntWalk.i64_in _ (by omega)]) ?_
 refine go1 ?_
 generalize hc : (s.getD 0 0).toNat = c at hcs hb ⊢
 refine RG.nilS (AC.seq (AC.reg ?_))
 refine go1 ?_
 refine go1 ?_
 refine go1 ?_
 refine RG.nilS (AC.seqI (I := fun fr' H2 => ∃ k x0 least : Nat, (Lib.decodeL s).2 = k ∧ ONE s k x0 least ∧ H2 = H ∧ Agrees fr' [(0, .str s), (5, .int .i64 k), (6, .int .i64 x0), (7, .int .i64 least)]) ?_ ?_)
 · refine AC.block (AC.seq (AC.reg ?_))
   refine go1 ?_
   rcases hcs with ⟨h1, h2⟩ | hcs
   · refine RG.p (d := .bool true) .d (ev_bool (by simp; omega)) ?_
     refine go1 ?_
     refine RG.nilS (AC.cond_t rfl (AC.seq (AC.reg ?_)))
     refine go1 ?_
     refine go1 ?_
     refine go1 ?_
     refine RG.nilS (AC.ret (fin rfl ⟨⟨c, ?_⟩, rfl⟩))
     rw [h2]; rfl
   have h128 : 128 ≤ c := by rcases hcs with h | h | h <;> omega
   refine RG.p (d := .bool false) .d (ev_bool (by simp; omega)) ?_
   refine go1 ?_
   refine RG.nilS (AC.cond_f rfl (AC.seq (AC.reg ?_)))
   refine go1 ?_
   rcases hcs with ⟨h1, h2, h3, h4⟩ | hcs
   · refine RG.p (d := .bool true) .d (ev_bool (by simp; omega)) ?_
     refine go1 ?_
     refine go1 ?_
     refine RG.p (d := .bool true) .d (ev_bool (by simp; omega)) ?_
     refine go1 ?_
     refine go1 ?_
     refine RG.nilS (AC.cond_t rfl (AC.reg ?_))
     refine go1 ?_
     refine RG.p (d := .int .i64 (c % 32 : Nat)) .d (by
      show (if (32 : Int) = 0 then none else some (DV.int .i64 ((c : Int).tmod 32))) = _
      rw [if_neg (by decide), Int.tmod_eq_emod_of_nonneg (by omega)]; rfl) ?_
     refine go1 ?_
     refine go1 ?_
     refine go1 ?_
     exact RG.nil ⟨2, c % 32, 128, h3, h4, rfl, rfl, rfl, rfl, rfl, trivial⟩
   have h224 : 224 ≤ c := by rcases hcs with h | h <;> omega
   refine RG.p (d := .bool true) .d (ev_bool (by simp; omega)) ?_
   refine go1 ?_
   refine go1 ?_
   refine RG.p (d := .bool false) .d (ev_bool (by simp; omega)) ?_
   refine go1 ?_
   refine go1 ?_
   refine RG.nilS (AC.cond_f rfl (AC.seq (AC.reg ?_)))
   refine go1 ?_
   refine RG.p (d := .bool true) .d (ev_bool (by simp; omega)) ?_
   refine go1 ?_
   refine go1 ?_
   rcases hcs with ⟨h1, h2, h3, h4⟩ | ⟨h1, h2, h3, h4⟩
   · refine RG.p (d := .bool true) .d (ev_bool (by simp; omega)) ?_
     refine go1 ?_
     refine go1 ?_
     refine RG.nilS (AC.cond_t rfl (AC.reg ?_))
     refine go1 ?_
     refine RG.p (d := .int .i64 (c % 16 : Nat)) .d (by
      show (if (16 : Int) = 0 then none else some (DV.int .i64 ((c : Int).tmod 16))) = _
      rw [if_neg (by decide), Int.tmod_eq_emod_of_nonneg (by omega)]; rfl) ?_
     refine go1 ?_
     refine go1 ?_
     refine go1 ?_
     exact RG.nil ⟨3, c % 16, 2048, h3, h4, rfl, rfl, rfl, rfl, rfl, trivial⟩
   refine RG.p (d := .bool false) .d (ev_bool (by simp; omega)) ?_
   refine go1 ?_
   refine go1 ?_
   refine RG.nilS (AC.cond_f rfl (AC.seq (AC.reg ?_)))
   refine go1 ?_
   refine RG.p (d := .bool true) .d (ev_bool (by simp; omega)) ?_
   refine go1 ?_
   refine go1 ?_
   refine RG.p (d := .bool true) .d (ev_bool (by simp; omega)) ?_
   refine go1 ?_
   refine go1 ?_
   refine RG.nilS (AC.cond_t rfl (AC.reg ?_))
   refine go1 ?_
   refine RG.p (d := .int .i64 (c % 8 : Nat)) .d (by
    show (if (8 : Int) = 0 then none else some (DV.int .i64 ((c : Int).tmod 8))) = _
    rw [if_neg (by decide), Int.tmod_eq_emod_of_nonneg (by omega)]; rfl) ?_
   refine go1 ?_
   refine go1 ?_
   refine go1 ?_
   exact RG.nil ⟨4, c % 8, 65536, h3, h4, rfl, rfl, rfl, rfl, rfl, trivial⟩
 · rintro fr H2 ⟨k, x0, least, hk, hO, rfl, hag⟩
   refine AC.to _ hag ?_
   refine AC.seq (AC.seq (AC.reg ?_))
   refine go1 ?_
   refine go1 ?_
   refine go1 ?_
   have hkl := hO.kl
   refine RG.p (d := .bool false) .d (ev_bool (by simp; omega)) ?_
   refine RG.nilS (AC.cond_f rfl (AC.skip (AC.seq (AC.seq (AC.reg ?_)))))
   refine go1 ?_
   refine RG.nilS ?_
   have hk2 := hO.k2
   have hk4 := hO.k4
   refine AC.bloopH (α := Nat) (β := Unit) (fun i => k - i) (fun i => [(0, .str s), (5, .int .i64 k), (6, .int .i64 (foldX s x0 (i - 1))), (7, .int .i64 least), (8, .int .i64 i)])
    (fun i H' => 1 ≤ i ∧ i ≤ k ∧ H' = H2) (fun _ => [(5, .int .i64 k), (6, .int .i64 (foldX s x0 (k - 1))), (7, .int .i64 least)]) (fun _ H' => H' = H2) ?_ ?_ 1 _ ⟨by omega, by omega, rfl⟩ ⟨rfl, rfl, rfl, rfl, rfl, trivial⟩
   · intro _ He fr h1 hfr
     subst h1
     have h5 := hO.le
     have h6 := hO.su
     have h7 := hO.mx
     generalize foldX s x0 (k - 1) = x at h5 h6 h7 hfr
     refine AC.to _ hfr (AC.seq (AC.seq (AC.reg ?_)))
     refine go1 ?_
     refine go1 ?_
     refine RG.p (d := .bool false) .d (ev_bool (by simp; omega)) ?_
     refine go1 ?_
     refine go1 ?_
     refine RG.p (d := .bool (decide (55296 ≤ x))) .d (ev_bool (by rw [Bool.eq_iff_iff]; simp; omega)) ?_
     have rest : ∀ fr', fr' 5 = .int .i64 (k : Nat) → fr' 6 = .int .i64 (x : Nat) → AC prog G none F193.N (.seq (.reg [ji 87 (.mv (.t 6)), ji 88 (.mv (.t 5)), ji 2 (.mv (.t 87)), ji 3 (.mv (.t 88))]) .ret)
       (Fin F193.rs (fun r H' => (∃ x, r = .tup [.int .i64 x, .int .i64 (Lib.decodeL s).2]) ∧ H' = He) (fun _ _ => False)) fr' He := by
      intro fr' e5 e6
      refine AC.to [(5, .int .i64 k), (6, .int .i64 x)] ⟨e5, e6, trivial⟩ (AC.seq (AC.reg ?_))
      refine go1 ?_
      refine go1 ?_
      refine go1 ?_
      refine go1 ?_
      refine RG.nilS (AC.ret (fin rfl ⟨⟨x, ?_⟩, rfl⟩))
      rw [hk]; rfl
     cases c1 : decide (55296 ≤ x)
     · refine go1 ?_
       refine go1 ?_
       refine go1 ?_
       refine go1 ?_
       refine go1 ?_
       refine go1 ?_
       refine go1 ?_
       refine RG.p (d := .bool false) .d (ev_bool (by simp; omega)) ?_
       refine go ?_
       exact RG.nilS (AC.cond_f rfl (AC.skip (rest _ rfl rfl)))
     · have := of_decide_eq_true c1
       refine go1 ?_
       refine go1 ?_
       refine RG.p (d := .bool false) .d (ev_bool (by simp; omega)) ?_
       refine go1 ?_
       refine go1 ?_
       refine go1 ?_
       refine go1 ?_
       refine RG.p (d := .bool false) .d (ev_bool (by simp; omega)) ?_
       refine go ?_
       exact RG.nilS (AC.cond_f rfl (AC.skip (rest _ rfl rfl)))
   · rintro i H' ⟨h1, h2, h3⟩ ih ex
     subst h3
     refine AC.seq (AC.seq (AC.reg ?_))
     refine go1 ?_
     refine go1 ?_
     refine RG.p (d := .bool (decide (i < k))) .d (ev_bool (by rw [Bool.eq_iff_iff]; simp)) ?_
     cases c1 : decide (i < k)
     · have := of_decide_eq_false c1
       have e : i = k := by omega
       subst e
       exact RG.nilS (AC.cond_f rfl (AC.exit (ex () _ _ rfl ⟨rfl, rfl, rfl, trivial⟩)))
     have hik := of_decide_eq_true c1
     have hco := hO.co i h1 hik
     have hlt := foldX_lt s hO.x5 (i - 1) (by omega)
     have hpow : 64 ^ (i - 1) ≤ 4096 := by
      have : i = 1 ∨ i = 2 ∨ i = 3 := by omega
      rcases this with rfl | rfl | rfl <;> decide
     have hfx : foldX s x0 i = 64 * foldX s x0 (i - 1) + (s.getD i 0).toNat % 64 := by
      obtain ⟨q, rfl⟩ : ∃ q, i = q + 1 := ⟨i - 1, by omega⟩
      rw [foldX]; rfl
     have hbi := (s.getD i 0).toNat_lt
     have hget : s[((i : Nat) : Int).toNat]? = some (s.getD i 0) := at0 (by omega)
     generalize hc : s.getD i 0 = c at hco hfx hbi hget
     refine RG.nilS (AC.cond_t rfl (AC.skip (AC.seq (AC.block (AC.seq (AC.seq (AC.reg ?_)))))))
     refine go1 ?_
     refine go1 ?_
     refine RG.at (b := c) .d rfl rfl (by omega) hget ?_
     refine RG.p (d := .bool false) .d (ev_bool (by simp; omega)) ?_
     refine go1 ?_
     refine go1 ?_
     refine go1 ?_
     refine RG.at (b := c) .d rfl rfl (by omega) hget ?_
     refine RG.p (d := .bool false) .d (ev_bool (by simp; omega)) ?_
     refine go ?_
     refine RG.nilS (AC.cond_f rfl (AC.skip (AC.reg ?_)))
     refine go1 ?_
     refine RG.p (d := .int .i64 (64 * foldX s x0 (i - 1) : Nat)) .d (by
      show some (DV.int .i64 (IntKind.wrap .i64 (64 * ((foldX s x0 (i - 1) : Nat) : Int)))) = _
      rw [IntWalk.i64_in _ (by omega)]
      congr 2) ?_
     refine go1 ?_
     refine go1 ?_
     refine RG.at (b := c) .d rfl rfl (by omega) hget ?_
     refine RG.p (d := .int .i64 c.toNat) .d (by
      show some (DV.int .i64 (IntKind.wrap .i64 (c.toNat : Int))) = _
      rw [IntWalk.i64_in _ (by omega)]) ?_
     refine RG.p (d := .int .i64 (c.toNat % 64 : Nat)) .d (by
      show (if (64 : Int) = 0 then none else some (DV.int .i64 ((c.toNat : Int).tmod 64))) = _
      rw [if_neg (by decide), Int.tmod_eq_emod_of_nonneg (by omega)]; rfl) ?_
     refine RG.p (d := .int .i64 (foldX s x0 i : Nat)) .d (by
      show some (DV.int .i64 (IntKind.wrap .i64 (((64 * foldX s x0 (i - 1) : Nat) : Int) + ((c.toNat % 64 : Nat) : Int)))) = _
      rw [IntWalk.i64_in _ (by omega), hfx]
      congr 2) ?_
     refine go1 ?_
     refine RG.nil (AC.reg ?_)
     refine go1 ?_
     refine go1 ?_
     refine go1 ?_
     exact RG.nil (ih (i + 1) _ ⟨by omega, by omega, rfl⟩ (by omega) _ ⟨rfl, rfl, rfl, rfl, rfl, trivial⟩)
end Go.Run.Tryz
