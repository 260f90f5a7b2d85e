/- Part 10 of a proof: texts H6 B5 B6 B7 B8. -/
import Derived.Test.YthmjdmianbobbaaGreatDoorVI
namespace Go.Run.Tryz
open Go Go.Run Go.RowKit
open Go.Proofs.Tryz (prog)
def F71 : FN := ⟨5, (.seq (.reg [ji 1 (.box 24 (.t 0)), ji 2 (.mv (.c .nilfn))])
 (.seq (.reg [ji 3 (.ld true 5 (.t 1)), ji 4 (.call 96 [(.t 3), (ci 20)]), ji 2 (.mv (.t 4))])
 .ret)), [.tmp 2]⟩
theorem cF71 : cFn prog 71 = some F71 := by kernel_rfl
variable {G : Gl}
def walkE (p : Nat × El) : List DV := [.int .i64 p.1, .agg (elC p.2)]
theorem okR_append {σ α : Type} {R : σ → α → Prop} {step : σ → α → σ × Bool} : ∀ (a b : List α) (s : σ), okR R step s (a ++ b) → okR R step s a ∧ ((runG step s a).2 = true → okR R step (runG step s a).1 b)
 | [], b, s, h => ⟨trivial, fun _ => h⟩
 | x :: a, b, s, h => by
   obtain ⟨h1, h2⟩ := h
   refine ⟨⟨h1, fun hs => (okR_append a b _ (h2 hs)).1⟩, fun hs => ?_⟩
   rw [runG] at hs ⊢
   cases e : (step s x).2
   · rw [e] at hs; cases hs
   · rw [e, cond_true] at hs
     exact (okR_append a b _ (h2 e)).2 hs
theorem walkJ_ok {σ : Type} {yv : DV} {step : σ → Nat × El → σ × Bool} {R : σ → Nat × El → Prop} {J E : σ → Hp → Prop} (hy : YJ prog G walkE R yv step J E) (M : Nat) (hM : M < 1000000) :
  ∀ (m : Nat) (e : El) (d : Nat) (s : σ) (A : Hp), fits e → okR R step s (pre M e d) → J s A → M + 1 ≤ d + m → d ≤ M + 1 → CALL prog G 155 [.agg (elC e), .int .i64 d, .int .i64 M, yv] A
   (fun r H' => r = .bool (runG step s (pre M e d)).2 ∧ ((runG step s (pre M e d)).2 = true → J (runG step s (pre M e d)).1 H') ∧ ((runG step s (pre M e d)).2 = false → E (runG step s (pre M e d)).1 H')) (fun _ _ => False) := by
 intro m
 induction m with
 | zero =>
   intro e d s A hfit hR hJ hm hd
   have hb : Nat.blt M d = true := blt_iff.2 (by omega)
   have hp : pre M e d = [] := by cases e; rw [pre, hb]; rfl
   rw [hp]
   refine CALL.of cF155 (Nat.le_of_ble_eq_true rfl) ?_
   refine AC.seq (AC.reg ?_)
   refine RG.box .d rfl rfl fun b hb => ?_
   refine go ?_
   refine RG.nilS (AC.seq (AC.seq (AC.reg ?_)))
   refine go ?_
   have e1 : decide ((d : Int) > M) = true := by simp; omega
   rw [e1]
   refine RG.nilS (AC.cond_t rfl (AC.seq (AC.reg ?_)))
   refine go ?_
   exact RG.nilS (AC.ret (finD (H' := A) rfl (SubH.fresh hb) ⟨rfl, fun _ => hJ, fun h => by cases h⟩))
 | succ m ih =>
   intro e d s A hfit hR hJ hm hd
   refine CALL.of cF155 (Nat.le_of_ble_eq_true rfl) ?_
   refine AC.seq (AC.reg ?_)
   refine RG.box .d rfl rfl fun b hb => ?_
   refine go ?_
   refine RG.nilS (AC.seq (AC.seq (AC.reg ?_)))
   refine go ?_
   cases e1 : decide ((d : Int) > M)
   case true =>
    have hlt := of_decide_eq_true e1
    have hbb : Nat.blt M d = true := blt_iff.2 (by omega)
    have hp : pre M e d = [] := by cases e; rw [pre, hbb]; rfl
    rw [hp]
    refine RG.nilS (AC.cond_t rfl (AC.seq (AC.reg ?_)))
    refine go ?_
    exact RG.nilS (AC.ret (finD (H' := A) rfl (SubH.fresh hb) ⟨rfl, fun _ => hJ, fun h => by cases h⟩))
   have hle := of_decide_eq_false e1
   have hbf : Nat.blt M d = false := blt_false (by omega)
   obtain ⟨p, n, t, o, ks⟩ := e
   obtain ⟨hkl, hks⟩ := hfit
   have he : elC (.mk p n t o ks) = [.int .i64 p, .str n, .str t, .bool o, .lst (elsC ks) ks.length 5 none] := by rw [elC]
   have hpre : pre M (.mk p n t o ks) d = (d, .mk p n t o ks) :: pres M ks (d + 1) := by rw [pre, hbf]; rfl
   rw [hpre] at hR ⊢
   rw [runG]
   obtain ⟨hR1, hR2⟩ := hR
   have hy1 := hy s (d, .mk p n t o ks) A hR1 hJ
   refine RG.nilS (AC.cond_f rfl (AC.skip (AC.seq (AC.seq (AC.reg ?_)))))
   refine go1 ?_
   refine go1 ?_
   refine RG.ld .d wh hbb (d := .agg (elC (.mk p n t o ks))) (by rw [he]; rfl) ?_
   refine RG.calV .d rfl rfl (hy1.frame hb notF_cells) (fun r H' ⟨A', ⟨k1, k2, k2'⟩, k3, k4⟩ => ?_) (fun r H' ⟨_, k, _⟩ => k.elim)
   subst k1; subst k4
   refine go ?_
   generalize hs1 : (step s (d, .mk p n t o ks)).1 = s1 at k2 k2' hR2 ⊢
   cases e2 : (step s (d, .mk p n t o ks)).2
   case false =>
    refine RG.nilS (AC.cond_t rfl (AC.seq (AC.reg ?_)))
    refine go ?_
    exact RG.nilS (AC.ret (finD (H' := A') rfl (SubH.fresh k3) ⟨rfl, fun h => (by cases h), fun _ => k2' e2⟩))
   have hJ1 := k2 e2
   have hR3 := hR2 e2
   refine RG.nilS (AC.cond_f rfl (AC.skip (AC.seq (AC.seq (AC.reg ?_)))))
   rw [cond_true, he]
   refine go ?_
   refine RG.nilS ?_
   generalize hRES : runG step s1 (pres M ks (d + 1)) = RES
   refine AC.bloopH (α := Nat × σ) (β := Unit) (fun a => ks.length - a.1) (fun a => [(1, .int .i64 d), (2, .int .i64 M), (3, yv), (20, .lst (elsC ks) ks.length 5 none), (21, .int .i64 ks.length), (22, .int .i64 a.1)])
    (fun a H' => a.1 ≤ ks.length ∧ ∃ A1, J a.2 A1 ∧ A1 b = none ∧ H' = A1.upd b (some (.cells [.int .i64 p, .str n, .str t, .bool o, .lst (elsC ks) ks.length 5 none] elT)) ∧ RES = runG step a.2 (pres M (ks.drop a.1) (d + 1)) ∧ okR R step a.2 (pres M (ks.drop a.1) (d + 1)))
    (fun _ => []) (fun _ H' => RES.2 = true ∧ ∃ A1, J RES.1 A1 ∧ SubH A1 H') ?_ ?_ (0, s1) _ ⟨Nat.zero_le _, A', hJ1, k3, rfl, hRES.symm, hR3⟩ ⟨rfl, rfl, rfl, rfl, rfl, rfl, trivial⟩
   · rintro _ He fr ⟨h1, A1, h2, h3⟩ hfr
     refine AC.to _ hfr (AC.seq (AC.reg ?_))
     refine go ?_
     exact RG.nilS (AC.ret (finD rfl h3 ⟨by rw [h1]; rfl, fun _ => h2, fun h => (by rw [h1] at h; cases h)⟩))
   · rintro ⟨i, s2⟩ H' ⟨h1, A2, h2, h3, h4, h5, h6⟩ ih2 ex
     subst h4
     dsimp only at h1 h2 h3 h5 h6 ⊢
     refine AC.seq (AC.reg ?_)
     refine go ?_
     cases e3 : decide ((i : Int) < ks.length)
     · have e := of_decide_eq_false e3
       have hd : ks.drop i = [] := List.drop_eq_nil_of_le (by omega)
       rw [hd] at h5
       have h7 : RES = (s2, true) := h5
       exact RG.nilS (AC.seq (AC.cond_f rfl (AC.exit (ex () _ _ ⟨by rw [h7], A2, by rw [h7]; exact h2, SubH.fresh h3⟩ trivial))))
     · have e := of_decide_eq_true e3
       have hi : i < ks.length := by omega
       rw [pres_drop M (d + 1) ks i hi] at h5 h6
       rw [runG_append] at h5
       obtain ⟨g1, g2⟩ := okR_append _ _ _ h6
       have hrow' := row_el hi
       have hmem := List.getElem_mem hi
       generalize ks[i] = x at h5 g1 g2 hrow' hmem
       refine RG.nilS (AC.seq (AC.cond_t rfl (AC.skip (AC.seq (AC.block (AC.seq (AC.reg ?_)))))))
       refine RG.p .d (evP_iadr wh wh (by omega)) ?_
       refine RG.p .d (evP_ldc wh hrow') ?_
       refine RG.alloc .d fun q hq => ?_
       have hqb : q ≠ b := fun e => by rw [e, Hp.upd_same] at hq; cases hq
       have hq2 : A2 q = none := by rw [Hp.upd_ne hqb] at hq; exact hq
       refine RG.sto (cs := [.int .i64 0, .str [], .str [], .bool false, .nils]) (ty := elT) (d := .agg (elC x)) (ys := elC x) .d wh Hp.upd_same (by exact rfl) rfl (elC_length _) (by exact Nat.le_refl _) ?_
       rw [Hp.upd_upd, spl_el]
       refine RG.nilS (AC.seq (AC.reg ?_))
       refine RG.ld .d wh Hp.upd_same (ldEl x) ?_
       refine go ?_
       have hc := ih x (d + 1) s2 A2 (fitss_mem ks hks _ hmem) g1 h2 (by omega) (by omega)
       have hc2 := (hc.frame (b := b) (o := .cells [.int .i64 p, .str n, .str t, .bool o, .lst (elsC ks) ks.length 5 none] elT) h3 notF_cells).frame (b := q) (o := .cells (elC x) elT) (by rw [Hp.upd_ne hqb]; exact hq2) notF_cells
       refine RG.call .d rfl hc2 (fun r H' ⟨B', ⟨B2, ⟨k1, k2, k2'⟩, k3, k4⟩, k5, k6⟩ => ?_) (fun r H' ⟨_, ⟨_, k, _⟩, _⟩ => k.elim)
       subst k1; subst k4; subst k6
       refine go ?_
       generalize hR : runG step s2 (pre M x (d + 1)) = Rx at h5 k2 k2' g2 ⊢
       cases e4 : Rx.2
       · rw [e4, cond_false] at h5
         refine RG.nilS (AC.cond_t rfl (AC.seq (AC.reg ?_)))
         refine go ?_
         exact RG.nilS (AC.ret (finD (H' := B2) rfl ((SubH.fresh k3).trans (SubH.fresh k5)) ⟨by rw [h5]; rfl, fun h => (by rw [h5] at h; cases h), fun _ => by rw [h5]; exact k2' e4⟩))
       · rw [e4, cond_true] at h5
         refine RG.nilS (AC.cond_f rfl (AC.skip ?_))
         refine AC.drop (SubH.fresh k5) (AC.reg ?_)
         refine go ?_
         exact RG.nil (ih2 (i + 1, Rx.1) _ ⟨by dsimp only; omega, B2, k2 e4, k3, rfl, h5, g2 e4⟩ (by dsimp only; omega) _ ⟨rfl, rfl, rfl, rfl, rfl, rfl, trivial⟩)
def wB (b1 b2 : Nat) (e : El) (M : Nat) : List (Nat × DO) := [(b2, .cells [.int .i64 M] 3), (b1, .cells (elC e) elT)]
theorem within1J_ok {b1 b2 : Nat} {e : El} {M : Nat} (hM : M < 1000000) (hfit : fits e) : ITER prog G 154 [] [.ptr b1 0, .ptr b2 0] walkE (pre M e 1) (wB b1 b2 e M) := by
 intro σ yv step R J E s0 A0 hy hyv hR hJ hB
 have hc := CALL.frameB hB (walkJ_ok hy M hM (M + 1) e 1 s0 A0 hfit hR hJ (by omega) (by omega))
 have hw2 : addB (wB b1 b2 e M) A0 b2 = some (.cells [.int .i64 M] 3) := Hp.upd_same
 have hne : b1 ≠ b2 := fun e => by
  have := hB.1
  rw [← e] at this
  simp only [addB, Hp.upd_same] at this
  cases this
 have hw1 : addB (wB b1 b2 e M) A0 b1 = some (.cells (elC e) elT) := by
  show ((A0.upd b1 _).upd b2 _) b1 = _
  rw [Hp.upd_ne hne]; exact Hp.upd_same
 refine CALL.of cF154 (Nat.le_of_ble_eq_true rfl) ?_
 refine AC.reg ?_
 refine RG.ld .d wh hw1 (ldEl e) ?_
 refine RG.ld .d wh hw2 (d := .int .i64 M) rfl ?_
 refine go ?_
 refine RG.call .d rfl hc (fun r H' ⟨A', ⟨k1, k2, k3⟩, k4, k5⟩ => ?_) (fun r H' ⟨_, k, _⟩ => k.elim)
 subst k5
 exact RG.nil (fin rfl ⟨A', k2, k3, k4, rfl⟩)
theorem Walk_ok (e : El) (H : Hp) : CALL prog G 71 [.agg (elC e)] H
  (fun r H' => ∃ b1 b2, r = .func (.func 154) [] [.ptr b1 0, .ptr b2 0] ∧ freeB (wB b1 b2 e 20) H ∧ H' = addB (wB b1 b2 e 20) H) (fun _ _ => False) := by
 refine CALL.of cF71 (Nat.le_of_ble_eq_true rfl) ?_
 refine AC.seq (AC.reg ?_)
 refine RG.box (d := .agg (elC e)) (ys := elC e) .d rfl rfl fun q hq => ?_
 refine go ?_
 refine RG.nilS (AC.seq (AC.reg ?_))
 refine RG.ld .d wh Hp.upd_same (ldEl e) ?_
 refine RG.call .d rfl (within_ok e 20 _) (fun r H1 ⟨b1, b2, h1, h2, h3, h4, h5⟩ => ?_) (fun _ _ h => h.elim)
 subst h4; subst h5
 have n1 : b1 ≠ q := fun e => by rw [e, Hp.upd_same] at h1; cases h1
 have n2 : b2 ≠ q := fun e => by rw [e, Hp.upd_same] at h2; cases h2
 rw [Hp.upd_ne n1] at h1
 rw [Hp.upd_ne n2] at h2
 refine go ?_
 refine RG.nilS (AC.ret (finD (H' := addB (wB b1 b2 e 20) H) rfl ?_ ⟨b1, b2, rfl, ⟨by show (H.upd b1 _) b2 = none; rw [Hp.upd_ne h3]; exact h2, notF_cells, h1, notF_cells, trivial⟩, rfl⟩))
 rw [wH, Hp.upd_comm (Ne.symm n1), Hp.upd_comm (Ne.symm n2)]
 refine SubH.fresh ?_
 show ((H.upd b1 _).upd b2 _) q = none
 rw [Hp.upd_ne (Ne.symm n2), Hp.upd_ne (Ne.symm n1)]; exact hq
def F104 : FN := ⟨9, (.seq (.reg [ji 4 (.mv (.c (.bool false)))])
 (.seq (.reg [ji 5 (.mv (.t 0)), ji 6 (.mv (.t 1)), ji 7 (.call 160 [(.t 5), (.t 6)]), ji 8 (.bin .geq (.t 7) (ci 0)), ji 4 (.mv (.t 8))])
 .ret)), [.tmp 4]⟩
theorem cF104 : cFn prog 104 = some F104 := by kernel_rfl
def F160 : FN := ⟨19, (.seq (.reg [ji 4 (.mv (ci 0))])
 (.seq (.seq (.reg [ji 6 (.mv (.t 0)), ji 7 (.len false (.t 6)), ji 8 (.mv (ci 0))])
 (.block 0 (.loop (.seq (.reg [ji 9 (.bin .lss (.t 8) (.t 7))])
 (.seq (.cond (.t 9) .skip
 (.exit 0))
 (.seq (.block 1 (.seq (.reg [ji 10 (.mv (.t 8)), ji 5 (.mv (.t 10))])
 (.seq (.reg [ji 11 (.mv (.t 1)), ji 12 (.mv (.t 0)), ji 13 (.mv (.t 5)), ji 14 (.iadr 1 (.t 12) (.t 13)), ji 15 (.ld false 1 (.t 14)), ji 16 (.bin .eql (.t 11) (.t 15))])
 (.cond (.t 16) (.seq (.reg [ji 17 (.mv (.t 5)), ji 4 (.mv (.t 17))])
 .ret)
 .skip))))
 (.reg [ji 18 (.bin .add (.t 8) (ci 1)), ji 8 (.mv (.t 18))])))))))
 (.seq (.reg [ji 4 (.mv (.c (.int .i64 (-1))))])
 .ret))), [.tmp 4]⟩
theorem cF160 : cFn prog 160 = some F160 := by kernel_rfl
def F43 : FN := ⟨62, (.seq (.reg [ji 1 (.box 24 (.t 0)), ji 2 (.mv (.c .nils))])
 (.seq (.seq (.reg [ji 10 (.ld true 5 (.t 1)), ji 11 (.call 38 [(.t 10)]), ji 12 (.bin .neq (.t 11) (ci 0))])
 (.cond (.t 12) (.seq (.reg [ji 2 (.mv (.c .nils))])
 .ret)
 .skip))
 (.seq (.reg [ji 13 (.oth (.makeMap 76 none)), ji 3 (.alloc [.nilmap] 76), jn (.st 1 (.t 3) (.t 13))])
 (.seq (.seq (.reg [ji 14 (.ld true 5 (.t 1)), ji 15 (.call 71 [(.t 14)])])
 (.block 0 (.rng (.t 15) [16, 17] (.reg [ji 5 (.alloc [(.int .i64 0), (.str []), (.str []), (.bool false), .nils] 24), jn (.st 5 (.t 5) (.t 17))])
 (.block 1 (.seq (.reg [ji 18 (.fadr 3 (.t 5)), ji 19 (.ld false 1 (.t 18)), ji 20 (.un .not (.t 19))])
 (.cond (.t 20) (.reg [ji 21 (.ld false 1 (.t 3)), ji 22 (.fadr 2 (.t 5)), ji 23 (.ld false 1 (.t 22)), ji 24 (.oth (.lookup 76 (.tmp 21) (.tmp 23) false)), ji 25 (.bin .add (.t 24) (ci 1)), jn (.oth (.mapUpdate 76 (.tmp 21) (.tmp 23) (.tmp 25)))])
 .skip))))))
 (.seq (.reg [ji 6 (.alloc [.nils] 79)])
 (.seq (.reg [ji 26 (.mkfn (.func 103) [] [(.t 6)]), ji 7 (.alloc [.nilfn] 133), jn (.st 1 (.t 7) (.t 26))])
 (.seq (.seq (.reg [ji 27 (.ld true 5 (.t 1)), ji 28 (.call 71 [(.t 27)])])
 (.block 2 (.rng (.t 28) [29, 30] (.reg [ji 9 (.alloc [(.int .i64 0), (.str []), (.str []), (.bool false), .nils] 24), jn (.st 5 (.t 9) (.t 30))])
 (.block 3 (.seq (.seq (.reg [ji 31 (.fadr 0 (.t 9)), ji 32 (.ld false 1 (.t 31)), ji 33 (.fadr 1 (.t 9)), ji 34 (.ld false 1 (.t 33)), ji 35 (.call 105 [(.t 32), (.t 34)]), ji 36 (.bin .eql (.t 35) (.c (.int .u8 0)))])
 (.cond (.t 36) (.reg [ji 37 (.ld false 1 (.t 7)), ji 38 (.fadr 1 (.t 9)), ji 39 (.ld false 1 (.t 38)), ji 40 (.calv (.t 37) [(.t 39)])])
 .skip))
 (.seq (.reg [ji 41 (.fadr 3 (.t 9)), ji 42 (.ld false 1 (.t 41)), ji 43 (.un .not (.t 42)), ji 44 (.mv (.t 43)), jg 45 44 true (.fadr 2 (.t 9)), jg 46 44 true (.ld false 1 (.t 45)), jg 47 44 true (.len true (.t 46)), jg 48 44 true (.bin .geq (.t 47) (ci 4)), ji 49 (.pick (.t 44) (.t 48) (.c (.bool false))), ji 50 (.mv (.t 49)), jg 51 50 true (.ld false 1 (.t 3)), jg 52 50 true (.fadr 2 (.t 9)), jg 53 50 true (.ld false 1 (.t 52)), jg 54 50 true (.oth (.lookup 76 (.tmp 51) (.tmp 53) false)), jg 55 50 true (.bin .gtr (.t 54) (ci 1)), ji 56 (.pick (.t 50) (.t 55) (.c (.bool false)))])
 (.cond (.t 56) (.reg [ji 57 (.ld false 1 (.t 7)), ji 58 (.fadr 2 (.t 9)), ji 59 (.ld false 1 (.t 58)), ji 60 (.calv (.t 57) [(.t 59)])])
 .skip)))))))
 (.seq (.reg [ji 61 (.ld false 1 (.t 6)), ji 2 (.mv (.t 61))])
 .ret)))))))), [.tmp 2]⟩
theorem cF43 : cFn prog 43 = some F43 := by kernel_rfl
def F103 : FN := ⟨11, (.seq (.reg [ji 3 (.ld false 1 (.t 1)), ji 4 (.mv (.t 0)), ji 5 (.call 104 [(.t 3), (.t 4)]), ji 6 (.un .not (.t 5))])
 (.cond (.t 6) (.reg [ji 7 (.ld false 1 (.t 1)), ji 8 (.mv (.t 0)), ji 9 (.bsl 9 1 1 [(.str [])] [(0, 1, (.t 8))]), ji 10 (.app 9 1 16 (.t 7) (.t 9)), jn (.st 1 (.t 1) (.t 10))])
 .skip)), []⟩
theorem cF103 : cFn prog 103 = some F103 := by kernel_rfl
theorem SubH.both {A B : Hp} {k : Nat} {o : Option DO} (h : SubH A B) : SubH (A.upd k o) (B.upd k o) := by
 intro b x e
 by_cases hb : b = k
 · subst hb; rw [Hp.upd_same] at e ⊢; exact e
 · rw [Hp.upd_ne hb] at e ⊢; exact h b x e
def strs (l : List (List UInt8)) : List DV := l.map DV.str
def idxL (s : List UInt8) : List (List UInt8) → Nat → Int
 | [], _ => -1
 | x :: l, i => bif s == x then (i : Nat) else idxL s l (i + 1)
theorem idxL_ge (s : List UInt8) : ∀ (l : List (List UInt8)) (i : Nat), decide (idxL s l i ≥ 0) = l.contains s
 | [], i => rfl
 | x :: l, i => by
   rw [idxL, List.contains_cons]
   cases c : s == x
   · rw [cond_false, Bool.false_or]; exact idxL_ge s l (i + 1)
   · rw [cond_true, Bool.true_or]; simp
theorem IndexS_ok (l : List (List UInt8)) (s : List UInt8) (hl : l.length ≤ 1000000) : PF prog G 160 [.lst (strs l) l.length 1 none, .str s] (.int .i64 (idxL s l 0)) := by
 intro H
 refine CALL.of cF160 (Nat.le_of_ble_eq_true rfl) ?_
 refine al ?_
 refine AC.bloopH (α := Nat) (β := Unit) (fun i => l.length - i) (fun i => [(0, .lst (strs l) l.length 1 none), (1, .str s), (7, .int .i64 l.length), (8, .int .i64 i)])
  (fun i H' => H' = H ∧ i ≤ l.length ∧ idxL s l 0 = idxL s (l.drop i) i) (fun _ => []) (fun _ H' => H' = H ∧ idxL s l 0 = -1) ?_ ?_ 0 _ ⟨rfl, Nat.zero_le _, rfl⟩ ⟨rfl, rfl, rfl, rfl, trivial⟩
 · rintro _ He fr ⟨rfl, h2⟩ hfr
   refine AC.to _ hfr ?_
   show AC _ _ _ _ _ _ _ _
   refine au ?_
   exact AC.ret (fin rfl ⟨by rw [h2]; rfl, rfl⟩)
 · rintro i H' ⟨rfl, h1, h2⟩ ih ex
   refine AC.seq (AC.reg ?_)
   refine go ?_
   cases e1 : decide ((i : Int) < l.length)
   · have e := of_decide_eq_false e1
     rw [List.drop_eq_nil_of_le (by omega)] at h2
     exact RG.nilS (AC.seq (AC.cond_f rfl (AC.exit (ex () _ _ ⟨rfl, h2⟩ trivial))))
   · have e := of_decide_eq_true e1
     have hi : i < l.length := by omega
     rw [List.drop_eq_getElem_cons hi, idxL] at h2
     refine RG.nilS (AC.seq (AC.cond_t rfl (AC.skip (AC.seq (AC.block (AC.seq (AC.reg ?_)))))))
     refine go ?_
     refine RG.nilS (AC.seq (AC.reg ?_))
     refine go1 ?_
     refine go1 ?_
     refine go1 ?_
     refine RG.p .d (evP_iadr wh wh (by omega)) ?_
     refine RG.p (d := .str l[i]) .d (evP_ldc wh (partD_one (by rw [Int.toNat_natCast, strs, List.getElem?_map, List.getElem?_eq_getElem hi]; rfl))) ?_
     refine RG.p (d := .bool (s == l[i])) .d rfl ?_
     cases c : s == l[i]
     · rw [c, cond_false] at h2
       refine RG.nilS (AC.cond_f rfl (AC.skip (AC.reg ?_)))
       refine go ?_
       exact RG.nil (ih (i + 1) _ ⟨rfl, by omega, h2⟩ (by omega) _ ⟨rfl, rfl, rfl, rfl, trivial⟩)
     · rw [c, cond_true] at h2
       refine RG.nilS (AC.cond_t rfl (AC.seq (AC.reg ?_)))
       refine go ?_
       exact RG.nilS (AC.ret (fin rfl ⟨by rw [h2]; rfl, rfl⟩))
theorem ContainsS_ok (l : List (List UInt8)) (s : List UInt8) (hl : l.length ≤ 1000000) : PF prog G 104 [.lst (strs l) l.length 1 none, .str s] (.bool (l.contains s)) := by
 intro H
 refine CALL.of cF104 (Nat.le_of_ble_eq_true rfl) ?_
 repeat (first | refine go1 ?_ | refine RG.zD ?_ | refine RG.callP .d rfl (IndexS_ok l s hl) ?_ | refine nav ?_)
 exact AC.ret (fin rfl ⟨by rw [← idxL_ge s l 0]; rfl, rfl⟩)
def layF (l : List (List UInt8)) (s : List UInt8) : List (List UInt8) := bif l.contains s then l else l ++ [s]
def LAY (H0 : Hp) (lb : Nat) (l : List (List UInt8)) (A : Hp) : Prop := H0 lb = none ∧ ∃ v, GR 9 1 (H0.upd lb (some (.cells [v] 79))) (strs l) l.length v A
theorem lay_ok {H0 A : Hp} {lb : Nat} {l : List (List UInt8)} {s : List UInt8} (h : LAY H0 lb l A) (hl : l.length ≤ 1000000) :
  CALL prog G 103 [.str s, .ptr lb 0] A (fun _ A' => LAY H0 lb (layF l s) A') (fun _ _ => False) := by
 obtain ⟨h0, v, hv⟩ := h
 have hlb : A lb = some (.cells [v] 79) := hv.look Hp.upd_same
 refine CALL.of cF103 (Nat.le_of_ble_eq_true rfl) ?_
 refine AC.seq (AC.reg ?_)
 refine RG.ld .d rfl hlb (d := v) rfl ?_
 refine RG.leSet hv.le ?_
 refine go1 ?_
 refine RG.callP .d rfl (ContainsS_ok l s hl) ?_
 refine go ?_
 cases c : l.contains s
 · refine RG.nilS (AC.cond_t rfl (AC.reg ?_))
   refine RG.ld .d rfl hlb (d := v) rfl ?_
   refine go1 ?_
   refine RG.zD ?_
   refine GR.app (ys := [.str s]) (m := 1) .d hv rfl rfl (by omega) (fun h => by cases h) (fun v' A' hv' => ?_)
   have hb' : A' lb = some (.cells [v] 79) := hv'.look Hp.upd_same
   refine RG.sto1 .d rfl hb' rfl hv'.cells ?_
   have hv2 := hv'.set (k := lb) (o' := .cells [v'] 79) Hp.upd_same
   rw [Hp.upd_upd] at hv2
   refine RG.nil (fin rfl ⟨h0, v', ?_⟩)
   rw [layF, c, cond_false, strs, List.map_append, List.length_append]
   exact hv2
 · refine RG.nilS (AC.cond_f rfl (AC.skip (fin rfl ⟨h0, v, ?_⟩)))
   rw [layF, c, cond_true]
   exact hv
def okT1 (tab : List (List UInt8)) (done : List (Nat × El)) : Prop :=
 (∀ s ∈ tab, ∃ p ∈ done, s = p.2.name ∨ (p.2.op = false ∧ s = p.2.text)) ∧ tab.length ≤ 2 * done.length ∧ ∀ p ∈ done, tokF p.2.page p.2.name = 0 → p.2.name ∈ tab
def mayLay (b : Bool) (l : List (List UInt8)) (s : List UInt8) : List (List UInt8) := bif b then layF l s else l
theorem layF_mem {l : List (List UInt8)} {s x : List UInt8} (h : x ∈ layF l s) : x ∈ l ∨ x = s := by
 rw [layF] at h
 cases c : l.contains s
 · rw [c, cond_false] at h
   simpa using h
 · rw [c, cond_true] at h; exact .inl h
theorem layF_sub {l : List (List UInt8)} {s x : List UInt8} (h : x ∈ l) : x ∈ layF l s := by
 rw [layF]
 cases l.contains s
 · rw [cond_false]; exact List.mem_append_left _ h
 · exact h
theorem layF_self {l : List (List UInt8)} {s : List UInt8} : s ∈ layF l s := by
 rw [layF]
 cases c : l.contains s
 · rw [cond_false]; simp
 · rw [cond_true]; simpa using c
theorem layF_len {l : List (List UInt8)} {s : List UInt8} : (layF l s).length ≤ l.length + 1 := by
 rw [layF]
 cases l.contains s
 · rw [cond_false]; simp
 · rw [cond_true]; omega
theorem okT1_step {tab : List (List UInt8)} {done : List (Nat × El)} {x : Nat × El} {b : Bool} (h : okT1 tab done) (hb : b = true → x.2.op = false) :
  okT1 (mayLay b (mayLay (tokF x.2.page x.2.name == 0) tab x.2.name) x.2.text) (done ++ [x]) := by
 obtain ⟨h1, h2, h3⟩ := h
 have m1 : ∀ s, s ∈ mayLay (tokF x.2.page x.2.name == 0) tab x.2.name → s ∈ tab ∨ s = x.2.name := fun s hs => by
  rw [mayLay] at hs
  cases c : tokF x.2.page x.2.name == 0
  · rw [c] at hs; exact .inl hs
  · rw [c] at hs; exact layF_mem hs
 have m2 : ∀ (bb : Bool) (l : List (List UInt8)) (s y : List UInt8), y ∈ l → y ∈ mayLay bb l s := fun bb l s y hy => by
  cases bb
  · exact hy
  · exact layF_sub hy
 have m3 : ∀ (bb : Bool) (l : List (List UInt8)) (s : List UInt8), (mayLay bb l s).length ≤ l.length + 1 := fun bb l s => by
  cases bb
  · exact Nat.le_succ _
  · exact layF_len
 refine ⟨fun s hs => ?_, ?_, fun p hp ht => ?_⟩
 · have h0 : s ∈ mayLay (tokF x.2.page x.2.name == 0) tab x.2.name ∨ (b = true ∧ s = x.2.text) := by
    cases b
    · exact .inl hs
    · rcases layF_mem hs with h | h
      · exact .inl h
      · exact .inr ⟨rfl, h⟩
   rcases h0 with h0 | ⟨h0, rfl⟩
   · rcases m1 s h0 with h | rfl
     · obtain ⟨p, hp, hh⟩ := h1 s h
       exact ⟨p, by simp [hp], hh⟩
     · exact ⟨x, by simp, .inl rfl⟩
   · exact ⟨x, by simp, .inr ⟨hb h0, rfl⟩⟩
 · have a1 := m3 b (mayLay (tokF x.2.page x.2.name == 0) tab x.2.name) x.2.text
   have a2 := m3 (tokF x.2.page x.2.name == 0) tab x.2.name
   rw [List.length_append, List.length_singleton]; omega
 · rcases List.mem_append.1 hp with hp | hp
   · exact m2 _ _ _ _ (m2 _ _ _ _ (h3 p hp ht))
   · rw [List.mem_singleton.1 hp] at ht ⊢
     refine m2 _ _ _ _ ?_
     rw [ht]
     exact layF_self
theorem runDone {α : Type} : ∀ (l done : List α), runG (fun (d : List α) x => (d ++ [x], true)) done l = (done ++ l, true)
 | [], done => by rw [List.append_nil]; rfl
 | x :: l, done => by
   rw [runG, cond_true, runDone l]
   simp
theorem okDone {α : Type} {q : α → Prop} {N : Nat} : ∀ (l done : List α), done.length + l.length ≤ N → (∀ x ∈ l, q x) → okR (fun (d : List α) x => d.length < N ∧ q x) (fun (d : List α) x => (d ++ [x], true)) done l
 | [], done, _, _ => trivial
 | x :: l, done, h, hq => by
   rw [List.length_cons] at h
   exact ⟨⟨by omega, hq x (by simp)⟩, fun _ => okDone l _ (by simp; omega) fun y hy => hq y (by simp [hy])⟩
theorem pre_count (e : El) (h : checkF e = 0) : (pre 20 e 1).length ≤ 2000 := by
 obtain ⟨h1, h2⟩ := check_ok h
 have h3 := nodes_pre e 1 20 (by omega)
 have h4 := nodes_pre e 1 5000 (by omega)
 unfold checkF at h
 obtain ⟨_, h⟩ := bif_zero (by omega) h
 obtain ⟨h5, _⟩ := bif_zero (by omega) h
 simp only [weightF, List.length_take, decide_eq_false_iff_not] at h5
 omega
theorem Table_ok (hG : GOS G) (e : El) (hfit : fits e) (hc : checkF e = 0) (H : Hp) : CALL prog G 43 [.agg (elC e)] H
  (fun r H' => ∃ tab, r = .lst (strs tab) tab.length 1 none ∧ okT1 tab (pre 20 e 1) ∧ H' = H) (fun _ _ => False) := by
 have hcount := pre_count e hc
 refine CALL.of cF43 (Nat.le_of_ble_eq_true rfl) ?_
 refine AC.seq (AC.reg ?_)
 refine RG.box (d := .agg (elC e)) (ys := elC e) .d rfl rfl fun q hq => ?_
 refine go ?_
 refine RG.nilS (AC.seq (AC.seq (AC.reg ?_)))
 refine RG.ld .d wh Hp.upd_same (ldEl e) ?_
 refine RG.callP .d rfl (Check_ok hG.ok e hfit) ?_
 rw [hc]
 refine go ?_
 refine RG.nilS (AC.cond_f rfl (AC.skip (AC.seq (AC.reg ?_))))
 refine RG.st (ST.mkmap fun mb hmb => ?_)
 refine RG.alloc .d fun tb htb => ?_
 have hmq : mb ≠ q := fun e => by rw [e, Hp.upd_same] at hmb; cases hmb
 have htm : tb ≠ mb := fun e => by rw [e, Hp.upd_same] at htb; cases htb
 have htb' := htb
 rw [Hp.upd_ne htm] at htb'
 have htq : tb ≠ q := fun e => by rw [e, Hp.upd_same] at htb'; cases htb'
 rw [Hp.upd_ne htq] at htb'
 rw [Hp.upd_ne hmq] at hmb
 refine RG.sto1 (d := .mapr mb) .d rfl Hp.upd_same rfl rfl ?_
 rw [Hp.upd_upd]
 -- what stands all along
 generalize hHb : (H.upd q (some (.cells (elC e) 24))).upd tb (some (.cells [.mapr mb] 76)) = Hb
 have hHbm : Hb mb = none := by rw [← hHb, Hp.upd_ne (Ne.symm htm), Hp.upd_ne hmq]; exact hmb
 have hHbt : Hb tb = some (.cells [.mapr mb] 76) := by rw [← hHb]; exact Hp.upd_same
 have hHbq : Hb q = some (.cells (elC e) elT) := by rw [← hHb, Hp.upd_ne (Ne.symm htq)]; exact Hp.upd_same
 have hHs : SubH H Hb := by
  rw [← hHb]
  exact (SubH.fresh hq).trans (SubH.fresh (by rw [Hp.upd_ne htq]; exact htb'))
 have hstart : ((H.upd q (some (.cells (elC e) 24))).upd mb (some (mpo []))).upd tb (some (.cells [.mapr mb] 76)) = Hb.upd mb (some (mpo [])) := by
  rw [Hp.upd_comm (Ne.symm htm), hHb]
 rw [hstart]
 have hfq : ∀ l, (Hb.upd mb (some (mpo l))) q = some (.cells (elC e) elT) := fun l => by rw [Hp.upd_ne (Ne.symm hmq)]; exact hHbq
 have hft : ∀ l, (Hb.upd mb (some (mpo l))) tb = some (.cells [.mapr mb] 76) := fun l => by rw [Hp.upd_ne htm]; exact hHbt
 refine RG.nilS (AC.seqI (I := fun fr' H' => (∃ l, SubH (Hb.upd mb (some (mpo l))) H') ∧ Agrees fr' [(1, .ptr q 0), (3, .ptr tb 0)]) (AC.seq (AC.reg ?_)) ?_)
 · refine RG.ld .d rfl (hfq _) (ldEl e) ?_
   refine RG.call .d rfl (Walk_ok e _) (fun r H1 ⟨b1, b2, k1, k2, k3⟩ => ?_) (fun _ _ h => h.elim)
   subst k1; subst k3
   refine RG.nilS (AC.block ?_)
   generalize hfr : Fr.put _ (some 15) _ = fr
   have f1 : fr 1 = .ptr q 0 := by rw [← hfr]; rfl
   have f3 : fr 3 = .ptr tb 0 := by rw [← hfr]; rfl
   have f15 : fr 15 = .func (.func 154) [] [.ptr b1 0, .ptr b2 0] := by rw [← hfr]; rfl
   clear hfr
   refine AC.rngJ (x := .t 15) (σ := Unit) (step := fun _ _ => ((), true)) f15 (within1J_ok (by decide) hfit) (fun _ => rfl) (fun _ _ => True) (fun _ A => ∃ l, A = Hb.upd mb (some (mpo l))) (fun _ _ _ => False) ?_ () _ (okR_true _ _ _) ⟨[], rfl⟩ k2 ?_ ?_
   · rintro _ ⟨d, x⟩ A lp L hL _ ⟨l, rfl⟩ hA
     refine AC.reg ?_
     refine RG.alloc .d fun x2 hx2 => ?_
     have hxl : x2 ≠ lp := fun e => by rw [e, Hp.upd_same] at hx2; cases hx2
     rw [Hp.upd_ne hxl] at hx2
     have hxm : x2 ≠ mb := fun e => by rw [e, Hp.upd_same] at hx2; cases hx2
     have hlm : lp ≠ mb := fun e => by rw [e, Hp.upd_same] at hA; cases hA
     have htx : tb ≠ x2 := fun e => by rw [← e, hft] at hx2; cases hx2
     have htl : tb ≠ lp := fun e => by rw [← e, hft] at hA; cases hA
     refine RG.sto (cs := [.int .i64 0, .str [], .str [], .bool false, .nils]) (ty := elT) (d := .agg (elC x)) (ys := elC x) .d rfl Hp.upd_same rfl rfl (elC_length _) (by exact Nat.le_refl _) ?_
     rw [Hp.upd_upd, spl_el, Hp.upd_comm (Ne.symm hxl)]
     refine RG.nil ⟨rfl, _, by rw [Hp.upd_ne (Ne.symm hxl)]; exact hA, rfl, fun L' hL' => ?_⟩
     refine AC.to [(3, .ptr tb 0), (5, .ptr x2 0)] ⟨f3, rfl, trivial⟩ ?_
     have hq2 : (((Hb.upd mb (some (mpo l))).upd x2 (some (.cells (elC x) elT))).upd lp (some L')) x2 = some (.cells (elC x) elT) := by rw [Hp.upd_ne hxl]; exact Hp.upd_same
     have hm2 : (((Hb.upd mb (some (mpo l))).upd x2 (some (.cells (elC x) elT))).upd lp (some L')) mb = some (mpo l) := by rw [Hp.upd_ne (Ne.symm hlm), Hp.upd_ne (Ne.symm hxm)]; exact Hp.upd_same
     have ht2 : (((Hb.upd mb (some (mpo l))).upd x2 (some (.cells (elC x) elT))).upd lp (some L')) tb = some (.cells [.mapr mb] 76) := by rw [Hp.upd_ne htl, Hp.upd_ne htx]; exact hft l
     refine AC.block (AC.seq (AC.reg ?_))
     refine go1 ?_
     refine RG.ld .d rfl hq2 (d := .bool x.op) (by rw [eta_el]; rfl) ?_
     refine go ?_
     cases hop : x.op
     · refine RG.nilS (AC.cond_t rfl (AC.reg ?_))
       refine RG.ld .d rfl ht2 (d := .mapr mb) rfl ?_
       refine go1 ?_
       refine RG.ld .d rfl hq2 (d := .str x.text) (by rw [eta_el]; rfl) ?_
       refine RG.st (ST.look (P := prog) (kt := 9) (et := 3) (i := Go.Proofs.Tryz.t3) (by kernel_rfl) (by kernel_rfl) (by kernel_rfl) (by kernel_rfl) rfl rfl hm2 ?_)
       refine go1 ?_
       refine RG.st (ST.mset (P := prog) (kt := 9) (et := 3) (by kernel_rfl) (by kernel_rfl) rfl rfl rfl hm2 ?_)
       refine RG.nil ⟨Hb.upd mb (some (mpo (mset l x.text (IntKind.i64.wrap ((mget l x.text).getD 0 + 1))))), rfl, ⟨_, rfl⟩, by rw [Hp.upd_ne hlm] at hA ⊢; exact hA, ?_⟩
       rw [Hp.upd_comm hlm, Hp.upd_comm hxm, Hp.upd_upd]
       exact SubH.both (SubH.fresh (by rw [Hp.upd_ne hxm] at hx2 ⊢; exact hx2))
     · refine RG.nilS (AC.cond_f rfl (AC.skip ?_))
       exact ⟨Hb.upd mb (some (mpo l)), rfl, ⟨_, rfl⟩, hA, SubH.both (SubH.fresh hx2)⟩
   · rintro A' _ ⟨l, rfl⟩ hF
     exact ⟨⟨l, freeB_sub hF⟩, f1, f3, trivial⟩
   · rintro A' p hr _ hF
     exfalso
     have : ∀ (l : List (Nat × El)), (runG (fun (_ : Unit) (_ : Nat × El) => ((), true)) () l).2 = true := fun l => by
      induction l with
      | nil => rfl
      | cons a l ih => exact ih
     rw [this] at hr; cases hr
 rintro fr H1 ⟨⟨l, hl⟩, f1, f3, _⟩
 refine AC.drop hl ?_
 refine AC.seq (AC.reg ?_)
 refine RG.alloc .d fun lb hlb => ?_
 have hlbm : lb ≠ mb := fun e => by rw [e, Hp.upd_same] at hlb; cases hlb
 refine RG.nilS (AC.seq (AC.reg ?_))
 refine go1 ?_
 refine RG.alloc .d fun fb hfb => ?_
 have hfl : fb ≠ lb := fun e => by rw [e, Hp.upd_same] at hfb; cases hfb
 rw [Hp.upd_ne hfl] at hfb
 refine RG.sto1 (d := .func (.func 103) [] [.ptr lb 0]) .d rfl Hp.upd_same rfl rfl ?_
 rw [Hp.upd_upd, Hp.upd_comm (Ne.symm hfl)]
 generalize hHc : (Hb.upd mb (some (mpo l))).upd fb (some (.cells [.func (.func 103) [] [.ptr lb 0]] 133)) = Hc
 have hcl : Hc lb = none := by rw [← hHc, Hp.upd_ne (Ne.symm hfl)]; exact hlb
 have hfm : fb ≠ mb := fun e => by rw [e, Hp.upd_same] at hfb; cases hfb
 have hcm : Hc mb = some (mpo l) := by rw [← hHc, Hp.upd_ne (Ne.symm hfm)]; exact Hp.upd_same
 have hcf : Hc fb = some (.cells [.func (.func 103) [] [.ptr lb 0]] 133) := by rw [← hHc]; exact Hp.upd_same
 have hcq : Hc q = some (.cells (elC e) elT) := by
  have : q ≠ fb := fun e => by rw [← e, hfq] at hfb; cases hfb
  rw [← hHc, Hp.upd_ne this]; exact hfq l
 have hct : Hc tb = some (.cells [.mapr mb] 76) := by
  have : tb ≠ fb := fun e => by rw [← e, hft] at hfb; cases hfb
  rw [← hHc, Hp.upd_ne this]; exact hft l
 have hcs : SubH H Hc := by
  have hbm : SubH Hb (Hb.upd mb (some (mpo l))) := SubH.fresh hHbm
  rw [← hHc]
  exact hHs.trans (hbm.trans (SubH.fresh hfb))
 have hL0 : LAY Hc lb [] (Hc.upd lb (some (.cells [.nils] 79))) := ⟨hcl, .nils, GR.nil⟩
 have lk : ∀ {tab : List (List UInt8)} {A : Hp} {k : Nat} {o : DO}, LAY Hc lb tab A → Hc k = some o → A k = some o := by
  rintro tab A k o ⟨a1, v, a2⟩ hk
  have hne : k ≠ lb := fun e => by rw [e, a1] at hk; cases hk
  exact a2.look (by rw [Hp.upd_ne hne]; exact hk)
 refine RG.nilS (AC.seqI (I := fun fr' H' => (∃ tab A, okT1 tab (pre 20 e 1) ∧ LAY Hc lb tab A ∧ SubH A H') ∧ Agrees fr' [(6, .ptr lb 0)]) (AC.seq (AC.reg ?_)) ?_)
 · refine RG.ld .d f1 (lk hL0 hcq) (ldEl e) ?_
   refine RG.call .d rfl (Walk_ok e _) (fun r H1 ⟨b1, b2, k1, k2, k3⟩ => ?_) (fun _ _ h => h.elim)
   subst k1; subst k3
   refine RG.nilS (AC.block ?_)
   generalize hfr : Fr.put _ (some 28) _ = fr2
   have g3 : fr2 3 = .ptr tb 0 := by rw [← hfr]; exact f3
   have g6 : fr2 6 = .ptr lb 0 := by rw [← hfr]; rfl
   have g7 : fr2 7 = .ptr fb 0 := by rw [← hfr]; rfl
   have g28 : fr2 28 = .func (.func 154) [] [.ptr b1 0, .ptr b2 0] := by rw [← hfr]; rfl
   clear hfr
   refine AC.rngJ (x := .t 28) (σ := List (Nat × El)) (step := fun d x => (d ++ [x], true)) g28 (within1J_ok (by decide) hfit) (fun _ => rfl) (fun d _ => d.length < 2000 ∧ True) (fun d A => ∃ tab, okT1 tab d ∧ LAY Hc lb tab A) (fun _ _ _ => False) ?_ [] _ (okDone _ _ (by simpa using hcount) fun _ _ => trivial) ⟨[], ⟨fun s h => (by simp at h), Nat.zero_le _, fun p h => (by simp at h)⟩, hL0⟩ k2 ?_ ?_
   · rintro done ⟨d, x⟩ A lp L hL ⟨hdl, _⟩ ⟨tab, hok, hLA⟩ hA
     refine AC.reg ?_
     refine RG.alloc .d fun x2 hx2 => ?_
     have hxl : x2 ≠ lp := fun e => by rw [e, Hp.upd_same] at hx2; cases hx2
     rw [Hp.upd_ne hxl] at hx2
     refine RG.sto (cs := [.int .i64 0, .str [], .str [], .bool false, .nils]) (ty := elT) (d := .agg (elC x)) (ys := elC x) .d rfl Hp.upd_same rfl rfl (elC_length _) (by exact Nat.le_refl _) ?_
     rw [Hp.upd_upd, spl_el, Hp.upd_comm (Ne.symm hxl)]
     refine RG.nil ⟨rfl, _, by rw [Hp.upd_ne (Ne.symm hxl)]; exact hA, rfl, fun L' hL' => ?_⟩
     refine AC.to [(3, .ptr tb 0), (7, .ptr fb 0), (9, .ptr x2 0)] ⟨g3, g7, rfl, trivial⟩ ?_
     have hfree : freeB [(lp, L'), (x2, .cells (elC x) elT)] A := ⟨by show (A.upd x2 _) lp = none; rw [Hp.upd_ne (Ne.symm hxl)]; exact hA, hL', hx2, notF_cells, trivial⟩
     have hHH : (A.upd x2 (some (.cells (elC x) elT))).upd lp (some L') = addB [(lp, L'), (x2, .cells (elC x) elT)] A := rfl
     rw [hHH]
     generalize hBB : [(lp, L'), (x2, DO.cells (elC x) elT)] = BB at hfree
     have hqB : ∀ A, addB BB A x2 = some (.cells (elC x) elT) := fun A => by rw [← hBB]; show ((A.upd x2 _).upd lp _) x2 = _; rw [Hp.upd_ne hxl]; exact Hp.upd_same
     have lkB : ∀ {tab : List (List UInt8)} {A : Hp} {k : Nat} {o : DO}, LAY Hc lb tab A → freeB BB A → Hc k = some o → addB BB A k = some o := fun h1 h2 h3 => freeB_sub h2 _ _ (lk h1 h3)
     have hend : ∀ {tab : List (List UInt8)} {A : Hp}, LAY Hc lb tab A → freeB BB A → A lp = none ∧ SubH (A.upd lp (some L')) (addB BB A) := fun {tab A} h1 h2 => by
      rw [← hBB] at h2 ⊢
      have h3 : (A.upd x2 (some (.cells (elC x) elT))) lp = none := h2.1
      rw [Hp.upd_ne (Ne.symm hxl)] at h3
      exact ⟨h3, SubH.both (SubH.fresh h2.2.2.1)⟩
     have htl : tab.length ≤ 4000 := by have := hok.2.1; omega
     refine AC.block (AC.seqI (I := fun fr' H' => (∃ A', LAY Hc lb (mayLay (tokF x.page x.name == 0) tab x.name) A' ∧ freeB BB A' ∧ H' = addB BB A') ∧ Agrees fr' [(3, .ptr tb 0), (7, .ptr fb 0), (9, .ptr x2 0)]) (AC.seq (AC.reg ?_)) ?_)
     · refine go1 ?_
       refine RG.ld .d rfl (hqB _) (d := .int .i64 x.page) (by rw [eta_el]; rfl) ?_
       refine go1 ?_
       refine RG.ld .d rfl (hqB _) (d := .str x.name) (by rw [eta_el]; rfl) ?_
       refine RG.callP .d rfl (Token_ok hG x.page x.name) ?_
       refine RG.p (d := .bool (tokF x.page x.name == 0)) .d (by
        show some (DV.bool (((tokF x.page x.name : Nat) : Int) == 0)) = _
        congr 2
        rw [Bool.eq_iff_iff, beq_iff_eq, beq_iff_eq]; omega) ?_
       cases c : tokF x.page x.name == 0
       · refine RG.nilS (AC.cond_f rfl (AC.skip ⟨⟨A, hLA, hfree, rfl⟩, rfl, rfl, rfl, trivial⟩))
       · refine RG.nilS (AC.cond_t rfl (AC.reg ?_))
         refine RG.ld .d rfl (lkB hLA hfree hcf) (d := .func (.func 103) [] [.ptr lb 0]) rfl ?_
         refine go1 ?_
         refine RG.ld .d rfl (hqB _) (d := .str x.name) (by rw [eta_el]; rfl) ?_
         refine RG.calv .d rfl rfl (CALL.frameB hfree (lay_ok hLA (by omega))) (fun r H2 ⟨A2, h2, h3, h4⟩ => ?_) (fun _ _ ⟨_, k, _⟩ => k.elim)
         exact RG.nil ⟨⟨A2, h2, h3, h4⟩, rfl, rfl, rfl, trivial⟩
     rintro fr3 H3 ⟨⟨A3, hLA3, hfree3, rfl⟩, hf3⟩
     refine AC.to _ hf3 (AC.seq (AC.reg ?_))
     have htl3 : (mayLay (tokF x.page x.name == 0) tab x.name).length ≤ 5000 := by
      cases tokF x.page x.name == 0
      · exact Nat.le_trans htl (by decide)
      · have := layF_len (l := tab) (s := x.name)
        show (layF tab x.name).length ≤ _
        omega
     have stop : ∀ (b : Bool) (fr' : Fr), (b = true → x.op = false) → Agrees fr' [(7, .ptr fb 0), (9, .ptr x2 0), (56, .bool b)] →
       AC prog G (some lp) F43.N (.cond (.t 56) (.reg [ji 57 (.ld false 1 (.t 7)), ji 58 (.fadr 2 (.t 9)), ji 59 (.ld false 1 (.t 58)), ji 60 (.calv (.t 57) [(.t 59)])]) .skip)
        (Bk 3 (RndJ lp L' (done ++ [(d, x)], true) (fun d A => ∃ tab, okT1 tab d ∧ LAY Hc lb tab A) (fun _ _ _ => False))) fr' (addB BB A3) := by
      rintro b fr' hb ⟨h7, h9, h56, _⟩
      have hstep := okT1_step (x := (d, x)) hok hb
      cases b
      · refine AC.cond_f h56 (AC.skip ?_)
        obtain ⟨z1, z2⟩ := hend hLA3 hfree3
        exact ⟨A3, rfl, ⟨_, hstep, hLA3⟩, z1, z2⟩
      · refine AC.cond_t h56 (AC.reg ?_)
        refine RG.ld .d h7 (lkB hLA3 hfree3 hcf) (d := .func (.func 103) [] [.ptr lb 0]) rfl ?_
        refine RG.p (d := .ptr x2 2) .d (by show fadrD 2 (fr' 9) = _; rw [h9]; rfl) ?_
        refine RG.ld .d rfl (hqB _) (d := .str x.text) (by rw [eta_el]; rfl) ?_
        refine RG.calv .d rfl rfl (CALL.frameB hfree3 (lay_ok hLA3 (by omega))) (fun r H2 ⟨A2, h2, h3, h4⟩ => ?_) (fun _ _ ⟨_, k, _⟩ => k.elim)
        subst h4
        obtain ⟨z1, z2⟩ := hend h2 h3
        exact RG.nil ⟨A2, rfl, ⟨_, hstep, h2⟩, z1, z2⟩
     refine go1 ?_
     refine RG.ld .d rfl (hqB _) (d := .bool x.op) (by rw [eta_el]; rfl) ?_
     cases hop : x.op
     · refine go1 ?_
       refine go1 ?_
       refine go1 ?_
       refine RG.ld .d rfl (hqB _) (d := .str x.text) (by rw [eta_el]; rfl) ?_
       refine go ?_
       cases c4 : decide (((x.text.length : Nat) : Int) ≥ 4)
       · refine go ?_
         exact RG.nilS (stop false _ (fun h => by cases h) ⟨rfl, rfl, rfl, trivial⟩)
       · refine go ?_
         refine RG.ld .d rfl (lkB hLA3 hfree3 hct) (d := .mapr mb) rfl ?_
         refine go1 ?_
         refine RG.ld .d rfl (hqB _) (d := .str x.text) (by rw [eta_el]; rfl) ?_
         refine RG.s .d (ST.look (P := prog) (kt := 9) (et := 3) (i := Go.Proofs.Tryz.t3) (by kernel_rfl) (by kernel_rfl) (by kernel_rfl) (by kernel_rfl) rfl rfl (lkB hLA3 hfree3 hcm) ?_)
         refine go ?_
         exact RG.nilS (stop _ _ (fun _ => hop) ⟨rfl, rfl, rfl, trivial⟩)
     · refine go ?_
       exact RG.nilS (stop false _ (fun h => by cases h) ⟨rfl, rfl, rfl, trivial⟩)
   · rintro A' _ ⟨tab, h1, h2⟩ hF
     rw [runDone] at h1
     rw [List.nil_append] at h1
     exact ⟨⟨tab, A', h1, h2, freeB_sub hF⟩, g6, trivial⟩
   · rintro A' p hr _ hF
     rw [runDone] at hr; cases hr
 rintro fr4 H4 ⟨⟨tab, A, h1, ⟨h2, v, hv⟩, h4⟩, f6, _⟩
 refine AC.seq (AC.reg ?_)
 refine RG.ld .d f6 (h4 _ _ (hv.look Hp.upd_same)) (d := v) rfl ?_
 refine RG.leSet hv.le ?_
 refine go ?_
 refine RG.nilS (AC.ret (finD (H' := H) rfl ?_ ⟨tab, rfl, h1, rfl⟩))
 exact hcs.trans ((SubH.fresh h2).trans (hv.sub.trans h4))
def F108 : FN := ⟨57, (.seq (.reg [ji 3 (.box 24 (.t 1))])
 (.seq (.draw [ji 7 (.mv (.t 0)), ji 8 (.nilc (.t 7)), ji 9 (.fadr 0 (.t 8)), ji 10 (.ld false 1 (.t 9)), ji 11 (.fadr 2 (.t 3)), ji 12 (.ld false 1 (.t 11)), ji 13 (.oth (.lookup 76 (.tmp 10) (.tmp 12) true)), ji 6 (.mv (.t 13)), ji 14 (.ext (.t 6) 0), ji 15 (.ext (.t 6) 1), ji 4 (.mv (.t 14)), ji 5 (.mv (.t 15))] [[], [0], [1], [2], [], [4], [3, 5], [6], [7], [7], [8, 0, 1, 2, 3, 4, 5, 6, 7, 8], [9, 10, 0, 1, 2, 3, 4, 5, 6, 7, 8, 9, 10]])
 (.block 0 (.seq (.reg [ji 29 (.fadr 2 (.t 3)), ji 30 (.ld false 1 (.t 29)), ji 31 (.bin .eql (.t 30) (.c (.str []))), ji 28 (.mv (.t 31))])
 (.cond (.t 28) .skip
 (.seq (.reg [ji 33 (.fadr 3 (.t 3)), ji 34 (.ld false 1 (.t 33)), ji 32 (.mv (.t 34))])
 (.cond (.t 32) (.seq (.reg [ji 35 (.mv (.t 0)), ji 36 (.bsl 5 1 1 [(.int .u8 0)] [(0, 1, (.c (.int .u8 195)))]), ji 37 (.call 45 [(.t 35), (.t 36)])])
 (.seq (.reg [ji 38 (.mv (.t 0)), ji 39 (.fadr 2 (.t 3)), ji 40 (.ld false 1 (.t 39)), ji 41 (.len true (.t 40)), ji 42 (.call 46 [(.t 38), (.t 41)])])
 (.draw [ji 43 (.mv (.t 0)), ji 44 (.nilc (.t 43)), ji 45 (.fadr 2 (.t 44)), ji 46 (.fadr 2 (.t 3)), ji 47 (.ld false 1 (.t 46)), ji 48 (.call 39 [(.t 45), (.t 47)])] [[], [0], [1], [], [3], [2, 4]])))
 (.seq (.reg [ji 50 (.mv (.t 5)), ji 49 (.mv (.t 50))])
 (.cond (.t 49) (.seq (.reg [ji 51 (.mv (.t 0)), ji 52 (.bsl 5 1 1 [(.int .u8 0)] [(0, 1, (.c (.int .u8 131)))]), ji 53 (.call 45 [(.t 51), (.t 52)])])
 (.reg [ji 54 (.mv (.t 0)), ji 55 (.mv (.t 4)), ji 56 (.call 46 [(.t 54), (.t 55)])]))
 (.seq (.reg [ji 16 (.mv (.t 0)), ji 17 (.bsl 5 1 1 [(.int .u8 0)] [(0, 1, (.c (.int .u8 3)))]), ji 18 (.call 45 [(.t 16), (.t 17)])])
 (.seq (.draw [ji 19 (.mv (.t 0)), ji 20 (.nilc (.t 19)), ji 21 (.fadr 2 (.t 20)), ji 22 (.fadr 2 (.t 3)), ji 23 (.ld false 1 (.t 22)), ji 24 (.call 39 [(.t 21), (.t 23)])] [[], [0], [1], [], [3], [2, 4]])
 (.reg [ji 25 (.mv (.t 0)), ji 26 (.bsl 5 1 1 [(.int .u8 0)] [(0, 1, (.c (.int .u8 0)))]), ji 27 (.call 45 [(.t 25), (.t 26)])])))))))))))), []⟩
theorem cF108 : cFn prog 108 = some F108 := by kernel_rfl
def F47 : FN := ⟨81, (.seq (.reg [ji 3 (.box 24 (.t 1))])
 (.seq (.seq (.draw [ji 8 (.fadr 0 (.t 3)), ji 9 (.ld false 1 (.t 8)), ji 10 (.mv (.t 0)), ji 11 (.nilc (.t 10)), ji 12 (.fadr 1 (.t 11)), ji 13 (.ld false 1 (.t 12)), ji 14 (.bin .neq (.t 9) (.t 13))] [[], [0], [], [2], [3], [4], [1, 5]])
 (.cond (.t 14) (.seq (.reg [ji 15 (.mv (.t 0)), ji 16 (.fadr 0 (.t 3)), ji 17 (.ld false 1 (.t 16)), ji 18 (.conv .u8 (.t 17)), ji 19 (.bsl 5 2 1 [(.int .u8 0), (.int .u8 0)] [(0, 1, (.c (.int .u8 0))), (1, 1, (.t 18))]), ji 20 (.call 45 [(.t 15), (.t 19)])])
 (.reg [ji 21 (.mv (.t 0)), ji 22 (.fadr 0 (.t 3)), ji 23 (.ld false 1 (.t 22)), ji 24 (.nilc (.t 21)), ji 25 (.fadr 1 (.t 24)), jn (.st 1 (.t 25) (.t 23))]))
 .skip))
 (.seq (.reg [ji 4 (.mv (.c (.int .u8 0)))])
 (.seq (.seq (.reg [ji 26 (.fadr 2 (.t 3)), ji 27 (.ld false 1 (.t 26)), ji 28 (.bin .neq (.t 27) (.c (.str []))), ji 29 (.mv (.t 28)), jg 30 29 false (.fadr 4 (.t 3)), jg 31 29 false (.ld false 1 (.t 30)), jg 32 29 false (.len false (.t 31)), jg 33 29 false (.bin .gtr (.t 32) (ci 0)), ji 34 (.pick (.t 29) (.c (.bool true)) (.t 33))])
 (.cond (.t 34) (.reg [ji 4 (.mv (.c (.int .u8 64)))])
 .skip))
 (.seq (.seq (.reg [ji 35 (.fadr 0 (.t 3)), ji 36 (.ld false 1 (.t 35)), ji 37 (.fadr 1 (.t 3)), ji 38 (.ld false 1 (.t 37)), ji 39 (.call 105 [(.t 36), (.t 38)]), ji 5 (.mv (.t 39))])
 (.seq (.reg [ji 40 (.mv (.t 5)), ji 41 (.bin .neq (.t 40) (.c (.int .u8 0)))])
 (.cond (.t 41) (.reg [ji 42 (.mv (.t 0)), ji 43 (.mv (.t 5)), ji 44 (.mv (.t 4)), ji 45 (.bin .or (.t 43) (.t 44)), ji 46 (.bsl 5 1 1 [(.int .u8 0)] [(0, 1, (.t 45))]), ji 47 (.call 45 [(.t 42), (.t 46)])])
 (.seq (.reg [ji 48 (.mv (.t 0)), ji 49 (.mv (.t 4)), ji 50 (.bin .or (.c (.int .u8 4)) (.t 49)), ji 51 (.bsl 5 1 1 [(.int .u8 0)] [(0, 1, (.t 50))]), ji 52 (.call 45 [(.t 48), (.t 51)])])
 (.draw [ji 53 (.mv (.t 0)), ji 54 (.mv (.t 0)), ji 55 (.nilc (.t 54)), ji 56 (.fadr 0 (.t 55)), ji 57 (.ld false 1 (.t 56)), ji 58 (.fadr 1 (.t 3)), ji 59 (.ld false 1 (.t 58)), ji 60 (.oth (.lookup 76 (.tmp 57) (.tmp 59) false)), ji 61 (.call 46 [(.t 53), (.t 60)])] [[], [], [1], [2], [3], [], [5], [4, 6], [0, 7]])))))
 (.seq (.seq (.reg [ji 62 (.mv (.t 4)), ji 63 (.bin .eql (.t 62) (.c (.int .u8 0)))])
 (.cond (.t 63) .ret
 .skip))
 (.seq (.reg [ji 64 (.mv (.t 0)), ji 65 (.ld true 5 (.t 3)), ji 66 (.call 108 [(.t 64), (.t 65)])])
 (.seq (.seq (.reg [ji 67 (.fadr 4 (.t 3)), ji 68 (.ld false 1 (.t 67)), ji 69 (.len false (.t 68)), ji 70 (.mv (ci 0))])
 (.block 0 (.loop (.seq (.reg [ji 71 (.bin .lss (.t 70) (.t 69))])
 (.seq (.cond (.t 71) .skip
 (.exit 0))
 (.seq (.block 1 (.seq (.reg [ji 72 (.iadr 5 (.t 68) (.t 70)), ji 73 (.ld true 5 (.t 72)), ji 7 (.alloc [(.int .i64 0), (.str []), (.str []), (.bool false), .nils] 24), jn (.st 5 (.t 7) (.t 73))])
 (.reg [ji 74 (.mv (.t 0)), ji 75 (.ld true 5 (.t 7)), ji 76 (.call 47 [(.t 74), (.t 75)])])))
 (.reg [ji 77 (.bin .add (.t 70) (ci 1)), ji 70 (.mv (.t 77))])))))))
 (.reg [ji 78 (.mv (.t 0)), ji 79 (.bsl 5 1 1 [(.int .u8 0)] [(0, 1, (.c (.int .u8 1)))]), ji 80 (.call 45 [(.t 78), (.t 79)])]))))))))), []⟩
theorem cF47 : cFn prog 47 = some F47 := by kernel_rfl
variable {G : Gl} {m p : DV}
theorem WB.put {H0 H : Hp} {b q : Nat} {u : Bool} {bs : List UInt8} {o : Option DO} (h : WB H0 b m p u bs H) (hq : H q = none) : WB (H0.upd q o) b m p u bs (H.upd q o) := by
 cases h with
 | mt h =>
   have hqb : q ≠ b := fun e => by rw [e, Hp.upd_same] at hq; cases hq
   rw [Hp.upd_comm (Ne.symm hqb)]
   exact .mt u (by rw [Hp.upd_ne (Ne.symm hqb)]; exact h)
 | on g bs h1 h2 h3 h4 =>
   have hqg : q ≠ g := fun e => by rw [e, Hp.upd_same] at hq; cases hq
   rw [Hp.upd_ne hqg] at hq
   have hqb : q ≠ b := fun e => by rw [e, Hp.upd_same] at hq; cases hq
   rw [Hp.upd_comm (Ne.symm hqg), Hp.upd_comm (Ne.symm hqb)]
   exact .on u g bs (by rw [Hp.upd_ne (Ne.symm hqb)]; exact h1) (by rw [Hp.upd_ne (Ne.symm hqg)]; exact h2) h3 h4
theorem WB.take {H0 H : Hp} {b q : Nat} {u : Bool} {bs : List UInt8} {o : DO} (h : WB (H0.upd q (some o)) b m p u bs H) (hq : H0 q = none) : ∃ H', WB H0 b m p u bs H' ∧ SubH H' H := by
 cases h with
 | mt h =>
   have hbq : b ≠ q := fun e => by rw [e, Hp.upd_same] at h; cases h
   rw [Hp.upd_ne hbq] at h
   refine ⟨_, .mt u h, ?_⟩
   rw [Hp.upd_comm (Ne.symm hbq)]
   exact SubH.fresh (by rw [Hp.upd_ne (Ne.symm hbq)]; exact hq)
 | on g bs h1 h2 h3 h4 =>
   have hbq : b ≠ q := fun e => by rw [e, Hp.upd_same] at h1; cases h1
   have hgq : g ≠ q := fun e => by rw [e, Hp.upd_same] at h2; cases h2
   rw [Hp.upd_ne hbq] at h1
   rw [Hp.upd_ne hgq] at h2
   refine ⟨_, .on u g bs h1 h2 h3 h4, ?_⟩
   rw [Hp.upd_comm (Ne.symm hbq), Hp.upd_comm (Ne.symm hgq)]
   exact SubH.fresh (by rw [Hp.upd_ne (Ne.symm hgq), Hp.upd_ne (Ne.symm hbq)]; exact hq)
theorem WB.look {H0 H : Hp} {b q : Nat} {u : Bool} {bs : List UInt8} (h : WB H0 b m p u bs H) {o : DO} (hq : H0 q = some o) : H q = some o := h.sub q o hq
theorem WB.base {H0 H : Hp} {b q : Nat} {u : Bool} {bs : List UInt8} (h : WB H0 b m p u bs H) (hq : H q = none) : H0 q = none := by
 cases e : H0 q with
 | none => rfl
 | some o => rw [h.sub q o e] at hq; cases hq
theorem WB.page {H0 H : Hp} {b : Nat} {u : Bool} {bs : List UInt8} (p' : DV) (h : WB H0 b m p u bs H) : ∃ buf, H b = some (.cells [m, p, wAddr u b, buf] 78) ∧ WB H0 b m p' u bs (H.upd b (some (.cells [m, p', wAddr u b, buf] 78))) := by
 cases h with
 | mt h => exact ⟨_, Hp.upd_same, by rw [Hp.upd_upd]; exact .mt u h⟩
 | on g bs h1 h2 h3 h4 =>
   refine ⟨_, by rw [Hp.upd_ne (Ne.symm h3)]; exact Hp.upd_same, ?_⟩
   rw [Hp.upd_comm h3, Hp.upd_upd]
   exact .on u g bs h1 h2 h3 h4
abbrev IX := List (List UInt8 × Int)
def ixOk (ix : IX) : Prop := ∀ s a, mget ix s = some a → ∃ n : Nat, a = n ∧ n < 4294967296
def ixN (ix : IX) (s : List UInt8) : Nat := ((mget ix s).getD 0).toNat
theorem ixN_eq {ix : IX} (h : ixOk ix) (s : List UInt8) : (mget ix s).getD 0 = (ixN ix s : Nat) ∧ ixN ix s < 4294967296 := by
 unfold ixN
 cases e : mget ix s with
 | none => exact ⟨rfl, by decide⟩
 | some a =>
   obtain ⟨n, rfl, h2⟩ := h s a e
   exact ⟨rfl, h2⟩
def textW (ix : IX) (t : List UInt8) (o : Bool) : List UInt8 :=
 bif t == [] then [] else bif o then 195 :: (mbF t.length ++ t) else bif (mget ix t).isSome then 131 :: mbF (ixN ix t) else 3 :: (t ++ [0])
theorem textW_len (ix : IX) (t : List UInt8) (o : Bool) : (textW ix t o).length ≤ t.length + 7 := by
 have h1 := mbF_len t.length
 have h2 := mbF_len (ixN ix t)
 unfold textW
 cases t == [] <;> cases o <;> cases (mget ix t).isSome <;> simp <;> omega
theorem lookE {N : Nat} {r : Option Nat} {fr : Fr} {H : Hp} {t u mb : Nat} {ok : Bool} {s : List UInt8} {ix : IX} {dst : Option Nat} (hm : H mb = some (mpo ix)) (ht : fr t = .mapr mb) (hu : fr u = .str s) :
  EF prog G r N ⟨dst, none, .oth (.lookup 76 (.tmp t) (.tmp u) ok)⟩ (fun d H' => d = (if ok then .tup [.int .i64 ((mget ix s).getD 0), .bool (mget ix s).isSome] else .int .i64 ((mget ix s).getD 0)) ∧ H' = H) (fun _ _ => False) fr H :=
 fun fr1 l Q hs k _ => RG.st (ST.look (P := prog) (kt := 9) (et := 3) (i := Go.Proofs.Tryz.t3) (by kernel_rfl) (by kernel_rfl) (by kernel_rfl) (by kernel_rfl) ((hs t (by simp [slotsI, opX, slotX, Op.operands, cX])).trans ht) ((hs u (by simp [slotsI, opX, slotX, Op.operands, cX])).trans hu) hm (k _ _ ⟨rfl, rfl⟩))
theorem wtext_ok {H0 H : Hp} {b mb : Nat} {bs : List UInt8} {ix : IX} (e : El) (h : WB H0 b (.mapr mb) p true bs H) (hm : H0 mb = some (mpo ix)) (hix : ixOk ix) (hl : e.text.length ≤ 100000) (hlen : bs.length + 200000 ≤ 140737488355328) :
  CALL prog G 108 [.ptr b 0, .agg (elC e)] H (fun _ H' => WB H0 b (.mapr mb) p true (bs ++ textW ix e.text e.op) H') (fun _ _ => False) := by
 refine CALL.of cF108 (Nat.le_of_ble_eq_true rfl) ?_
 refine AC.seq (AC.reg ?_)
 refine RG.box (d := .agg (elC e)) (ys := elC e) .d rfl rfl fun q hq => ?_
 have h1 := h.put (o := some (.cells (elC e) 24)) hq
 have hq0 := h.base hq
 have hq1 : (H0.upd q (some (.cells (elC e) 24))) q = some (.cells (elC e) 24) := Hp.upd_same
 have hmq : mb ≠ q := fun e => by rw [e, hq0] at hm; cases hm
 have hm1 : (H0.upd q (some (.cells (elC e) 24))) mb = some (mpo ix) := by rw [Hp.upd_ne hmq]; exact hm
 show RG _ _ _ _ _ _ _ (H.upd q (some (.cells (elC e) 24)))
 generalize H.upd q (some (.cells (elC e) 24)) = H1 at h1 ⊢
 have fin' : ∀ {H' : Hp}, WB (H0.upd q (some (.cells (elC e) 24))) b (.mapr mb) p true (bs ++ textW ix e.text e.op) H' → ∃ l d H2, evRes H' (fun _ => .junk) F108.rs = some l ∧ Cv H' H2 (tupD l) d ∧ WB H0 b (.mapr mb) p true (bs ++ textW ix e.text e.op) H2 := by
  intro H' hw
  obtain ⟨H2, k1, k2⟩ := hw.take hq0
  exact finD rfl k2 k1
 obtain ⟨buf, hbb, _⟩ := h1.page p
 refine RG.nilS (AC.seq (AC.drawP [6] rfl ?_))
 first|refine VP.z0 0 ?_|refine VP.z1 0 ?_|refine VP.z2 0 ?_|refine VP.z3 0 ?_|refine VP.z4 0 ?_|refine VP.z5 0 ?_|refine VP.z6 0 ?_|refine VP.z7 0 ?_|refine VP.z8 0 ?_
 first|refine VP.z0 1 ?_|refine VP.z1 1 ?_|refine VP.z2 1 ?_|refine VP.z3 1 ?_|refine VP.z4 1 ?_|refine VP.z5 1 ?_|refine VP.z6 1 ?_|refine VP.z7 1 ?_|refine VP.z8 1 ?_
 first|refine VP.z0 2 ?_|refine VP.z1 2 ?_|refine VP.z2 2 ?_|refine VP.z3 2 ?_|refine VP.z4 2 ?_|refine VP.z5 2 ?_|refine VP.z6 2 ?_|refine VP.z7 2 ?_|refine VP.z8 2 ?_
 refine VP.v (d := .mapr mb) 3 rfl (evP_ld rfl hbb rfl) ?_
 first|refine VP.z0 4 ?_|refine VP.z1 4 ?_|refine VP.z2 4 ?_|refine VP.z3 4 ?_|refine VP.z4 4 ?_|refine VP.z5 4 ?_|refine VP.z6 4 ?_|refine VP.z7 4 ?_|refine VP.z8 4 ?_
 refine VP.v (d := .str e.text) 5 rfl (evP_ld rfl (h1.look hq1) (by rw [eta_el]; rfl)) ?_
 refine VP.pe 6 rfl rfl (lookE (h1.look hm1) rfl rfl) (fun _ _ _ h => h.elim) (fun d H2 ⟨e1, e2⟩ => ⟨(by (repeat (refine stabP_cons rfl (by first | exact StabP.of (QV.evP trivial rfl) rfl | exact StabP.of (QV.bsl trivial rfl) rfl | exact StabP.of (QV.evP trivial (evP_ld rfl hbb rfl)) rfl | exact StabP.of (QV.evP trivial (evP_ld rfl (h1.look hq1) (by rw [eta_el]; rfl))) rfl) ?_)); exact stabP_nil), ?_⟩)
 subst e1; subst e2
 first|refine VP.z0 7 ?_|refine VP.z1 7 ?_|refine VP.z2 7 ?_|refine VP.z3 7 ?_|refine VP.z4 7 ?_|refine VP.z5 7 ?_|refine VP.z6 7 ?_|refine VP.z7 7 ?_|refine VP.z8 7 ?_
 first|refine VP.z0 8 ?_|refine VP.z1 8 ?_|refine VP.z2 8 ?_|refine VP.z3 8 ?_|refine VP.z4 8 ?_|refine VP.z5 8 ?_|refine VP.z6 8 ?_|refine VP.z7 8 ?_|refine VP.z8 8 ?_
 first|refine VP.z0 9 ?_|refine VP.z1 9 ?_|refine VP.z2 9 ?_|refine VP.z3 9 ?_|refine VP.z4 9 ?_|refine VP.z5 9 ?_|refine VP.z6 9 ?_|refine VP.z7 9 ?_|refine VP.z8 9 ?_
 first|refine VP.z0 10 ?_|refine VP.z1 10 ?_|refine VP.z2 10 ?_|refine VP.z3 10 ?_|refine VP.z4 10 ?_|refine VP.z5 10 ?_|refine VP.z6 10 ?_|refine VP.z7 10 ?_|refine VP.z8 10 ?_
 first|refine VP.z0 11 ?_|refine VP.z1 11 ?_|refine VP.z2 11 ?_|refine VP.z3 11 ?_|refine VP.z4 11 ?_|refine VP.z5 11 ?_|refine VP.z6 11 ?_|refine VP.z7 11 ?_|refine VP.z8 11 ?_
 refine VP.pd ?_
 refine AC.to [(0, .ptr b 0), (3, .ptr q 0), (4, .int .i64 ((mget ix e.text).getD 0)), (5, .bool (mget ix e.text).isSome)] ⟨rfl, rfl, rfl, rfl, trivial⟩ ?_
 obtain ⟨hi1, hi2⟩ := ixN_eq hix e.text
 rw [hi1]
 refine AC.block (AC.seq (AC.reg ?_))
 refine go1 ?_
 refine RG.ld .d rfl (h1.look hq1) (d := .str e.text) (by rw [eta_el]; rfl) ?_
 refine RG.p (d := .bool (e.text == [])) .d rfl ?_
 refine go ?_
 have hT : textW ix e.text e.op = textW ix e.text e.op := rfl
 conv at hT => rhs; unfold textW
 cases c0 : e.text == []
 case true =>
  rw [c0, cond_true] at hT
  refine RG.nilS (AC.cond_t rfl (AC.skip ?_))
  exact fin' (by rw [hT, List.append_nil]; exact h1)
 rw [c0, cond_false] at hT
 refine RG.nilS (AC.cond_f rfl (AC.seq (AC.reg ?_)))
 refine go1 ?_
 refine RG.ld .d rfl (h1.look hq1) (d := .bool e.op) (by rw [eta_el]; rfl) ?_
 refine go ?_
 cases c1 : e.op
 case true =>
  rw [c1, cond_true] at hT
  simp only [c1] at fin'
  refine RG.nilS (AC.cond_t rfl (AC.seq (AC.reg ?_)))
  refine go1 ?_
  refine RG.zD ?_
  refine RG.call .d rfl (bytes_ok (s := [195]) h1 (by simp; omega)) (fun d H2 h2 => ?_) (fun _ _ h => h.elim)
  refine RG.nilS (AC.seq (AC.reg ?_))
  refine go1 ?_
  refine go1 ?_
  refine RG.ld .d rfl (h2.look hq1) (d := .str e.text) (by rw [eta_el]; rfl) ?_
  refine go1 ?_
  refine RG.call .d rfl (number_ok (n := e.text.length) h2 (by omega) (by simp; omega)) (fun d H3 h3 => ?_) (fun _ _ h => h.elim)
  refine RG.nilS (AC.drawP [5] rfl ?_)
  first|refine VP.z0 0 ?_|refine VP.z1 0 ?_|refine VP.z2 0 ?_|refine VP.z3 0 ?_|refine VP.z4 0 ?_|refine VP.z5 0 ?_|refine VP.z6 0 ?_|refine VP.z7 0 ?_|refine VP.z8 0 ?_
  first|refine VP.z0 1 ?_|refine VP.z1 1 ?_|refine VP.z2 1 ?_|refine VP.z3 1 ?_|refine VP.z4 1 ?_|refine VP.z5 1 ?_|refine VP.z6 1 ?_|refine VP.z7 1 ?_|refine VP.z8 1 ?_
  first|refine VP.z0 2 ?_|refine VP.z1 2 ?_|refine VP.z2 2 ?_|refine VP.z3 2 ?_|refine VP.z4 2 ?_|refine VP.z5 2 ?_|refine VP.z6 2 ?_|refine VP.z7 2 ?_|refine VP.z8 2 ?_
  first|refine VP.z0 3 ?_|refine VP.z1 3 ?_|refine VP.z2 3 ?_|refine VP.z3 3 ?_|refine VP.z4 3 ?_|refine VP.z5 3 ?_|refine VP.z6 3 ?_|refine VP.z7 3 ?_|refine VP.z8 3 ?_
  refine VP.v (d := .str e.text) 4 rfl (evP_ld rfl (h3.look hq1) (by rw [eta_el]; rfl)) ?_
  have := mbF_len e.text.length
  refine VP.pe 5 rfl rfl (EF.callg trivial rfl (WWriteString_ok (s := e.text) h3 (by simp; omega))) (fun _ _ _ h => h.elim) (fun d H4 ⟨_, h4⟩ => ⟨?_, ?_⟩)
  · exact (by (repeat (refine stabP_cons rfl (by first | exact StabP.of (QV.evP trivial rfl) rfl | exact StabP.of (QV.bsl trivial rfl) rfl | exact StabP.of (QV.evP trivial (evP_ld rfl (h4.look hq1) (by rw [eta_el]; rfl))) rfl) ?_)); exact stabP_nil)
  refine VP.pd (fin' ?_)
  rw [hT]
  simpa [List.append_assoc] using h4
 rw [c1, cond_false] at hT
 simp only [c1] at fin'
 refine RG.nilS (AC.cond_f rfl (AC.seq (AC.reg ?_)))
 refine go ?_
 cases c2 : (mget ix e.text).isSome
 · rw [c2, cond_false] at hT
   refine RG.nilS (AC.cond_f rfl (AC.seq (AC.reg ?_)))
   refine go1 ?_
   refine RG.zD ?_
   refine RG.call .d rfl (bytes_ok (s := [3]) h1 (by simp; omega)) (fun d H2 h2 => ?_) (fun _ _ h => h.elim)
   refine RG.nilS (AC.seq (AC.drawP [5] rfl ?_))
   first|refine VP.z0 0 ?_|refine VP.z1 0 ?_|refine VP.z2 0 ?_|refine VP.z3 0 ?_|refine VP.z4 0 ?_|refine VP.z5 0 ?_|refine VP.z6 0 ?_|refine VP.z7 0 ?_|refine VP.z8 0 ?_
   first|refine VP.z0 1 ?_|refine VP.z1 1 ?_|refine VP.z2 1 ?_|refine VP.z3 1 ?_|refine VP.z4 1 ?_|refine VP.z5 1 ?_|refine VP.z6 1 ?_|refine VP.z7 1 ?_|refine VP.z8 1 ?_
   first|refine VP.z0 2 ?_|refine VP.z1 2 ?_|refine VP.z2 2 ?_|refine VP.z3 2 ?_|refine VP.z4 2 ?_|refine VP.z5 2 ?_|refine VP.z6 2 ?_|refine VP.z7 2 ?_|refine VP.z8 2 ?_
   first|refine VP.z0 3 ?_|refine VP.z1 3 ?_|refine VP.z2 3 ?_|refine VP.z3 3 ?_|refine VP.z4 3 ?_|refine VP.z5 3 ?_|refine VP.z6 3 ?_|refine VP.z7 3 ?_|refine VP.z8 3 ?_
   refine VP.v (d := .str e.text) 4 rfl (evP_ld rfl (h2.look hq1) (by rw [eta_el]; rfl)) ?_
   refine VP.pe 5 rfl rfl (EF.callg trivial rfl (WWriteString_ok (s := e.text) h2 (by simp; omega))) (fun _ _ _ h => h.elim) (fun d H4 ⟨_, h4⟩ => ⟨?_, ?_⟩)
   · exact (by (repeat (refine stabP_cons rfl (by first | exact StabP.of (QV.evP trivial rfl) rfl | exact StabP.of (QV.bsl trivial rfl) rfl | exact StabP.of (QV.evP trivial (evP_ld rfl (h4.look hq1) (by rw [eta_el]; rfl))) rfl) ?_)); exact stabP_nil)
   refine VP.pd (AC.reg ?_)
   refine go1 ?_
   refine RG.zD ?_
   refine RG.call .d rfl (bytes_ok (s := [0]) h4 (by simp; omega)) (fun d H5 h5 => ?_) (fun _ _ h => h.elim)
   refine RG.nil (fin' ?_)
   rw [hT]
   simpa [List.append_assoc] using h5
 · rw [c2, cond_true] at hT
   refine RG.nilS (AC.cond_t rfl (AC.seq (AC.reg ?_)))
   refine go1 ?_
   refine RG.zD ?_
   refine RG.call .d rfl (bytes_ok (s := [131]) h1 (by simp; omega)) (fun d H2 h2 => ?_) (fun _ _ h => h.elim)
   refine RG.nilS (AC.reg ?_)
   refine go ?_
   refine RG.call .d rfl (number_ok (n := ixN ix e.text) h2 hi2 (by simp; omega)) (fun d H3 h3 => ?_) (fun _ _ h => h.elim)
   refine RG.nil (fin' ?_)
   rw [hT]
   simpa [List.append_assoc] using h3
mutual
def lastP : El → Int
 | .mk p _ _ _ ks => lastsP p ks
def lastsP : Int → List El → Int
 | p, [] => p
 | _, k :: ks => lastsP (lastP k) ks
end
def conB (t : List UInt8) (ks : List El) : Nat := bif !(t == []) || decide (((ks.length : Nat) : Int) > 0) then 64 else 0
def turnW (pg p : Int) : List UInt8 := bif p == pg then [] else [0, UInt8.ofNat p.toNat]
def nameW (ix : IX) (p : Int) (n : List UInt8) (c : Nat) : List UInt8 := bif tokF p n == 0 then UInt8.ofNat (4 + c) :: mbF (ixN ix n) else [UInt8.ofNat (tokF p n + c)]
mutual
def tokW (ix : IX) (pg : Int) : El → List UInt8
 | .mk p n t o ks => turnW pg p ++ nameW ix p n (conB t ks) ++ bif conB t ks == 0 then [] else textW ix t o ++ toksW ix p ks ++ [1]
def toksW (ix : IX) : Int → List El → List UInt8
 | _, [] => []
 | pg, k :: ks => tokW ix pg k ++ toksW ix (lastP k) ks
end
theorem toksW_append (ix : IX) : ∀ (a b : List El) (pg : Int), toksW ix pg (a ++ b) = toksW ix pg a ++ toksW ix (lastsP pg a) b
 | [], b, pg => by simp only [lastsP, toksW, List.nil_append]
 | k :: a, b, pg => by rw [List.cons_append, toksW, toksW, toksW_append ix a b, lastsP, List.append_assoc]
theorem lastsP_append : ∀ (a b : List El) (pg : Int), lastsP pg (a ++ b) = lastsP (lastsP pg a) b
 | [], b, pg => by simp only [lastsP, List.nil_append]
 | k :: a, b, pg => by rw [List.cons_append, lastsP, lastsP, lastsP_append a b]
theorem tok_lt (p : Int) (n : List UInt8) : tokF p n < 64 := by
 have h : ∀ (ws : List (List UInt8)) (t : Nat), ∀ a ∈ eachF t ws, t ≤ a.1 ∧ a.1 < t + ws.length := by
  intro ws
  induction ws with
  | nil => intro t a ha; simp [eachF] at ha
  | cons w ws ih =>
    intro t a ha
    rw [eachF] at ha
    rw [List.length_cons]
    cases c : w == [45]
    · rw [c, cond_false] at ha
      rcases List.mem_cons.1 ha with rfl | ha
      · exact ⟨Nat.le_refl _, by dsimp only; omega⟩
      · have := ih (t + 1) a ha; omega
    · rw [c, cond_true] at ha
      have := ih (t + 1) a ha; omega
 unfold tokF
 cases e : (vocF p).find? (fun a => a.2 == n) with
 | none => show 0 < 64; decide
 | some a =>
   have h1 := h _ _ a (List.mem_of_find?_eq_some e)
   have h2 := (names_len p).2
   show a.1 < 64
   omega
theorem orC64 (a : Nat) (h : a < 64) : a ||| 64 = a + 64 := by
 have := Nat.two_pow_add_eq_or_of_lt (i := 6) h 1
 rw [Nat.or_comm, ← this]; omega
theorem elemW_ok (hG : GOS G) {b mb : Nat} {ix : IX} (hix : ixOk ix) : ∀ (d : Nat) (e : El) (pg : Int) (bs : List UInt8) (H0 H : Hp), okE e → dp e ≤ d → WB H0 b (.mapr mb) (.int .i64 pg) true bs H → H0 mb = some (mpo ix) → bs.length + (tokW ix pg e).length ≤ 140737488000000 →
  CALL prog G 47 [.ptr b 0, .agg (elC e)] H (fun _ H' => WB H0 b (.mapr mb) (.int .i64 (lastP e)) true (bs ++ tokW ix pg e) H') (fun _ _ => False) := by
 intro d
 induction d with
 | zero => intro e _ _ _ _ _ hd; obtain ⟨p, n, t, o, ks⟩ := e; simp only [dp] at hd; omega
 | succ d ih =>
   intro e pg bs H0 H hok hd h hm hlen
   obtain ⟨p, n, t, o, ks⟩ := e
   obtain ⟨hc1, hcs⟩ := hok
   obtain ⟨hp, hn, hkl, hkt, htl, _, _⟩ := check1_ok hc1
   simp only [dp] at hd
   rw [tokW] at hlen
   simp only [List.length_append] at hlen
   have he : elC (.mk p n t o ks) = [.int .i64 p, .str n, .str t, .bool o, .lst (elsC ks) ks.length 5 none] := by rw [elC]
   refine CALL.of cF47 (Nat.le_of_ble_eq_true rfl) ?_
   refine AC.seq (AC.reg ?_)
   refine RG.box (d := .agg (elC (.mk p n t o ks))) (ys := elC (.mk p n t o ks)) .d rfl rfl fun q hq => ?_
   have h1 := h.put (o := some (.cells (elC (.mk p n t o ks)) 24)) hq
   have hq0 := h.base hq
   have hmq : mb ≠ q := fun e => by rw [e, hq0] at hm; cases hm
   show RG _ _ _ _ _ _ _ (H.upd q (some (.cells (elC (.mk p n t o ks)) 24)))
   generalize hH1 : H.upd q (some (.cells (elC (.mk p n t o ks)) 24)) = H1 at h1 ⊢
   generalize hH01 : H0.upd q (some (.cells (elC (.mk p n t o ks)) 24)) = H01 at h1
   have hq1 : H01 q = some (.cells [.int .i64 p, .str n, .str t, .bool o, .lst (elsC ks) ks.length 5 none] 24) := by rw [← hH01, ← he]; exact Hp.upd_same
   have hm1 : H01 mb = some (mpo ix) := by rw [← hH01, Hp.upd_ne hmq]; exact hm
   have fin' : ∀ {H' : Hp} {x : List UInt8}, WB H01 b (.mapr mb) (.int .i64 (lastP (.mk p n t o ks))) true x H' → x = bs ++ tokW ix pg (.mk p n t o ks) → ∃ l d H2, evRes H' (fun _ => .junk) F47.rs = some l ∧ Cv H' H2 (tupD l) d ∧ WB H0 b (.mapr mb) (.int .i64 (lastP (.mk p n t o ks))) true (bs ++ tokW ix pg (.mk p n t o ks)) H2 := by
    rintro H' x hw rfl
    rw [← hH01] at hw
    obtain ⟨H2, k1, k2⟩ := hw.take hq0
    exact finD rfl k2 k1
   -- the page
   refine RG.nilS (AC.seqI (I := fun fr' H' => WB H01 b (.mapr mb) (.int .i64 p) true (bs ++ turnW pg p) H' ∧ Agrees fr' [(0, .ptr b 0), (3, .ptr q 0)]) (AC.seq ?_) ?_)
   · obtain ⟨buf, hbb, _⟩ := h1.page (.int .i64 pg)
     refine AC.drawP [] rfl ?_
     first|refine VP.z0 0 ?_|refine VP.z1 0 ?_|refine VP.z2 0 ?_|refine VP.z3 0 ?_|refine VP.z4 0 ?_|refine VP.z5 0 ?_|refine VP.z6 0 ?_|refine VP.z7 0 ?_|refine VP.z8 0 ?_
     refine VP.v (d := .int .i64 p) 1 rfl (evP_ld rfl (h1.look hq1) rfl) ?_
     first|refine VP.z0 2 ?_|refine VP.z1 2 ?_|refine VP.z2 2 ?_|refine VP.z3 2 ?_|refine VP.z4 2 ?_|refine VP.z5 2 ?_|refine VP.z6 2 ?_|refine VP.z7 2 ?_|refine VP.z8 2 ?_
     first|refine VP.z0 3 ?_|refine VP.z1 3 ?_|refine VP.z2 3 ?_|refine VP.z3 3 ?_|refine VP.z4 3 ?_|refine VP.z5 3 ?_|refine VP.z6 3 ?_|refine VP.z7 3 ?_|refine VP.z8 3 ?_
     first|refine VP.z0 4 ?_|refine VP.z1 4 ?_|refine VP.z2 4 ?_|refine VP.z3 4 ?_|refine VP.z4 4 ?_|refine VP.z5 4 ?_|refine VP.z6 4 ?_|refine VP.z7 4 ?_|refine VP.z8 4 ?_
     refine VP.v (d := .int .i64 pg) 5 rfl (evP_ld rfl hbb rfl) ?_
     refine VP.v (d := .bool (!(p == pg))) 6 rfl rfl ?_
     refine VP.pd ?_
     have hT : turnW pg p = bif p == pg then [] else [0, UInt8.ofNat p.toNat] := rfl
     cases c : p == pg
     · rw [c, cond_false] at hT
       refine AC.cond_t rfl (AC.seq (AC.reg ?_))
       refine go1 ?_
       refine go1 ?_
       refine RG.ld .d rfl (h1.look hq1) (d := .int .i64 p) rfl ?_
       refine RG.p (d := B8 (UInt8.ofNat p.toNat)) .d (by
        show some (DV.int .u8 (IntKind.u8.wrap p)) = _
        rw [IntWalk.u8_in _ (by omega), ← B8_of _ (by omega)]
        congr 2; omega) ?_
       refine RG.zD ?_
       refine RG.call .d rfl (bytes_ok (s := [0, UInt8.ofNat p.toNat]) h1 (by simp; omega)) (fun d H2 h2 => ?_) (fun _ _ h => h.elim)
       obtain ⟨buf2, hb2, h3⟩ := h2.page (.int .i64 p)
       refine RG.nilS (AC.reg ?_)
       refine go1 ?_
       refine go1 ?_
       refine RG.ld .d rfl (h2.look hq1) (d := .int .i64 p) rfl ?_
       refine go1 ?_
       refine go1 ?_
       refine RG.sto (d := .int .i64 p) .d rfl hb2 rfl rfl rfl (by exact Nat.le_of_ble_eq_true rfl) ?_
       refine RG.nil ⟨?_, rfl, rfl, trivial⟩
       rw [hT]; exact h3
     · rw [c, cond_true] at hT
       refine AC.cond_f rfl (AC.skip ⟨?_, rfl, rfl, trivial⟩)
       rw [hT, List.append_nil, show p = pg from eq_of_beq c]; exact h1
   rintro fr2 H2 ⟨h2, hf2⟩
   refine AC.to _ hf2 (AC.seq (AC.reg ?_))
   refine go1 ?_
   -- does anything stand within?
   refine RG.nilS (AC.seqI (I := fun fr' H' => H' = H2 ∧ Agrees fr' [(0, .ptr b 0), (3, .ptr q 0), (4, .int .u8 (conB t ks : Nat))]) (AC.seq (AC.reg ?_)) ?_)
   · have ends : ∀ (x : Bool) (fr' : Fr), conB t ks = (bif x then 64 else 0) → Agrees fr' [(0, .ptr b 0), (3, .ptr q 0), (4, .int .u8 0), (34, .bool x)] →
       AC prog G none F47.N (.cond (.t 34) (.reg [ji 4 (.mv (.c (.int .u8 64)))]) .skip) (Nx (fun fr' H' => H' = H2 ∧ Agrees fr' [(0, .ptr b 0), (3, .ptr q 0), (4, .int .u8 (conB t ks : Nat))]) (Fin F47.rs (fun _ H' => WB H0 b (.mapr mb) (.int .i64 (lastP (.mk p n t o ks))) true (bs ++ tokW ix pg (.mk p n t o ks)) H') (fun _ _ => False))) fr' H2 := by
      rintro x fr' hx ⟨a1, a2, a3, a4, _⟩
      rw [hx]
      cases x
      · exact AC.cond_f a4 (AC.skip ⟨rfl, a1, a2, a3, trivial⟩)
      · refine AC.cond_t a4 (AC.reg ?_)
        refine go1 ?_
        exact RG.nil ⟨rfl, a1, a2, rfl, trivial⟩
     refine go1 ?_
     refine RG.ld .d rfl (h2.look hq1) (d := .str t) rfl ?_
     refine RG.p (d := .bool (!(t == []))) .d rfl ?_
     have hcb : conB t ks = bif !(t == []) || decide (((ks.length : Nat) : Int) > 0) then 64 else 0 := rfl
     cases c : t == []
     · refine go ?_
       refine RG.nilS (ends true _ (by rw [hcb, c]; rfl) ⟨rfl, rfl, rfl, rfl, trivial⟩)
     · refine go1 ?_
       refine go1 ?_
       refine RG.ld .d rfl (h2.look hq1) (d := .lst (elsC ks) ks.length 5 none) rfl ?_
       refine go ?_
       refine RG.nilS (ends (decide (((ks.length : Nat) : Int) > 0)) _ (by rw [hcb, c]; rfl) ⟨rfl, rfl, rfl, rfl, trivial⟩)
   rintro fr3 H3 ⟨rfl, hf3⟩
   -- the name
   have hcb : conB t ks = 64 ∨ conB t ks = 0 := by
    unfold conB
    cases !(t == []) || decide (((ks.length : Nat) : Int) > 0)
    · exact .inr rfl
    · exact .inl rfl
   have htk := tok_lt p n
   obtain ⟨hi1, hi2⟩ := ixN_eq hix n
   have hor : ∀ a : Nat, a < 64 → binI .or .u8 (a : Int) ((conB t ks : Nat) : Int) = some (B8 (UInt8.ofNat (a + conB t ks))) := by
    intro a ha
    rcases hcb with e | e
    · rw [e, or_u8 a 64 (by omega) (by decide), orC64 a ha, B8_of _ (by omega)]
    · rw [e, or_u8 a 0 (by omega) (by decide), Nat.or_zero, B8_of _ (by omega)]; rfl
   refine AC.to _ hf3 (AC.seqI (I := fun fr' H' => WB H01 b (.mapr mb) (.int .i64 p) true (bs ++ turnW pg p ++ nameW ix p n (conB t ks)) H' ∧ Agrees fr' [(0, .ptr b 0), (3, .ptr q 0), (4, .int .u8 (conB t ks : Nat))]) (AC.seq (AC.reg ?_)) ?_)
   · refine go1 ?_
     refine RG.ld .d rfl (h2.look hq1) (d := .int .i64 p) rfl ?_
     refine go1 ?_
     refine RG.ld .d rfl (h2.look hq1) (d := .str n) rfl ?_
     refine RG.callP .d rfl (Token_ok hG p n) ?_
     refine go1 ?_
     refine RG.nilS (AC.seq (AC.reg ?_))
     refine go1 ?_
     refine RG.p (d := .bool (!(tokF p n == 0))) .d (by
      show some (DV.bool (((tokF p n : Nat) : Int) != 0)) = _
      congr 2
      rw [Bool.eq_iff_iff]; simp) ?_
     have hN : nameW ix p n (conB t ks) = bif tokF p n == 0 then UInt8.ofNat (4 + conB t ks) :: mbF (ixN ix n) else [UInt8.ofNat (tokF p n + conB t ks)] := rfl
     cases c : tokF p n == 0
     · rw [c, cond_false] at hN
       rw [hN] at hlen ⊢
       refine RG.nilS (AC.cond_t rfl (AC.reg ?_))
       refine go1 ?_
       refine go1 ?_
       refine go1 ?_
       refine RG.p .d (hor _ htk) ?_
       refine RG.zD ?_
       refine RG.call .d rfl (bytes_ok (s := [UInt8.ofNat (tokF p n + conB t ks)]) h2 (by simp at hlen ⊢; omega)) (fun d H4 h4 => ?_) (fun _ _ h => h.elim)
       exact RG.nil ⟨h4, rfl, rfl, rfl, trivial⟩
     · rw [c, cond_true] at hN
       rw [hN] at hlen ⊢
       refine RG.nilS (AC.cond_f rfl (AC.seq (AC.reg ?_)))
       refine go1 ?_
       refine go1 ?_
       refine RG.p .d (hor 4 (by decide)) ?_
       refine RG.zD ?_
       refine RG.call .d rfl (bytes_ok (s := [UInt8.ofNat (4 + conB t ks)]) h2 (by simp at hlen ⊢; omega)) (fun d H4 h4 => ?_) (fun _ _ h => h.elim)
       obtain ⟨buf, hbb, _⟩ := h4.page (.int .i64 p)
       have hml := mbF_len (ixN ix n)
       refine RG.nilS (AC.drawP [7, 8] rfl ?_)
       first|refine VP.z0 0 ?_|refine VP.z1 0 ?_|refine VP.z2 0 ?_|refine VP.z3 0 ?_|refine VP.z4 0 ?_|refine VP.z5 0 ?_|refine VP.z6 0 ?_|refine VP.z7 0 ?_|refine VP.z8 0 ?_
       first|refine VP.z0 1 ?_|refine VP.z1 1 ?_|refine VP.z2 1 ?_|refine VP.z3 1 ?_|refine VP.z4 1 ?_|refine VP.z5 1 ?_|refine VP.z6 1 ?_|refine VP.z7 1 ?_|refine VP.z8 1 ?_
       first|refine VP.z0 2 ?_|refine VP.z1 2 ?_|refine VP.z2 2 ?_|refine VP.z3 2 ?_|refine VP.z4 2 ?_|refine VP.z5 2 ?_|refine VP.z6 2 ?_|refine VP.z7 2 ?_|refine VP.z8 2 ?_
       first|refine VP.z0 3 ?_|refine VP.z1 3 ?_|refine VP.z2 3 ?_|refine VP.z3 3 ?_|refine VP.z4 3 ?_|refine VP.z5 3 ?_|refine VP.z6 3 ?_|refine VP.z7 3 ?_|refine VP.z8 3 ?_
       refine VP.v (d := .mapr mb) 4 rfl (evP_ld rfl hbb rfl) ?_
       first|refine VP.z0 5 ?_|refine VP.z1 5 ?_|refine VP.z2 5 ?_|refine VP.z3 5 ?_|refine VP.z4 5 ?_|refine VP.z5 5 ?_|refine VP.z6 5 ?_|refine VP.z7 5 ?_|refine VP.z8 5 ?_
       refine VP.v (d := .str n) 6 rfl (evP_ld rfl (h4.look hq1) rfl) ?_
       refine VP.pe 7 rfl rfl (lookE (h4.look hm1) rfl rfl) (fun _ _ _ h => h.elim) (fun d H5 ⟨e1, e2⟩ => ⟨(by (repeat (refine stabP_cons rfl (by first | exact StabP.of (QV.evP trivial rfl) rfl | exact StabP.of (QV.bsl trivial rfl) rfl | exact StabP.of (QV.evP trivial (evP_ld rfl hbb rfl)) rfl | exact StabP.of (QV.evP trivial (evP_ld rfl (h4.look hq1) rfl)) rfl) ?_)); exact stabP_nil), ?_⟩)
       subst e1; subst e2
       have hcl : CALL prog G 46 [.ptr b 0, .int .i64 ((mget ix n).getD 0)] H5 (fun _ H' => WB H01 b (.mapr mb) (.int .i64 p) true (bs ++ turnW pg p ++ [UInt8.ofNat (4 + conB t ks)] ++ mbF (ixN ix n)) H') (fun _ _ => False) := by
        rw [hi1]
        exact number_ok h4 hi2 (by simp at hlen ⊢; omega)
       refine VP.pe 8 rfl rfl (EF.callg trivial rfl hcl) (fun _ _ _ h => h.elim) (fun d H6 h6 => ⟨?_, ?_⟩)
       · obtain ⟨buf6, hb6, _⟩ := h6.page (.int .i64 p)
         exact (by (repeat (refine stabP_cons rfl (by first | exact StabP.of (QV.evP trivial rfl) rfl | exact StabP.of (QV.bsl trivial rfl) rfl | exact StabP.of (QV.evP trivial (evP_ld rfl hb6 rfl)) rfl | exact StabP.of (QV.evP trivial (evP_ld rfl (h6.look hq1) rfl)) rfl) ?_)); exact stabP_nil)
       refine VP.pd ⟨?_, rfl, rfl, rfl, trivial⟩
       simpa [List.append_assoc] using h6
   rintro fr4 H4 ⟨h4, hf4⟩
   have hE : tokW ix pg (.mk p n t o ks) = turnW pg p ++ nameW ix p n (conB t ks) ++ bif conB t ks == 0 then [] else textW ix t o ++ toksW ix p ks ++ [1] := by rw [tokW]
   refine AC.to _ hf4 (AC.seq (AC.seq (AC.reg ?_)))
   refine go1 ?_
   refine RG.p (d := .bool (conB t ks == 0)) .d (by
    show some (DV.bool (((conB t ks : Nat) : Int) == 0)) = _
    congr 2
    rw [Bool.eq_iff_iff]; simp) ?_
   cases c0 : conB t ks == 0
   case true =>
    have hk0 : ks = [] := by
     have : conB t ks = 0 := by simpa using c0
     unfold conB at this
     cases c1 : !(t == []) || decide (((ks.length : Nat) : Int) > 0)
     · simp only [Bool.or_eq_false_iff, decide_eq_false_iff_not] at c1
       exact List.length_eq_zero_iff.1 (by omega)
     · rw [c1] at this; cases this
    refine RG.nilS (AC.cond_t rfl (AC.ret (fin' (x := bs ++ turnW pg p ++ nameW ix p n (conB t ks)) ?_ ?_)))
    · rw [hk0] at h4 ⊢
      rw [lastP, lastsP]; exact h4
    · rw [hE, c0, cond_true, List.append_nil, List.append_assoc]
   rw [c0, cond_false] at hE hlen
   simp only [List.length_append, List.length_singleton] at hlen
   refine RG.nilS (AC.cond_f rfl (AC.skip (AC.seq (AC.reg ?_))))
   refine go1 ?_
   refine RG.ld .d rfl (h4.look hq1) (d := .agg (elC (.mk p n t o ks))) (by rw [he]; rfl) ?_
   refine RG.call .d rfl (wtext_ok (.mk p n t o ks) h4 hm1 hix (by show t.length ≤ _; omega) (by simp only [List.length_append]; omega)) (fun d H5 h5 => ?_) (fun _ _ h => h.elim)
   have ht5 : textW ix (El.text (.mk p n t o ks)) (El.op (.mk p n t o ks)) = textW ix t o := rfl
   rw [ht5] at h5
   refine RG.nilS (AC.seq (AC.seq (AC.reg ?_)))
   refine go1 ?_
   refine RG.ld .d rfl (h5.look hq1) (d := .lst (elsC ks) ks.length 5 none) rfl ?_
   refine go ?_
   refine RG.nilS ?_
   generalize hbs : bs ++ turnW pg p ++ nameW ix p n (conB t ks) ++ textW ix t o = bs6 at h5
   have hbl := congrArg List.length hbs
   simp only [List.length_append] at hbl
   refine AC.bloopH (α := Nat) (β := Unit) (fun i => ks.length - i) (fun i => [(0, .ptr b 0), (3, .ptr q 0), (68, .lst (elsC ks) ks.length 5 none), (69, .int .i64 ks.length), (70, .int .i64 i)])
    (fun i H' => i ≤ ks.length ∧ WB H01 b (.mapr mb) (.int .i64 (lastsP p (ks.take i))) true (bs6 ++ toksW ix p (ks.take i)) H') (fun _ => [(0, .ptr b 0)]) (fun _ H' => WB H01 b (.mapr mb) (.int .i64 (lastsP p ks)) true (bs6 ++ toksW ix p ks) H') ?_ ?_ 0 _
    ⟨Nat.zero_le _, by simp only [List.take_zero, lastsP, toksW, List.append_nil]; exact h5⟩ ⟨rfl, rfl, rfl, rfl, rfl, trivial⟩
   · intro _ He fr h7 hfr
     refine AC.to _ hfr (AC.reg ?_)
     refine go1 ?_
     refine RG.zD ?_
     refine RG.call .d rfl (bytes_ok (s := [1]) h7 (by simp only [List.length_append, List.length_singleton]; omega)) (fun d H8 h8 => ?_) (fun _ _ h => h.elim)
     refine RG.nil (fin' (x := bs6 ++ toksW ix p ks ++ [1]) ?_ ?_)
     · rw [lastP]; exact h8
     · rw [hE, ← hbs]; simp only [List.append_assoc]
   · rintro i H' ⟨g1, h7⟩ ih2 ex
     refine AC.seq (AC.reg ?_)
     refine go ?_
     cases e3 : decide ((i : Int) < ks.length)
     · have e := of_decide_eq_false e3
       rw [List.take_of_length_le (by omega)] at h7
       exact RG.nilS (AC.seq (AC.cond_f rfl (AC.exit (ex () _ _ h7 ⟨rfl, trivial⟩))))
     · have e := of_decide_eq_true e3
       have hi : i < ks.length := by omega
       have hrow' := row_el hi
       have hok' := okEs_mem ks _ (List.getElem_mem hi) hcs
       have hkd := dps_le ks ks[i] (List.getElem_mem hi)
       have htk : ks.take (i + 1) = ks.take i ++ [ks[i]] := List.take_succ_eq_append_getElem hi
       have ht1 : toksW ix p (ks.take (i + 1)) = toksW ix p (ks.take i) ++ tokW ix (lastsP p (ks.take i)) ks[i] := by
        rw [htk, toksW_append]; simp only [toksW, List.append_nil]
       have ht2 : lastsP p (ks.take (i + 1)) = lastP ks[i] := by
        rw [htk, lastsP_append]; simp only [lastsP]
       have hle : (toksW ix p (ks.take (i + 1))).length ≤ (toksW ix p ks).length := by
        conv => rhs; rw [← List.take_append_drop (i + 1) ks]
        rw [toksW_append, List.length_append]; omega
       rw [ht1, List.length_append] at hle
       generalize ks[i] = x at hrow' hok' hkd ht1 ht2 hle
       refine RG.nilS (AC.seq (AC.cond_t rfl (AC.skip (AC.seq (AC.block (AC.seq (AC.reg ?_)))))))
       refine RG.p .d (evP_iadr wh wh (by omega)) ?_
       refine RG.p .d (evP_ldc wh hrow') ?_
       refine RG.alloc .d fun z hz => ?_
       refine RG.sto (cs := [.int .i64 0, .str [], .str [], .bool false, .nils]) (ty := 24) (d := .agg (elC x)) (ys := elC x) .d wh Hp.upd_same wh rfl (elC_length _) (by exact Nat.le_refl _) ?_
       rw [spl_el, Hp.upd_upd]
       have h8 := h7.put (o := some (.cells (elC x) 24)) hz
       have hz1 := h7.base hz
       have hmz : mb ≠ z := fun e => by rw [e, hz1] at hm1; cases hm1
       refine RG.nil (AC.reg ?_)
       refine go1 ?_
       refine RG.ld .d rfl Hp.upd_same (ldEl x) ?_
       refine RG.call .d rfl (ih x _ _ _ _ hok' (by omega) h8 (by rw [Hp.upd_ne hmz]; exact hm1) (by simp only [List.length_append]; omega)) (fun d H8 h9 => ?_) (fun _ _ h => h.elim)
       obtain ⟨H9, h10, hsub⟩ := h9.take hz1
       refine RG.nil (AC.drop hsub (AC.reg ?_))
       refine go ?_
       refine RG.nil (ih2 (i + 1) _ ⟨by omega, ?_⟩ (by omega) _ ⟨rfl, rfl, rfl, rfl, rfl, trivial⟩)
       rw [ht1, ht2, ← List.append_assoc]; exact h10
open Go Go.Run Go.RowKit
open Go.Proofs.Tryz (prog)
def F56 : FN := ⟨6, (.seq (.reg [ji 2 (.mv (.c .nilp))])
 (.seq (.reg [ji 3 (.mv (.t 0)), ji 4 (.bld [(.str []), (.int .i64 0), (.int .i64 0)] [(0, 1, (.t 3))]), ji 5 (.box 146 (.t 4)), ji 2 (.mv (.t 5))])
 .ret)), [.tmp 2]⟩
theorem cF56 : cFn prog 56 = some F56 := by kernel_rfl
def F119 : FN := ⟨48, (.seq (.reg [ji 4 (.mv (.c (.str [])))])
 (.seq (.seq (.reg [ji 8 (.mv (.t 0)), ji 9 (.nilc (.t 8)), ji 10 (.fadr 2 (.t 9)), ji 11 (.ld false 1 (.t 10)), ji 12 (.bin .neq (.t 11) (ci 0))])
 (.cond (.t 12) (.seq (.reg [ji 4 (.mv (.c (.str [])))])
 .ret)
 .skip))
 (.seq (.reg [ji 14 (.mv (.t 1)), ji 15 (.calv (.t 14) []), ji 13 (.mv (.t 15)), ji 16 (.ext (.t 13) 0), ji 17 (.ext (.t 13) 1), ji 5 (.mv (.t 16)), ji 6 (.mv (.t 17))])
 (.seq (.seq (.reg [ji 18 (.mv (.t 6)), ji 19 (.bin .neq (.t 18) (ci 0))])
 (.cond (.t 19) (.seq (.reg [ji 20 (.mv (.t 0)), ji 21 (.mv (.t 6)), ji 22 (.nilc (.t 20)), ji 23 (.fadr 2 (.t 22)), jn (.st 1 (.t 23) (.t 21))])
 (.seq (.reg [ji 4 (.mv (.c (.str [])))])
 .ret))
 .skip))
 (.seq (.draw [ji 24 (.mv (.t 0)), ji 25 (.nilc (.t 24)), ji 26 (.fadr 0 (.t 25)), ji 27 (.ld false 1 (.t 26)), ji 28 (.mv (.t 0)), ji 29 (.nilc (.t 28)), ji 30 (.fadr 1 (.t 29)), ji 31 (.ld false 1 (.t 30)), ji 32 (.mv (.t 0)), ji 33 (.nilc (.t 32)), ji 34 (.fadr 1 (.t 33)), ji 35 (.ld false 1 (.t 34)), ji 36 (.mv (.t 5)), ji 37 (.bin .add (.t 35) (.t 36)), ji 38 (.slcS (.t 27) (some (.t 31)) (some (.t 37))), ji 7 (.mv (.t 38))] [[], [0], [1], [2], [], [4], [5], [6], [], [8], [9], [10], [], [11, 12], [3, 7, 13], [14, 0, 1, 2, 3, 4, 5, 6, 7, 8, 9, 10, 11, 12, 13, 14]])
 (.seq (.reg [ji 39 (.mv (.t 0)), ji 40 (.nilc (.t 39)), ji 41 (.fadr 1 (.t 40)), ji 42 (.ld false 1 (.t 41)), ji 43 (.mv (.t 5)), ji 44 (.bin .add (.t 42) (.t 43)), ji 45 (.nilc (.t 39)), ji 46 (.fadr 1 (.t 45)), jn (.st 1 (.t 46) (.t 44))])
 (.seq (.reg [ji 47 (.mv (.t 7)), ji 4 (.mv (.t 47))])
 .ret))))))), [.tmp 4]⟩
theorem cF119 : cFn prog 119 = some F119 := by kernel_rfl
def F57 : FN := ⟨12, (.seq (.reg [ji 2 (.mv (.c (.int .u8 0)))])
 (.seq (.seq (.reg [ji 4 (.mv (.t 0)), ji 5 (.mv (.t 0)), ji 6 (.mkfn (.func 120) [(.t 5)] []), ji 7 (.call 119 [(.t 4), (.t 6)]), ji 3 (.mv (.t 7))])
 (.seq (.reg [ji 8 (.mv (.t 3)), ji 9 (.bin .neq (.t 8) (.c (.str [])))])
 (.cond (.t 9) (.seq (.reg [ji 10 (.mv (.t 3)), ji 11 (.idx (.t 10) (ci 0)), ji 2 (.mv (.t 11))])
 .ret)
 .skip)))
 (.seq (.reg [ji 2 (.mv (.c (.int .u8 0)))])
 .ret))), [.tmp 2]⟩
theorem cF57 : cFn prog 57 = some F57 := by kernel_rfl
def F120 : FN := ⟨8, (.seq (.reg [ji 2 (.mv (ci 0)), ji 3 (.mv (ci 0))])
 (.seq (.reg [ji 4 (.mv (.t 0)), ji 5 (.call 178 [(.t 4), (ci 1)]), ji 6 (.ext (.t 5) 0), ji 7 (.ext (.t 5) 1), ji 2 (.mv (.t 6)), ji 3 (.mv (.t 7))])
 .ret)), [.tmp 2, .tmp 3]⟩
theorem cF120 : cFn prog 120 = some F120 := by kernel_rfl
def F178 : FN := ⟨15, (.seq (.reg [ji 4 (.mv (ci 0)), ji 5 (.mv (ci 0))])
 (.seq (.block 0 (.seq (.reg [ji 7 (.mv (.t 1)), ji 8 (.bin .lss (.t 7) (ci 0)), ji 6 (.mv (.t 8))])
 (.cond (.t 6) (.seq (.reg [ji 4 (.mv (ci 0)), ji 5 (.mv (ci 2))])
 .ret)
 (.seq (.reg [ji 10 (.mv (.t 1)), ji 11 (.mv (.t 0)), ji 12 (.call 62 [(.t 11)]), ji 13 (.bin .gtr (.t 10) (.t 12)), ji 9 (.mv (.t 13))])
 (.cond (.t 9) (.seq (.reg [ji 4 (.mv (ci 0)), ji 5 (.mv (ci 1))])
 .ret)
 .skip)))))
 (.seq (.reg [ji 14 (.mv (.t 1)), ji 4 (.mv (.t 14)), ji 5 (.mv (ci 0))])
 .ret))), [.tmp 4, .tmp 5]⟩
theorem cF178 : cFn prog 178 = some F178 := by kernel_rfl
def F122 : FN := ⟨24, (.seq (.reg [ji 2 (.mv (.c (.int .u32 0)))])
 (.seq (.reg [ji 3 (.mv (.c (.int .u32 0)))])
 (.seq (.seq (.reg [ji 6 (.mv (.t 0)), ji 7 (.mv (.t 0)), ji 8 (.mkfn (.func 179) [(.t 7)] []), ji 9 (.call 119 [(.t 6), (.t 8)]), ji 10 (.s2b 5 (.t 9)), ji 11 (.len false (.t 10)), ji 12 (.mv (ci 0))])
 (.block 0 (.loop (.seq (.reg [ji 13 (.bin .lss (.t 12) (.t 11))])
 (.seq (.cond (.t 13) .skip
 (.exit 0))
 (.seq (.block 1 (.seq (.reg [ji 14 (.iadr 1 (.t 10) (.t 12)), ji 15 (.ld false 1 (.t 14)), ji 5 (.mv (.t 15))])
 (.reg [ji 16 (.mv (.t 3)), ji 17 (.bin .shl (.t 16) (.c (.int .u64 7))), ji 18 (.mv (.t 5)), ji 19 (.bin .and (.t 18) (.c (.int .u8 127))), ji 20 (.conv .u32 (.t 19)), ji 21 (.bin .or (.t 17) (.t 20)), ji 3 (.mv (.t 21))])))
 (.reg [ji 22 (.bin .add (.t 12) (ci 1)), ji 12 (.mv (.t 22))])))))))
 (.seq (.reg [ji 23 (.mv (.t 3)), ji 2 (.mv (.t 23))])
 .ret)))), [.tmp 2]⟩
theorem cF122 : cFn prog 122 = some F122 := by kernel_rfl
def F179 : FN := ⟨42, (.seq (.reg [ji 2 (.mv (ci 0)), ji 3 (.mv (ci 0))])
 (.seq (.reg [ji 4 (.mv (.c (.int .u64 0)))])
 (.seq (.seq (.draw [ji 7 (.mv (.t 0)), ji 8 (.nilc (.t 7)), ji 9 (.fadr 0 (.t 8)), ji 10 (.ld false 1 (.t 9)), ji 11 (.mv (.t 0)), ji 12 (.nilc (.t 11)), ji 13 (.fadr 1 (.t 12)), ji 14 (.ld false 1 (.t 13)), ji 15 (.slcS (.t 10) (some (.t 14)) none), ji 16 (.s2b 5 (.t 15)), ji 17 (.len false (.t 16)), ji 18 (.mv (ci 0))] [[], [0], [1], [2], [], [4], [5], [6], [3, 7], [8], [9], []])
 (.block 0 (.loop (.seq (.reg [ji 19 (.bin .lss (.t 18) (.t 17))])
 (.seq (.cond (.t 19) .skip
 (.exit 0))
 (.seq (.block 1 (.seq (.reg [ji 20 (.mv (.t 18)), ji 21 (.iadr 1 (.t 16) (.t 18)), ji 22 (.ld false 1 (.t 21)), ji 5 (.mv (.t 20)), ji 6 (.mv (.t 22))])
 (.seq (.seq (.reg [ji 23 (.mv (.t 5)), ji 24 (.bin .eql (.t 23) (ci 0)), ji 25 (.mv (.t 24)), jg 26 25 true (.mv (.t 6)), jg 27 25 true (.bin .eql (.t 26) (.c (.int .u8 128))), ji 28 (.pick (.t 25) (.t 27) (.c (.bool false)))])
 (.cond (.t 28) (.seq (.reg [ji 2 (.mv (ci 0)), ji 3 (.mv (ci 3))])
 .ret)
 .skip))
 (.seq (.seq (.reg [ji 29 (.mv (.t 4)), ji 30 (.bin .shl (.t 29) (.c (.int .u64 7))), ji 31 (.mv (.t 6)), ji 32 (.bin .and (.t 31) (.c (.int .u8 127))), ji 33 (.conv .u64 (.t 32)), ji 34 (.bin .or (.t 30) (.t 33)), ji 4 (.mv (.t 34))])
 (.seq (.reg [ji 35 (.mv (.t 4)), ji 36 (.bin .gtr (.t 35) (.c (.int .u64 4294967295)))])
 (.cond (.t 36) (.seq (.reg [ji 2 (.mv (ci 0)), ji 3 (.mv (ci 2))])
 .ret)
 .skip)))
 (.seq (.reg [ji 37 (.mv (.t 6)), ji 38 (.bin .lss (.t 37) (.c (.int .u8 128)))])
 (.cond (.t 38) (.seq (.reg [ji 39 (.mv (.t 5)), ji 40 (.bin .add (.t 39) (ci 1)), ji 2 (.mv (.t 40)), ji 3 (.mv (ci 0))])
 .ret)
 .skip))))))
 (.reg [ji 41 (.bin .add (.t 18) (ci 1)), ji 18 (.mv (.t 41))])))))))
 (.seq (.reg [ji 2 (.mv (ci 0)), ji 3 (.mv (ci 1))])
 .ret)))), [.tmp 2, .tmp 3]⟩
theorem cF179 : cFn prog 179 = some F179 := by kernel_rfl
def F123 : FN := ⟨8, (.seq (.reg [ji 2 (.box 96 (.t 0)), ji 3 (.box 3 (.t 1)), ji 4 (.mv (.c (.str [])))])
 (.seq (.reg [ji 5 (.ld false 1 (.t 2)), ji 6 (.mkfn (.func 180) [] [(.t 2), (.t 3)]), ji 7 (.call 119 [(.t 5), (.t 6)]), ji 4 (.mv (.t 7))])
 .ret)), [.tmp 4]⟩
theorem cF123 : cFn prog 123 = some F123 := by kernel_rfl
def F180 : FN := ⟨9, (.seq (.reg [ji 2 (.mv (ci 0)), ji 3 (.mv (ci 0))])
 (.seq (.reg [ji 4 (.ld false 1 (.t 0)), ji 5 (.ld false 1 (.t 1)), ji 6 (.call 178 [(.t 4), (.t 5)]), ji 7 (.ext (.t 6) 0), ji 8 (.ext (.t 6) 1), ji 2 (.mv (.t 7)), ji 3 (.mv (.t 8))])
 .ret)), [.tmp 2, .tmp 3]⟩
theorem cF180 : cFn prog 180 = some F180 := by kernel_rfl
def F181 : FN := ⟨8, (.seq (.reg [ji 2 (.mv (.c (.str [])))])
 (.seq (.reg [ji 3 (.mv (.t 0)), ji 4 (.mv (.t 0)), ji 5 (.mkfn (.func 213) [(.t 4)] []), ji 6 (.call 119 [(.t 3), (.t 5)]), ji 7 (.call 212 [(.t 6), (.c (.str [0]))]), ji 2 (.mv (.t 7))])
 .ret)), [.tmp 2]⟩
theorem cF181 : cFn prog 181 = some F181 := by kernel_rfl
def F213 : FN := ⟨19, (.seq (.reg [ji 2 (.mv (ci 0)), ji 3 (.mv (ci 0))])
 (.seq (.draw [ji 5 (.mv (.t 0)), ji 6 (.nilc (.t 5)), ji 7 (.fadr 0 (.t 6)), ji 8 (.ld false 1 (.t 7)), ji 9 (.mv (.t 0)), ji 10 (.nilc (.t 9)), ji 11 (.fadr 1 (.t 10)), ji 12 (.ld false 1 (.t 11)), ji 13 (.slcS (.t 8) (some (.t 12)) none), ji 14 (.call 177 [(.t 13), (.c (.int .u8 0))]), ji 4 (.mv (.t 14))] [[], [0], [1], [2], [], [4], [5], [6], [3, 7], [8], [9, 9, 0, 1, 2, 3, 4, 5, 6, 7, 8, 9]])
 (.seq (.seq (.reg [ji 15 (.mv (.t 4)), ji 16 (.bin .lss (.t 15) (ci 0))])
 (.cond (.t 16) (.seq (.reg [ji 2 (.mv (ci 0)), ji 3 (.mv (ci 1))])
 .ret)
 .skip))
 (.seq (.reg [ji 17 (.mv (.t 4)), ji 18 (.bin .add (.t 17) (ci 1)), ji 2 (.mv (.t 18)), ji 3 (.mv (ci 0))])
 .ret)))), [.tmp 2, .tmp 3]⟩
theorem cF213 : cFn prog 213 = some F213 := by kernel_rfl
def F63 : FN := ⟨7, (.seq (.reg [ji 2 (.mv (ci 0))])
 (.seq (.reg [ji 3 (.mv (.t 0)), ji 4 (.nilc (.t 3)), ji 5 (.fadr 1 (.t 4)), ji 6 (.ld false 1 (.t 5)), ji 2 (.mv (.t 6))])
 .ret)), [.tmp 2]⟩
theorem cF63 : cFn prog 63 = some F63 := by kernel_rfl
def F62 : FN := ⟨13, (.seq (.reg [ji 2 (.mv (ci 0))])
 (.seq (.draw [ji 3 (.mv (.t 0)), ji 4 (.nilc (.t 3)), ji 5 (.fadr 0 (.t 4)), ji 6 (.ld false 1 (.t 5)), ji 7 (.len true (.t 6)), ji 8 (.mv (.t 0)), ji 9 (.nilc (.t 8)), ji 10 (.fadr 1 (.t 9)), ji 11 (.ld false 1 (.t 10)), ji 12 (.bin .sub (.t 7) (.t 11)), ji 2 (.mv (.t 12))] [[], [0], [1], [2], [3], [], [5], [6], [7], [4, 8], [9, 0, 1, 2, 3, 4, 5, 6, 7, 8, 9]])
 .ret)), [.tmp 2]⟩
theorem cF62 : cFn prog 62 = some F62 := by kernel_rfl
def F64 : FN := ⟨12, (.seq (.reg [ji 2 (.mv (ci 0)), ji 3 (.mv (ci 0))])
 (.seq (.draw [ji 4 (.mv (.t 0)), ji 5 (.nilc (.t 4)), ji 6 (.fadr 1 (.t 5)), ji 7 (.ld false 1 (.t 6)), ji 8 (.mv (.t 0)), ji 9 (.nilc (.t 8)), ji 10 (.fadr 2 (.t 9)), ji 11 (.ld false 1 (.t 10)), ji 2 (.mv (.t 7)), ji 3 (.mv (.t 11))] [[], [0], [1], [2], [], [4], [5], [6], [3, 0, 1, 2, 3], [7, 8, 0, 1, 2, 3, 4, 5, 6, 7, 8]])
 .ret)), [.tmp 2, .tmp 3]⟩
theorem cF64 : cFn prog 64 = some F64 := by kernel_rfl
def F212 : FN := ⟨8, (.seq (.reg [ji 4 (.mv (.c (.str [])))])
 (.seq (.reg [ji 5 (.mv (.t 0)), ji 6 (.mv (.t 1)), ji 7 (.call 231 [(.t 5), (.t 6)]), ji 4 (.mv (.t 7))])
 .ret)), [.tmp 4]⟩
theorem cF212 : cFn prog 212 = some F212 := by kernel_rfl
def F231 : FN := ⟨16, (.seq (.reg [ji 4 (.mv (.c (.str [])))])
 (.seq (.seq (.reg [ji 5 (.mv (.t 0)), ji 6 (.mv (.t 1)), ji 7 (.call 237 [(.t 5), (.t 6)])])
 (.cond (.t 7) (.seq (.reg [ji 8 (.mv (.t 0)), ji 9 (.mv (.t 0)), ji 10 (.len true (.t 9)), ji 11 (.mv (.t 1)), ji 12 (.len true (.t 11)), ji 13 (.bin .sub (.t 10) (.t 12)), ji 14 (.slcS (.t 8) none (some (.t 13))), ji 4 (.mv (.t 14))])
 .ret)
 .skip))
 (.seq (.reg [ji 15 (.mv (.t 0)), ji 4 (.mv (.t 15))])
 .ret))), [.tmp 4]⟩
theorem cF231 : cFn prog 231 = some F231 := by kernel_rfl
def F237 : FN := ⟨21, (.seq (.reg [ji 4 (.mv (.c (.bool false)))])
 (.seq (.reg [ji 5 (.mv (.t 0)), ji 6 (.len true (.t 5)), ji 7 (.mv (.t 1)), ji 8 (.len true (.t 7)), ji 9 (.bin .geq (.t 6) (.t 8)), ji 10 (.mv (.t 9)), jg 11 10 true (.mv (.t 0)), jg 12 10 true (.mv (.t 0)), jg 13 10 true (.len true (.t 12)), jg 14 10 true (.mv (.t 1)), jg 15 10 true (.len true (.t 14)), jg 16 10 true (.bin .sub (.t 13) (.t 15)), jg 17 10 true (.slcS (.t 11) (some (.t 16)) none), jg 18 10 true (.mv (.t 1)), jg 19 10 true (.bin .eql (.t 17) (.t 18)), ji 20 (.pick (.t 10) (.t 19) (.c (.bool false))), ji 4 (.mv (.t 20))])
 .ret)), [.tmp 4]⟩
theorem cF237 : cFn prog 237 = some F237 := by kernel_rfl
variable {G : Gl}
theorem dF {P : Prop} [Decidable P] (h : ¬P) : some (DV.bool (decide P)) = some (DV.bool false) := by rw [decide_eq_false h]
theorem dT {P : Prop} [Decidable P] (h : P) : some (DV.bool (decide P)) = some (DV.bool true) := by rw [decide_eq_true h]
def mrd (s : List UInt8) (i : Nat) : Option DO := some (.cells [.str s, .int .i64 i, .int .i64 0] 146)
theorem mAt_ok {H : Hp} {q i : Nat} {s : List UInt8} (h : H q = mrd s i) : CALL prog G 63 [.ptr q 0] H (fun d H' => d = .int .i64 i ∧ H' = H) (fun _ _ => False) := by
 refine CALL.of cF63 (Nat.le_of_ble_eq_true rfl) ?_
 refine AC.seq (AC.reg ?_)
 refine go ?_
 refine RG.nilS (AC.seq (AC.reg ?_))
 refine go1 ?_
 refine go1 ?_
 refine go1 ?_
 refine RG.ld .d rfl h (d := .int .i64 i) rfl ?_
 refine go ?_
 exact RG.nilS (AC.ret (fin rfl ⟨rfl, rfl⟩))
theorem mLeft_ok {H : Hp} {q i : Nat} {s : List UInt8} (h : H q = mrd s i) (hi : i ≤ s.length) (hs : s.length ≤ 1000000000) : CALL prog G 62 [.ptr q 0] H (fun d H' => d = .int .i64 ((s.length - i : Nat) : Int) ∧ H' = H) (fun _ _ => False) := by
 refine CALL.of cF62 (Nat.le_of_ble_eq_true rfl) ?_
 refine AC.seq (AC.reg ?_)
 refine go ?_
 refine RG.nilS (AC.seq (AC.drawP [] rfl ?_))
 first|refine VP.z0 0 ?_|refine VP.z1 0 ?_|refine VP.z2 0 ?_|refine VP.z3 0 ?_|refine VP.z4 0 ?_|refine VP.z5 0 ?_|refine VP.z6 0 ?_|refine VP.z7 0 ?_|refine VP.z8 0 ?_
 first|refine VP.z0 1 ?_|refine VP.z1 1 ?_|refine VP.z2 1 ?_|refine VP.z3 1 ?_|refine VP.z4 1 ?_|refine VP.z5 1 ?_|refine VP.z6 1 ?_|refine VP.z7 1 ?_|refine VP.z8 1 ?_
 first|refine VP.z0 2 ?_|refine VP.z1 2 ?_|refine VP.z2 2 ?_|refine VP.z3 2 ?_|refine VP.z4 2 ?_|refine VP.z5 2 ?_|refine VP.z6 2 ?_|refine VP.z7 2 ?_|refine VP.z8 2 ?_
 refine VP.v (d := .str s) 3 rfl (evP_ld rfl h rfl) ?_
 first|refine VP.z0 4 ?_|refine VP.z1 4 ?_|refine VP.z2 4 ?_|refine VP.z3 4 ?_|refine VP.z4 4 ?_|refine VP.z5 4 ?_|refine VP.z6 4 ?_|refine VP.z7 4 ?_|refine VP.z8 4 ?_
 first|refine VP.z0 5 ?_|refine VP.z1 5 ?_|refine VP.z2 5 ?_|refine VP.z3 5 ?_|refine VP.z4 5 ?_|refine VP.z5 5 ?_|refine VP.z6 5 ?_|refine VP.z7 5 ?_|refine VP.z8 5 ?_
 first|refine VP.z0 6 ?_|refine VP.z1 6 ?_|refine VP.z2 6 ?_|refine VP.z3 6 ?_|refine VP.z4 6 ?_|refine VP.z5 6 ?_|refine VP.z6 6 ?_|refine VP.z7 6 ?_|refine VP.z8 6 ?_
 first|refine VP.z0 7 ?_|refine VP.z1 7 ?_|refine VP.z2 7 ?_|refine VP.z3 7 ?_|refine VP.z4 7 ?_|refine VP.z5 7 ?_|refine VP.z6 7 ?_|refine VP.z7 7 ?_|refine VP.z8 7 ?_
 refine VP.v (d := .int .i64 i) 8 rfl (evP_ld rfl h rfl) ?_
 refine VP.v (d := .int .i64 ((s.length - i : Nat) : Int)) 9 rfl (by
  show some (DV.int .i64 (IntKind.wrap .i64 ((s.length : Int) - i))) = _
  rw [IntWalk.i64_in _ (by omega)]
  congr 2; omega) ?_
 first|refine VP.z0 10 ?_|refine VP.z1 10 ?_|refine VP.z2 10 ?_|refine VP.z3 10 ?_|refine VP.z4 10 ?_|refine VP.z5 10 ?_|refine VP.z6 10 ?_|refine VP.z7 10 ?_|refine VP.z8 10 ?_
 exact VP.pd (AC.ret (fin rfl ⟨rfl, rfl⟩))
theorem mErr_ok {H : Hp} {q i : Nat} {s : List UInt8} (h : H q = mrd s i) : CALL prog G 64 [.ptr q 0] H (fun d H' => d = .tup [.int .i64 i, .int .i64 0] ∧ H' = H) (fun _ _ => False) := by
 refine CALL.of cF64 (Nat.le_of_ble_eq_true rfl) ?_
 refine AC.seq (AC.reg ?_)
 refine go ?_
 refine RG.nilS (AC.seq (AC.drawP [] rfl ?_))
 first|refine VP.z0 0 ?_|refine VP.z1 0 ?_|refine VP.z2 0 ?_|refine VP.z3 0 ?_|refine VP.z4 0 ?_|refine VP.z5 0 ?_|refine VP.z6 0 ?_|refine VP.z7 0 ?_|refine VP.z8 0 ?_
 first|refine VP.z0 1 ?_|refine VP.z1 1 ?_|refine VP.z2 1 ?_|refine VP.z3 1 ?_|refine VP.z4 1 ?_|refine VP.z5 1 ?_|refine VP.z6 1 ?_|refine VP.z7 1 ?_|refine VP.z8 1 ?_
 first|refine VP.z0 2 ?_|refine VP.z1 2 ?_|refine VP.z2 2 ?_|refine VP.z3 2 ?_|refine VP.z4 2 ?_|refine VP.z5 2 ?_|refine VP.z6 2 ?_|refine VP.z7 2 ?_|refine VP.z8 2 ?_
 refine VP.v (d := .int .i64 i) 3 rfl (evP_ld rfl h rfl) ?_
 first|refine VP.z0 4 ?_|refine VP.z1 4 ?_|refine VP.z2 4 ?_|refine VP.z3 4 ?_|refine VP.z4 4 ?_|refine VP.z5 4 ?_|refine VP.z6 4 ?_|refine VP.z7 4 ?_|refine VP.z8 4 ?_
 first|refine VP.z0 5 ?_|refine VP.z1 5 ?_|refine VP.z2 5 ?_|refine VP.z3 5 ?_|refine VP.z4 5 ?_|refine VP.z5 5 ?_|refine VP.z6 5 ?_|refine VP.z7 5 ?_|refine VP.z8 5 ?_
 first|refine VP.z0 6 ?_|refine VP.z1 6 ?_|refine VP.z2 6 ?_|refine VP.z3 6 ?_|refine VP.z4 6 ?_|refine VP.z5 6 ?_|refine VP.z6 6 ?_|refine VP.z7 6 ?_|refine VP.z8 6 ?_
 refine VP.v (d := .int .i64 0) 7 rfl (evP_ld rfl h rfl) ?_
 first|refine VP.z0 8 ?_|refine VP.z1 8 ?_|refine VP.z2 8 ?_|refine VP.z3 8 ?_|refine VP.z4 8 ?_|refine VP.z5 8 ?_|refine VP.z6 8 ?_|refine VP.z7 8 ?_|refine VP.z8 8 ?_
 first|refine VP.z0 9 ?_|refine VP.z1 9 ?_|refine VP.z2 9 ?_|refine VP.z3 9 ?_|refine VP.z4 9 ?_|refine VP.z5 9 ?_|refine VP.z6 9 ?_|refine VP.z7 9 ?_|refine VP.z8 9 ?_
 exact VP.pd (AC.ret (fin rfl ⟨rfl, rfl⟩))
theorem many_ok {H : Hp} {q i n : Nat} {s : List UInt8} (h : H q = mrd s i) (hi : i + n ≤ s.length) (hs : s.length ≤ 1000000000) : CALL prog G 178 [.ptr q 0, .int .i64 n] H (fun d H' => d = .tup [.int .i64 n, .int .i64 0] ∧ H' = H) (fun _ _ => False) := by
 refine CALL.of cF178 (Nat.le_of_ble_eq_true rfl) ?_
 refine AC.seq (AC.reg ?_)
 refine go ?_
 refine RG.nilS (AC.seq (AC.block (AC.seq (AC.reg ?_))))
 refine go1 ?_
 refine RG.p (d := .bool false) .d (dF (P := (n : Int) < 0) (by omega)) ?_
 refine go ?_
 refine RG.nilS (AC.cond_f rfl (AC.seq (AC.reg ?_)))
 refine go1 ?_
 refine go1 ?_
 refine RG.callR .d rfl (mLeft_ok h (by omega) hs) ?_
 refine RG.p (d := .bool false) .d (dF (P := (n : Int) > ((s.length - i : Nat) : Int)) (by omega)) ?_
 refine go ?_
 refine RG.nilS (AC.cond_f rfl (AC.skip (AC.seq (AC.reg ?_))))
 refine go ?_
 exact RG.nilS (AC.ret (fin rfl ⟨rfl, rfl⟩))
theorem one_ok {H : Hp} {q i : Nat} {s : List UInt8} (h : H q = mrd s i) (hi : i + 1 ≤ s.length) (hs : s.length ≤ 1000000000) : CALL prog G 120 [.ptr q 0] H (fun d H' => d = .tup [.int .i64 ((1 : Nat) : Int), .int .i64 0] ∧ H' = H) (fun _ _ => False) := by
 refine CALL.of cF120 (Nat.le_of_ble_eq_true rfl) ?_
 refine AC.seq (AC.reg ?_)
 refine go ?_
 refine RG.nilS (AC.seq (AC.reg ?_))
 refine go1 ?_
 refine RG.callR .d rfl (many_ok (n := 1) h hi hs) ?_
 refine go ?_
 exact RG.nilS (AC.ret (fin rfl ⟨rfl, rfl⟩))
theorem take_ok {H : Hp} {q i n : Nat} {s : List UInt8} {fv : DV} (h : H q = mrd s i) (hi : i + n ≤ s.length) (hs : s.length ≤ 1000000000) (hc : CALV prog G fv [] H (fun d H' => d = .tup [.int .i64 n, .int .i64 0] ∧ H' = H) (fun _ _ => False)) :
  CALL prog G 119 [.ptr q 0, fv] H (fun d H' => d = .str ((s.drop i).take n) ∧ H' = H.upd q (mrd s (i + n))) (fun _ _ => False) := by
 refine CALL.of cF119 (Nat.le_of_ble_eq_true rfl) ?_
 refine AC.seq (AC.reg ?_)
 refine go ?_
 refine RG.nilS (AC.seq (AC.seq (AC.reg ?_)))
 refine go1 ?_
 refine go1 ?_
 refine go1 ?_
 refine RG.ld .d rfl h (d := .int .i64 0) rfl ?_
 refine go ?_
 refine RG.nilS (AC.cond_f rfl (AC.skip (AC.seq (AC.reg ?_))))
 refine go1 ?_
 refine RG.calV .d rfl rfl hc (fun d H' ⟨e1, e2⟩ => ?_) (fun _ _ h => h.elim)
 subst e1; subst e2
 refine go ?_
 refine RG.nilS (AC.seq (AC.seq (AC.reg ?_)))
 refine go ?_
 refine RG.nilS (AC.cond_f rfl (AC.skip (AC.seq (AC.drawP [] rfl ?_))))
 first|refine VP.z0 0 ?_|refine VP.z1 0 ?_|refine VP.z2 0 ?_|refine VP.z3 0 ?_|refine VP.z4 0 ?_|refine VP.z5 0 ?_|refine VP.z6 0 ?_|refine VP.z7 0 ?_|refine VP.z8 0 ?_
 first|refine VP.z0 1 ?_|refine VP.z1 1 ?_|refine VP.z2 1 ?_|refine VP.z3 1 ?_|refine VP.z4 1 ?_|refine VP.z5 1 ?_|refine VP.z6 1 ?_|refine VP.z7 1 ?_|refine VP.z8 1 ?_
 first|refine VP.z0 2 ?_|refine VP.z1 2 ?_|refine VP.z2 2 ?_|refine VP.z3 2 ?_|refine VP.z4 2 ?_|refine VP.z5 2 ?_|refine VP.z6 2 ?_|refine VP.z7 2 ?_|refine VP.z8 2 ?_
 refine VP.v (d := .str s) 3 rfl (evP_ld rfl h rfl) ?_
 first|refine VP.z0 4 ?_|refine VP.z1 4 ?_|refine VP.z2 4 ?_|refine VP.z3 4 ?_|refine VP.z4 4 ?_|refine VP.z5 4 ?_|refine VP.z6 4 ?_|refine VP.z7 4 ?_|refine VP.z8 4 ?_
 first|refine VP.z0 5 ?_|refine VP.z1 5 ?_|refine VP.z2 5 ?_|refine VP.z3 5 ?_|refine VP.z4 5 ?_|refine VP.z5 5 ?_|refine VP.z6 5 ?_|refine VP.z7 5 ?_|refine VP.z8 5 ?_
 first|refine VP.z0 6 ?_|refine VP.z1 6 ?_|refine VP.z2 6 ?_|refine VP.z3 6 ?_|refine VP.z4 6 ?_|refine VP.z5 6 ?_|refine VP.z6 6 ?_|refine VP.z7 6 ?_|refine VP.z8 6 ?_
 refine VP.v (d := .int .i64 i) 7 rfl (evP_ld rfl h rfl) ?_
 first|refine VP.z0 8 ?_|refine VP.z1 8 ?_|refine VP.z2 8 ?_|refine VP.z3 8 ?_|refine VP.z4 8 ?_|refine VP.z5 8 ?_|refine VP.z6 8 ?_|refine VP.z7 8 ?_|refine VP.z8 8 ?_
 first|refine VP.z0 9 ?_|refine VP.z1 9 ?_|refine VP.z2 9 ?_|refine VP.z3 9 ?_|refine VP.z4 9 ?_|refine VP.z5 9 ?_|refine VP.z6 9 ?_|refine VP.z7 9 ?_|refine VP.z8 9 ?_
 first|refine VP.z0 10 ?_|refine VP.z1 10 ?_|refine VP.z2 10 ?_|refine VP.z3 10 ?_|refine VP.z4 10 ?_|refine VP.z5 10 ?_|refine VP.z6 10 ?_|refine VP.z7 10 ?_|refine VP.z8 10 ?_
 refine VP.v (d := .int .i64 i) 11 rfl (evP_ld rfl h rfl) ?_
 first|refine VP.z0 12 ?_|refine VP.z1 12 ?_|refine VP.z2 12 ?_|refine VP.z3 12 ?_|refine VP.z4 12 ?_|refine VP.z5 12 ?_|refine VP.z6 12 ?_|refine VP.z7 12 ?_|refine VP.z8 12 ?_
 refine VP.v (d := .int .i64 ((i + n : Nat) : Int)) 13 rfl (by
  show some (DV.int .i64 (IntKind.wrap .i64 ((i : Int) + n))) = _
  rw [IntWalk.i64_in _ (by omega)]; rfl) ?_
 refine VP.v (d := .str ((s.drop i).take n)) 14 rfl (by
  rw [evP_slc2 (s := s) (lo := i) (hi := ((i + n : Nat) : Int)) rfl rfl rfl (by omega), Int.toNat_natCast, Int.toNat_natCast, List.drop_take, Nat.add_sub_cancel_left]) ?_
 first|refine VP.z0 15 ?_|refine VP.z1 15 ?_|refine VP.z2 15 ?_|refine VP.z3 15 ?_|refine VP.z4 15 ?_|refine VP.z5 15 ?_|refine VP.z6 15 ?_|refine VP.z7 15 ?_|refine VP.z8 15 ?_
 refine VP.pd (AC.seq (AC.reg ?_))
 refine go1 ?_
 refine go1 ?_
 refine go1 ?_
 refine RG.ld .d rfl h (d := .int .i64 i) rfl ?_
 refine go1 ?_
 refine RG.p (d := .int .i64 ((i + n : Nat) : Int)) .d (by
  show some (DV.int .i64 (IntKind.wrap .i64 ((i : Int) + n))) = _
  rw [IntWalk.i64_in _ (by omega)]; rfl) ?_
 refine go1 ?_
 refine go1 ?_
 refine RG.sto (d := .int .i64 ((i + n : Nat) : Int)) .d rfl h rfl rfl rfl (by exact Nat.le_of_ble_eq_true rfl) ?_
 refine RG.nilS (AC.seq (AC.reg ?_))
 refine go ?_
 exact RG.nilS (AC.ret (fin rfl ⟨rfl, rfl⟩))
theorem mByte_ok {H : Hp} {q i : Nat} {s : List UInt8} {c : UInt8} (h : H q = mrd s i) (hc : s[i]? = some c) (hs : s.length ≤ 1000000000) : CALL prog G 57 [.ptr q 0] H (fun d H' => d = B8 c ∧ H' = H.upd q (mrd s (i + 1))) (fun _ _ => False) := by
 have hi : i < s.length := (List.getElem?_eq_some_iff.1 hc).1
 have ht : (s.drop i).take 1 = [c] := by
  rw [List.drop_eq_getElem_cons hi]
  rw [List.getElem?_eq_getElem hi] at hc
  rw [Option.some.inj hc]; rfl
 refine CALL.of cF57 (Nat.le_of_ble_eq_true rfl) ?_
 refine AC.seq (AC.reg ?_)
 refine go ?_
 refine RG.nilS (AC.seq (AC.seq (AC.reg ?_)))
 refine go1 ?_
 refine go1 ?_
 refine go1 ?_
 refine RG.callR .d rfl (take_ok (n := 1) h (by omega) hs (.inl ⟨_, _, _, rfl, one_ok h (by omega) hs⟩)) ?_
 rw [ht]
 refine go ?_
 refine RG.nilS (AC.seq (AC.reg ?_))
 refine go ?_
 refine RG.nilS (AC.cond_t rfl (AC.seq (AC.reg ?_)))
 refine go ?_
 exact RG.nilS (AC.ret (fin rfl ⟨rfl, rfl⟩))
def sevF : Nat → Nat → List UInt8 → Option Nat
 | _, _, [] => none
 | a, k, c :: l => bif k == 0 && c.toNat == 128 then none else bif decide (4294967295 < a * 128 + c.toNat % 128) then none else bif decide (c.toNat < 128) then some (k + 1) else sevF (a * 128 + c.toNat % 128) (k + 1) l
def nvF : Nat → List UInt8 → Nat
 | a, [] => a
 | a, c :: l => nvF (a * 128 + c.toNat % 128) l
theorem sev_go : ∀ (f m : Nat) (r : List UInt8), m < 128 ^ f → m < 4294967296 → sevF 0 0 (mbGo f m ++ r) = sevF m (mbGo f m).length r ∧ nvF 0 (mbGo f m ++ r) = nvF m r ∧ ((mbGo f m).length = 0 ↔ m = 0)
 | 0, m, r, h, _ => by
   have : m = 0 := by simpa using h
   subst this
   exact ⟨rfl, rfl, by simp [mbGo]⟩
 | f + 1, m, r, h, h32 => by
   rw [mbGo]
   cases c : m == 0
   · have hm : m ≠ 0 := by simpa using c
     rw [Nat.pow_succ] at h
     obtain ⟨h1, h2, h3⟩ := sev_go f (m / 128) (UInt8.ofNat (m % 128 + 128) :: r) (by omega) (by omega)
     have hb : (UInt8.ofNat (m % 128 + 128)).toNat = m % 128 + 128 := by rw [UInt8.toNat_ofNat', Nat.mod_eq_of_lt (by omega)]
     rw [cond_false, List.append_assoc, List.singleton_append, h1, h2]
     have e1 : m / 128 * 128 + (m % 128 + 128) % 128 = m := by omega
     refine ⟨?_, ?_, ?_⟩
     · rw [sevF, hb, e1, List.length_append, List.length_singleton]
       have b1 : ((mbGo f (m / 128)).length == 0 && m % 128 + 128 == 128) = false := by
        rw [Bool.and_eq_false_iff]
        by_cases e : m / 128 = 0
        · right; simp; omega
        · left; simp only [beq_eq_false_iff_ne]; intro h; exact e (h3.1 h)
       have b2 : decide (4294967295 < m) = false := by simp; omega
       have b3 : decide (m % 128 + 128 < 128) = false := by simp
       rw [b1, b2, b3]; rfl
     · rw [nvF, hb, e1]
     · rw [List.length_append, List.length_singleton]
       constructor
       · intro h; omega
       · intro h; omega
   · have hm : m = 0 := by simpa using c
     subst hm
     exact ⟨rfl, rfl, by simp⟩
theorem sev_mb {n : Nat} (h : n < 4294967296) (r : List UInt8) : sevF 0 0 (mbF n ++ r) = some (mbF n).length ∧ nvF 0 (mbF n) = n := by
 have hb : (UInt8.ofNat (n % 128)).toNat = n % 128 := by rw [UInt8.toNat_ofNat', Nat.mod_eq_of_lt (by omega)]
 obtain ⟨h1, _, _⟩ := sev_go 5 (n / 128) (UInt8.ofNat (n % 128) :: r) (by omega) (by omega)
 obtain ⟨_, h2, _⟩ := sev_go 5 (n / 128) [UInt8.ofNat (n % 128)] (by omega) (by omega)
 rw [mbF, List.append_assoc, List.singleton_append, h1, h2]
 have e1 : n / 128 * 128 + n % 128 % 128 = n := by omega
 refine ⟨?_, ?_⟩
 · rw [sevF, hb, e1, List.length_append, List.length_singleton]
   have b1 : ((mbGo 5 (n / 128)).length == 0 && n % 128 == 128) = false := by
    rw [Bool.and_eq_false_iff]; right; simp; omega
   have b2 : decide (4294967295 < n) = false := by simp; omega
   have b3 : decide (n % 128 < 128) = true := by simp; omega
   rw [b1, b2, b3]; rfl
 · rw [nvF, hb, e1, nvF]
theorem num_ge : ∀ (l : List UInt8) (a : Nat), a ≤ nvF a l
 | [], a => Nat.le_refl _
 | c :: l, a => by
   have := num_ge l (a * 128 + c.toNat % 128)
   rw [nvF]; omega
theorem ofInt64 (n : Nat) : BitVec.ofInt IntKind.u64.bits (n : Int) = BitVec.ofNat 64 n := BitVec.ofInt_natCast 64 n
theorem or_low (a b : Nat) (h : b < 128) : a * 128 ||| b = a * 128 + b := by
 rw [show a * 128 = 2 ^ 7 * a by omega, ← Nat.two_pow_add_eq_or_of_lt (i := 7) h]
theorem or_u64 (a b : Nat) (ha : a < 18446744073709551616) (hb : b < 18446744073709551616) : binI .or .u64 (a : Int) (b : Int) = some (.int .u64 ((a ||| b : Nat) : Int)) := by
 simp only [binI, ofInt64]
 have h1 : (BitVec.ofNat 64 a ||| BitVec.ofNat 64 b).toNat = a ||| b := by
  rw [BitVec.toNat_or, BitVec.toNat_ofNat, BitVec.toNat_ofNat, Nat.mod_eq_of_lt ha, Nat.mod_eq_of_lt hb]
 have h2 : a ||| b < 18446744073709551616 := Nat.or_lt_two_pow (n := 64) ha hb
 show some (DV.int .u64 (IntKind.u64.wrap (((BitVec.ofNat 64 a ||| BitVec.ofNat 64 b).toNat : Nat) : Int))) = _
 rw [h1, IntWalk.u64_in _ (by omega)]
theorem shl_u64 (a : Nat) (h : a < 4294967296) : shI .shl .u64 (a : Int) 7 = some (.int .u64 ((a * 128 : Nat) : Int)) := by
 show some (DV.int .u64 (IntKind.u64.wrap ((a : Int) * 2 ^ (min (7 : Int).toNat 64)))) = _
 rw [show (a : Int) * 2 ^ (min (7 : Int).toNat 64) = ((a * 128 : Nat) : Int) from by
  show (a : Int) * 128 = _
  omega, IntWalk.u64_in _ (by omega)]
theorem sevens_ok {H : Hp} {q i k : Nat} {s : List UInt8} (h : H q = mrd s i) (hi : i ≤ s.length) (hs : s.length ≤ 1000000000) (hk : sevF 0 0 (s.drop i) = some k) : CALL prog G 179 [.ptr q 0] H (fun d H' => d = .tup [.int .i64 k, .int .i64 0] ∧ H' = H) (fun _ _ => False) := by
 refine CALL.of cF179 (Nat.le_of_ble_eq_true rfl) ?_
 refine AC.seq (AC.reg ?_)
 refine go ?_
 refine RG.nilS (AC.seq (AC.reg ?_))
 refine go ?_
 refine RG.nilS (AC.seq (AC.seq (AC.drawP [9] rfl ?_)))
 first|refine VP.z0 0 ?_|refine VP.z1 0 ?_|refine VP.z2 0 ?_|refine VP.z3 0 ?_|refine VP.z4 0 ?_|refine VP.z5 0 ?_|refine VP.z6 0 ?_|refine VP.z7 0 ?_|refine VP.z8 0 ?_
 first|refine VP.z0 1 ?_|refine VP.z1 1 ?_|refine VP.z2 1 ?_|refine VP.z3 1 ?_|refine VP.z4 1 ?_|refine VP.z5 1 ?_|refine VP.z6 1 ?_|refine VP.z7 1 ?_|refine VP.z8 1 ?_
 first|refine VP.z0 2 ?_|refine VP.z1 2 ?_|refine VP.z2 2 ?_|refine VP.z3 2 ?_|refine VP.z4 2 ?_|refine VP.z5 2 ?_|refine VP.z6 2 ?_|refine VP.z7 2 ?_|refine VP.z8 2 ?_
 refine VP.v (d := .str s) 3 rfl (evP_ld rfl h rfl) ?_
 first|refine VP.z0 4 ?_|refine VP.z1 4 ?_|refine VP.z2 4 ?_|refine VP.z3 4 ?_|refine VP.z4 4 ?_|refine VP.z5 4 ?_|refine VP.z6 4 ?_|refine VP.z7 4 ?_|refine VP.z8 4 ?_
 first|refine VP.z0 5 ?_|refine VP.z1 5 ?_|refine VP.z2 5 ?_|refine VP.z3 5 ?_|refine VP.z4 5 ?_|refine VP.z5 5 ?_|refine VP.z6 5 ?_|refine VP.z7 5 ?_|refine VP.z8 5 ?_
 first|refine VP.z0 6 ?_|refine VP.z1 6 ?_|refine VP.z2 6 ?_|refine VP.z3 6 ?_|refine VP.z4 6 ?_|refine VP.z5 6 ?_|refine VP.z6 6 ?_|refine VP.z7 6 ?_|refine VP.z8 6 ?_
 refine VP.v (d := .int .i64 i) 7 rfl (evP_ld rfl h rfl) ?_
 refine VP.v (d := .str (s.drop i)) 8 rfl (by rw [evP_from (s := s) (i := (i : Nat)) rfl rfl (by omega), Int.toNat_natCast]) ?_
 generalize hl : s.drop i = l at hk ⊢
 have hll : l.length ≤ 1000000000 := by rw [← hl, List.length_drop]; omega
 first|refine VP.z0 11 ?_|refine VP.z1 11 ?_|refine VP.z2 11 ?_|refine VP.z3 11 ?_|refine VP.z4 11 ?_|refine VP.z5 11 ?_|refine VP.z6 11 ?_|refine VP.z7 11 ?_|refine VP.z8 11 ?_
 refine VP.pe (K := fun d H' => d = .lst (l.map B8) l.length 1 none ∧ H' = H) (Kp := fun _ _ => False) 9 rfl rfl (fun fr1 l' Q hs' k' _ => RG.st (ST.s2b ((hs' 15 (by decide)).trans rfl) (k' _ _ ⟨rfl, rfl⟩))) (fun _ _ _ h => h.elim) (fun d H' ⟨e1, e2⟩ => ?_)
 subst e1; subst e2
 refine ⟨?_, ?_⟩
 · exact (by (repeat (refine stabP_cons rfl (by first | exact StabP.of (QV.evP trivial rfl) rfl | exact StabP.of (QV.bsl trivial rfl) rfl | exact StabP.of (QV.evP trivial (evP_ld rfl h rfl)) rfl | exact StabP.of (QV.evP trivial ((by rw [evP_from (s := s) (i := (i : Nat)) rfl rfl (by omega), Int.toNat_natCast, hl]; rfl))) rfl) ?_)); exact stabP_nil)
 first|refine VP.z0 10 ?_|refine VP.z1 10 ?_|refine VP.z2 10 ?_|refine VP.z3 10 ?_|refine VP.z4 10 ?_|refine VP.z5 10 ?_|refine VP.z6 10 ?_|refine VP.z7 10 ?_|refine VP.z8 10 ?_
 refine VP.pd ?_
 refine AC.bloopH (α := Nat × Nat) (β := Unit) (fun a => l.length - a.1) (fun a => [(4, .int .u64 (a.2 : Nat)), (16, .lst (l.map B8) l.length 1 none), (17, .int .i64 l.length), (18, .int .i64 a.1)])
  (fun a H2 => H2 = H' ∧ a.1 ≤ l.length ∧ a.2 < 4294967296 ∧ sevF a.2 a.1 (l.drop a.1) = some k) (fun _ => []) (fun _ _ => False) ?_ ?_ (0, 0) _ ⟨rfl, Nat.zero_le _, by decide, hk⟩ ⟨rfl, rfl, rfl, rfl, trivial⟩
 · intro _ _ _ hf; exact hf.elim
 · rintro ⟨j, a⟩ H2 ⟨rfl, g1, g2, g3⟩ ih ex
   dsimp only at g1 g2 g3 ih ⊢
   refine AC.seq (AC.reg ?_)
   refine go ?_
   cases e1 : decide ((j : Int) < l.length)
   · have e := of_decide_eq_false e1
     rw [List.drop_eq_nil_of_le (by omega)] at g3
     cases g3
   have e := of_decide_eq_true e1
   have hj : j < l.length := by omega
   rw [List.drop_eq_getElem_cons hj, sevF] at g3
   have hat : partD false 0 1 ((l.map B8).drop (((j : Nat) : Int).toNat * 1)) = some (B8 l[j]) := partD_one (by rw [Int.toNat_natCast, List.getElem?_map, List.getElem?_eq_getElem hj]; rfl)
   generalize l[j] = c at g3 hat
   have hcl := c.toNat_lt
   cases b1 : j == 0 && c.toNat == 128
   case true => rw [b1] at g3; cases g3
   rw [b1, cond_false] at g3
   cases b2 : decide (4294967295 < a * 128 + c.toNat % 128)
   case true => rw [b2] at g3; cases g3
   rw [b2, cond_false] at g3
   have hb2 := of_decide_eq_false b2
   refine RG.nilS (AC.seq (AC.cond_t rfl (AC.skip (AC.seq (AC.block (AC.seq (AC.reg ?_)))))))
   refine go1 ?_
   refine RG.p .d (evP_iadr wh wh (by omega)) ?_
   refine RG.p (d := B8 c) .d (evP_ldc wh hat) ?_
   refine go ?_
   refine RG.nilS (AC.seqI (I := fun fr' H3 => H3 = H2 ∧ Agrees fr' [(4, .int .u64 a), (5, .int .i64 j), (6, B8 c), (16, .lst (l.map B8) l.length 1 none), (17, .int .i64 l.length), (18, .int .i64 j)]) (AC.seq (AC.reg ?_)) ?_)
   · refine go1 ?_
     refine RG.p (d := .bool (j == 0)) .d (by
      show some (DV.bool (((j : Nat) : Int) == 0)) = _
      congr 2
      rw [Bool.eq_iff_iff, beq_iff_eq, beq_iff_eq]; omega) ?_
     cases hj0 : j == 0
     · refine go ?_
       exact RG.nilS (AC.cond_f rfl (AC.skip ⟨rfl, rfl, rfl, rfl, rfl, rfl, rfl, trivial⟩))
     · rw [hj0, Bool.true_and] at b1
       refine go1 ?_
       refine go1 ?_
       refine RG.p (d := .bool false) .d (by
        show some (DV.bool (((c.toNat : Nat) : Int) == 128)) = _
        congr 2
        rw [beq_eq_false_iff_ne] at b1 ⊢; omega) ?_
       refine go ?_
       exact RG.nilS (AC.cond_f rfl (AC.skip ⟨rfl, rfl, rfl, rfl, rfl, rfl, rfl, trivial⟩))
   rintro fr3 H3 ⟨rfl, hf3⟩
   refine AC.to _ hf3 (AC.seq (AC.seq (AC.reg ?_)))
   refine go1 ?_
   refine RG.p (d := .int .u64 ((a * 128 : Nat) : Int)) .d (by
    show shI .shl .u64 ((a : Nat) : Int) 7 = _
    exact shl_u64 a g2) ?_
   refine go1 ?_
   refine RG.p (d := .int .u8 ((c.toNat % 128 : Nat) : Int)) .d (by
    show binI .and .u8 ((c.toNat : Nat) : Int) ((127 : Nat) : Int) = _
    rw [and_u8 _ _ hcl (by decide), low7]) ?_
   refine RG.p (d := .int .u64 ((c.toNat % 128 : Nat) : Int)) .d (by
    show some (DV.int .u64 (IntKind.u64.wrap ((c.toNat % 128 : Nat) : Int))) = _
    rw [IntWalk.u64_in _ (by omega)]) ?_
   refine RG.p (d := .int .u64 ((a * 128 + c.toNat % 128 : Nat) : Int)) .d (by
    show binI .or .u64 ((a * 128 : Nat) : Int) ((c.toNat % 128 : Nat) : Int) = _
    rw [or_u64 _ _ (by omega) (by omega), or_low _ _ (by omega)]) ?_
   refine go ?_
   refine RG.nilS (AC.seq (AC.reg ?_))
   refine go1 ?_
   refine RG.p (d := .bool false) .d (dF (P := ((a * 128 + c.toNat % 128 : Nat) : Int) > 4294967295) (by omega)) ?_
   refine RG.nilS (AC.cond_f rfl (AC.skip (AC.seq (AC.reg ?_))))
   refine go1 ?_
   refine RG.p (d := .bool (decide (c.toNat < 128))) .d (by
    show binI .lss .u8 ((c.toNat : Nat) : Int) ((128 : Nat) : Int) = _
    exact congrArg (fun x => some (DV.bool x)) (by rw [Bool.eq_iff_iff, decide_eq_true_eq, decide_eq_true_eq]; omega)) ?_
   cases b3 : decide (c.toNat < 128)
   · rw [b3, cond_false] at g3
     refine RG.nilS (AC.cond_f rfl (AC.skip (AC.reg ?_)))
     refine go ?_
     exact RG.nil (ih (j + 1, a * 128 + c.toNat % 128) _ ⟨rfl, by dsimp only; omega, by dsimp only; omega, g3⟩ (by dsimp only; omega) _ ⟨rfl, rfl, rfl, rfl, trivial⟩)
   · rw [b3, cond_true] at g3
     obtain rfl := Option.some.inj g3
     refine RG.nilS (AC.cond_t rfl (AC.seq (AC.reg ?_)))
     refine go ?_
     exact RG.nilS (AC.ret (fin rfl ⟨rfl, rfl⟩))
theorem mNumber_ok {H : Hp} {q i n : Nat} {s r : List UInt8} (h : H q = mrd s i) (hi : i ≤ s.length) (hs : s.length ≤ 1000000000) (hn : n < 4294967296) (hd : s.drop i = mbF n ++ r) :
  CALL prog G 122 [.ptr q 0] H (fun d H' => d = .int .u32 n ∧ H' = H.upd q (mrd s (i + (mbF n).length))) (fun _ _ => False) := by
 obtain ⟨hk, hv⟩ := sev_mb hn r
 have hlen : i + (mbF n).length ≤ s.length := by
  have := congrArg List.length hd
  rw [List.length_drop, List.length_append] at this; omega
 have hml := mbF_len n
 refine CALL.of cF122 (Nat.le_of_ble_eq_true rfl) ?_
 refine AC.seq (AC.reg ?_)
 refine go ?_
 refine RG.nilS (AC.seq (AC.reg ?_))
 refine go ?_
 refine RG.nilS (AC.seq (AC.seq (AC.reg ?_)))
 refine go1 ?_
 refine go1 ?_
 refine go1 ?_
 refine RG.callR .d rfl (take_ok h hlen hs (.inl ⟨_, _, _, rfl, sevens_ok h hi hs (by rw [hd]; exact hk)⟩)) ?_
 rw [hd, List.take_left]
 generalize hl : mbF n = l at hv hml ⊢
 refine RG.st (ST.s2b rfl ?_)
 refine go ?_
 refine RG.nilS ?_
 refine AC.bloopH (α := Nat × Nat) (β := Unit) (fun a => l.length - a.1) (fun a => [(3, .int .u32 (a.2 : Nat)), (10, .lst (l.map B8) l.length 1 none), (11, .int .i64 l.length), (12, .int .i64 a.1)])
  (fun a H2 => H2 = H.upd q (mrd s (i + l.length)) ∧ a.1 ≤ l.length ∧ nvF a.2 (l.drop a.1) = n) (fun _ => [(3, .int .u32 n)]) (fun _ H2 => H2 = H.upd q (mrd s (i + l.length))) ?_ ?_ (0, 0) _ ⟨rfl, Nat.zero_le _, hv⟩ ⟨rfl, rfl, rfl, rfl, trivial⟩
 · rintro _ He fr rfl hfr
   refine AC.to _ hfr (AC.seq (AC.reg ?_))
   refine go ?_
   exact RG.nilS (AC.ret (fin rfl ⟨rfl, rfl⟩))
 · rintro ⟨j, a⟩ H2 ⟨rfl, g1, g3⟩ ih ex
   dsimp only at g1 g3 ih ⊢
   refine AC.seq (AC.reg ?_)
   refine go ?_
   cases e1 : decide ((j : Int) < l.length)
   · have e := of_decide_eq_false e1
     rw [List.drop_eq_nil_of_le (by omega), nvF] at g3
     subst g3
     exact RG.nilS (AC.seq (AC.cond_f rfl (AC.exit (ex () _ _ rfl ⟨rfl, trivial⟩))))
   have e := of_decide_eq_true e1
   have hj : j < l.length := by omega
   rw [List.drop_eq_getElem_cons hj, nvF] at g3
   have hat : partD false 0 1 ((l.map B8).drop (((j : Nat) : Int).toNat * 1)) = some (B8 l[j]) := partD_one (by rw [Int.toNat_natCast, List.getElem?_map, List.getElem?_eq_getElem hj]; rfl)
   generalize l[j] = c at g3 hat
   have hcl := c.toNat_lt
   have hge := num_ge (l.drop (j + 1)) (a * 128 + c.toNat % 128)
   rw [g3] at hge
   refine RG.nilS (AC.seq (AC.cond_t rfl (AC.skip (AC.seq (AC.block (AC.seq (AC.reg ?_)))))))
   refine RG.p .d (evP_iadr wh wh (by omega)) ?_
   refine RG.p (d := B8 c) .d (evP_ldc wh hat) ?_
   refine go ?_
   refine RG.nilS (AC.reg ?_)
   refine go1 ?_
   refine RG.p (d := .int .u32 ((a * 128 : Nat) : Int)) .d (by
    show shI .shl .u32 ((a : Nat) : Int) ((7 : Nat) : Int) = _
    rw [shl_u32 a 7 (by decide) (by omega)]) ?_
   refine go1 ?_
   refine RG.p (d := .int .u8 ((c.toNat % 128 : Nat) : Int)) .d (by
    show binI .and .u8 ((c.toNat : Nat) : Int) ((127 : Nat) : Int) = _
    rw [and_u8 _ _ hcl (by decide), low7]) ?_
   refine RG.p (d := .int .u32 ((c.toNat % 128 : Nat) : Int)) .d (by
    show some (DV.int .u32 (IntKind.u32.wrap ((c.toNat % 128 : Nat) : Int))) = _
    rw [u32_wrap _ (by omega)]) ?_
   refine RG.p (d := .int .u32 ((a * 128 + c.toNat % 128 : Nat) : Int)) .d (by
    show binI .or .u32 ((a * 128 : Nat) : Int) ((c.toNat % 128 : Nat) : Int) = _
    rw [or_u32 _ _ (by omega) (by omega), or_low _ _ (by omega)]) ?_
   refine go ?_
   refine RG.nil (AC.reg ?_)
   refine go ?_
   exact RG.nil (ih (j + 1, a * 128 + c.toNat % 128) _ ⟨rfl, by dsimp only; omega, g3⟩ (by dsimp only; omega) _ ⟨rfl, rfl, rfl, rfl, trivial⟩)
theorem mBytes_ok {H : Hp} {q i n : Nat} {s : List UInt8} (h : H q = mrd s i) (hi : i + n ≤ s.length) (hs : s.length ≤ 1000000000) :
  CALL prog G 123 [.ptr q 0, .int .i64 n] H (fun d H' => d = .str ((s.drop i).take n) ∧ H' = H.upd q (mrd s (i + n))) (fun _ _ => False) := by
 refine CALL.of cF123 (Nat.le_of_ble_eq_true rfl) ?_
 refine AC.seq (AC.reg ?_)
 refine RG.box (d := .ptr q 0) (ys := [.ptr q 0]) .d rfl rfl fun b2 h2 => ?_
 refine RG.box (d := .int .i64 n) (ys := [.int .i64 n]) .d rfl rfl fun b3 h3 => ?_
 have hne : b3 ≠ b2 := fun e => by rw [e, Hp.upd_same] at h3; cases h3
 rw [Hp.upd_ne hne] at h3
 have hq2 : q ≠ b2 := fun e => by rw [e, h2] at h; cases h
 have hq3 : q ≠ b3 := fun e => by rw [e, h3] at h; cases h
 generalize hH2 : (H.upd b2 (some (.cells [.ptr q 0] 96))).upd b3 (some (.cells [.int .i64 n] 3)) = H2
 have hb2 : H2 b2 = some (.cells [.ptr q 0] 96) := by rw [← hH2, Hp.upd_ne (Ne.symm hne)]; exact Hp.upd_same
 have hb3 : H2 b3 = some (.cells [.int .i64 n] 3) := by rw [← hH2]; exact Hp.upd_same
 have hq : H2 q = mrd s i := by rw [← hH2, Hp.upd_ne hq3, Hp.upd_ne hq2]; exact h
 have hsub : SubH H H2 := by rw [← hH2]; exact (SubH.fresh h2).trans (SubH.fresh (by rw [Hp.upd_ne hne]; exact h3))
 have hcl : CALL prog G 180 [.ptr b2 0, .ptr b3 0] H2 (fun d H' => d = .tup [.int .i64 n, .int .i64 0] ∧ H' = H2) (fun _ _ => False) := by
  refine CALL.of cF180 (Nat.le_of_ble_eq_true rfl) ?_
  refine AC.seq (AC.reg ?_)
  refine go ?_
  refine RG.nilS (AC.seq (AC.reg ?_))
  refine RG.ld .d rfl hb2 (d := .ptr q 0) rfl ?_
  refine RG.ld .d rfl hb3 (d := .int .i64 n) rfl ?_
  refine RG.callR .d rfl (many_ok hq hi hs) ?_
  refine go ?_
  exact RG.nilS (AC.ret (fin rfl ⟨rfl, rfl⟩))
 refine go ?_
 refine RG.nilS (AC.seq (AC.reg ?_))
 refine RG.ld .d rfl hb2 (d := .ptr q 0) rfl ?_
 refine go1 ?_
 refine RG.callR .d rfl (take_ok hq hi hs (.inl ⟨_, _, _, rfl, hcl⟩)) ?_
 refine go ?_
 exact RG.nilS (AC.ret (finD (H' := H.upd q (mrd s (i + n))) rfl (SubH.both hsub) ⟨rfl, rfl⟩))
theorem index0 : ∀ (t r : List UInt8), t.all (fun c => !(c == 0)) = true → Lib.indexByte (t ++ 0 :: r) 0 = (t.length : Nat)
 | [], r, _ => rfl
 | c :: t, r, h => by
   simp only [List.all_cons, Bool.and_eq_true, Bool.not_eq_true'] at h
   have ih := index0 t r h.2
   rw [List.cons_append, Lib.indexByte, h.1, ih]
   have : ((t.length : Int) == -1) = false := by rw [beq_eq_false_iff_ne]; omega
   rw [this]
   simp
theorem line_ok {H : Hp} {q i : Nat} {s t r : List UInt8} (h : H q = mrd s i) (hi : i ≤ s.length) (hs : s.length ≤ 1000000000) (hd : s.drop i = t ++ 0 :: r) (ht : t.all (fun c => !(c == 0)) = true) :
  CALL prog G 213 [.ptr q 0] H (fun d H' => d = .tup [.int .i64 ((t.length + 1 : Nat) : Int), .int .i64 0] ∧ H' = H) (fun _ _ => False) := by
 have htl : t.length ≤ 1000000000 := by
  have := congrArg List.length hd
  rw [List.length_drop, List.length_append] at this; omega
 have hv : ∀ (fr : Fr), fr 8 = .str s → fr 12 = .int .i64 i → evP G fr H (.slcS (.t 8) (some (.t 12)) none) = some (.str (t ++ 0 :: r)) := fun fr h1 h2 => by
  rw [evP_from (s := s) (i := (i : Nat)) (show XV G fr (.t 8) = _ from h1) (show XV G fr (.t 12) = _ from h2) (by omega), Int.toNat_natCast, hd]
 refine CALL.of cF213 (Nat.le_of_ble_eq_true rfl) ?_
 refine AC.seq (AC.reg ?_)
 refine go ?_
 refine RG.nilS (AC.seq (AC.drawP [] rfl ?_))
 first|refine VP.z0 0 ?_|refine VP.z1 0 ?_|refine VP.z2 0 ?_|refine VP.z3 0 ?_|refine VP.z4 0 ?_|refine VP.z5 0 ?_|refine VP.z6 0 ?_|refine VP.z7 0 ?_|refine VP.z8 0 ?_
 first|refine VP.z0 1 ?_|refine VP.z1 1 ?_|refine VP.z2 1 ?_|refine VP.z3 1 ?_|refine VP.z4 1 ?_|refine VP.z5 1 ?_|refine VP.z6 1 ?_|refine VP.z7 1 ?_|refine VP.z8 1 ?_
 first|refine VP.z0 2 ?_|refine VP.z1 2 ?_|refine VP.z2 2 ?_|refine VP.z3 2 ?_|refine VP.z4 2 ?_|refine VP.z5 2 ?_|refine VP.z6 2 ?_|refine VP.z7 2 ?_|refine VP.z8 2 ?_
 refine VP.v (d := .str s) 3 rfl (evP_ld rfl h rfl) ?_
 first|refine VP.z0 4 ?_|refine VP.z1 4 ?_|refine VP.z2 4 ?_|refine VP.z3 4 ?_|refine VP.z4 4 ?_|refine VP.z5 4 ?_|refine VP.z6 4 ?_|refine VP.z7 4 ?_|refine VP.z8 4 ?_
 first|refine VP.z0 5 ?_|refine VP.z1 5 ?_|refine VP.z2 5 ?_|refine VP.z3 5 ?_|refine VP.z4 5 ?_|refine VP.z5 5 ?_|refine VP.z6 5 ?_|refine VP.z7 5 ?_|refine VP.z8 5 ?_
 first|refine VP.z0 6 ?_|refine VP.z1 6 ?_|refine VP.z2 6 ?_|refine VP.z3 6 ?_|refine VP.z4 6 ?_|refine VP.z5 6 ?_|refine VP.z6 6 ?_|refine VP.z7 6 ?_|refine VP.z8 6 ?_
 refine VP.v (d := .int .i64 i) 7 rfl (evP_ld rfl h rfl) ?_
 refine VP.v (d := .str (t ++ 0 :: r)) 8 rfl (hv _ rfl rfl) ?_
 refine VP.c 9 (indexByte_ok (t ++ 0 :: r) 0) ?_
 rw [index0 t r ht]
 first|refine VP.z0 10 ?_|refine VP.z1 10 ?_|refine VP.z2 10 ?_|refine VP.z3 10 ?_|refine VP.z4 10 ?_|refine VP.z5 10 ?_|refine VP.z6 10 ?_|refine VP.z7 10 ?_|refine VP.z8 10 ?_
 refine VP.pd (AC.seq (AC.seq (AC.reg ?_)))
 refine go1 ?_
 refine RG.p (d := .bool false) .d (dF (P := (t.length : Int) < 0) (by omega)) ?_
 refine RG.nilS (AC.cond_f rfl (AC.skip (AC.seq (AC.reg ?_))))
 refine go ?_
 exact RG.nilS (AC.ret (fin rfl ⟨rfl, rfl⟩))
theorem trim0_ok (t : List UInt8) (ht : t.length ≤ 1000000000) : PF prog G 212 [.str (t ++ [0]), .str [0]] (.str t) := by
 have h0 : PF prog G 237 [.str (t ++ [0]), .str [0]] (.bool true) := by
  intro H
  refine CALL.of cF237 (Nat.le_of_ble_eq_true rfl) ?_
  refine AC.seq (AC.reg ?_)
  refine go ?_
  refine RG.nilS (AC.seq (AC.reg ?_))
  refine go1 ?_
  refine go1 ?_
  refine go1 ?_
  refine go1 ?_
  refine RG.p (d := .bool true) .d (by
   show binI .geq .i64 (((t ++ [0]).length : Nat) : Int) ((([0] : List UInt8).length : Nat) : Int) = _
   exact dT (by rw [List.length_append]; simp only [List.length_singleton]; omega)) ?_
  refine go1 ?_
  refine go1 ?_
  refine go1 ?_
  refine go1 ?_
  refine go1 ?_
  refine go1 ?_
  refine RG.p (d := .int .i64 (t.length : Nat)) .d (by
   show some (DV.int .i64 (IntKind.wrap .i64 (((t ++ [0]).length : Int) - 1))) = _
   rw [List.length_append, List.length_singleton, IntWalk.i64_in _ (by omega)]
   congr 2; omega) ?_
  refine RG.p (d := .str [0]) .d (by
   rw [evP_from (s := t ++ [0]) (i := (t.length : Nat)) rfl rfl (by rw [List.length_append, List.length_singleton]; omega), Int.toNat_natCast, List.drop_left]) ?_
  refine go ?_
  exact RG.nilS (AC.ret (fin rfl ⟨rfl, rfl⟩))
 have h1 : PF prog G 231 [.str (t ++ [0]), .str [0]] (.str t) := by
  intro H
  refine CALL.of cF231 (Nat.le_of_ble_eq_true rfl) ?_
  refine AC.seq (AC.reg ?_)
  refine go ?_
  refine RG.nilS (AC.seq (AC.seq (AC.reg ?_)))
  refine go1 ?_
  refine go1 ?_
  refine RG.callP .d rfl h0 ?_
  refine RG.nilS (AC.cond_t rfl (AC.seq (AC.reg ?_)))
  refine go1 ?_
  refine go1 ?_
  refine go1 ?_
  refine go1 ?_
  refine go1 ?_
  refine RG.p (d := .int .i64 (t.length : Nat)) .d (by
   show some (DV.int .i64 (IntKind.wrap .i64 (((t ++ [0]).length : Int) - 1))) = _
   rw [List.length_append, List.length_singleton, IntWalk.i64_in _ (by omega)]
   congr 2; omega) ?_
  refine RG.p (d := .str t) .d (by
   rw [evP_upto (s := t ++ [0]) (i := (t.length : Nat)) rfl rfl (by rw [List.length_append, List.length_singleton]; omega), Int.toNat_natCast, List.take_left]) ?_
  refine go ?_
  exact RG.nilS (AC.ret (fin rfl ⟨rfl, rfl⟩))
 intro H
 refine CALL.of cF212 (Nat.le_of_ble_eq_true rfl) ?_
 refine AC.seq (AC.reg ?_)
 refine go ?_
 refine RG.nilS (AC.seq (AC.reg ?_))
 refine go1 ?_
 refine go1 ?_
 refine RG.callP .d rfl h1 ?_
 refine go ?_
 exact RG.nilS (AC.ret (fin rfl ⟨rfl, rfl⟩))
theorem mText_ok {H : Hp} {q i : Nat} {s t r : List UInt8} (h : H q = mrd s i) (hi : i ≤ s.length) (hs : s.length ≤ 1000000000) (hd : s.drop i = t ++ 0 :: r) (ht : t.all (fun c => !(c == 0)) = true) :
  CALL prog G 181 [.ptr q 0] H (fun d H' => d = .str t ∧ H' = H.upd q (mrd s (i + (t.length + 1)))) (fun _ _ => False) := by
 have hl := congrArg List.length hd
 rw [List.length_drop, List.length_append, List.length_cons] at hl
 have htk : (s.drop i).take (t.length + 1) = t ++ [0] := by
  rw [hd, show t ++ 0 :: r = (t ++ [0]) ++ r by simp, show t.length + 1 = (t ++ [0]).length by simp, List.take_left]
 refine CALL.of cF181 (Nat.le_of_ble_eq_true rfl) ?_
 refine AC.seq (AC.reg ?_)
 refine go ?_
 refine RG.nilS (AC.seq (AC.reg ?_))
 refine go1 ?_
 refine go1 ?_
 refine go1 ?_
 refine RG.callR .d rfl (take_ok (n := t.length + 1) h (by omega) hs (.inl ⟨_, _, _, rfl, line_ok h hi hs hd ht⟩)) ?_
 rw [htk]
 refine RG.callP .d rfl (trim0_ok t (by omega)) ?_
 refine go ?_
 exact RG.nilS (AC.ret (fin rfl ⟨rfl, rfl⟩))
theorem New_ok (s : List UInt8) (H : Hp) : CALL prog G 56 [.str s] H (fun d H' => ∃ q, d = .ptr q 0 ∧ H q = none ∧ H' = H.upd q (mrd s 0)) (fun _ _ => False) := by
 refine CALL.of cF56 (Nat.le_of_ble_eq_true rfl) ?_
 refine AC.seq (AC.reg ?_)
 refine go ?_
 refine RG.nilS (AC.seq (AC.reg ?_))
 refine go ?_
 refine RG.box (d := .agg [.str s, .int .i64 0, .int .i64 0]) (ys := [.str s, .int .i64 0, .int .i64 0]) .d rfl rfl fun q hq => ?_
 refine go ?_
 exact RG.nilS (AC.ret (fin rfl ⟨q, rfl, hq, rfl⟩))
end Go.Run.Tryz
