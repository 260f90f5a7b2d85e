/- Part 7 of a proof: texts N16 N17 N18 N19 N20 N21. -/
import Derived.Test.YthmjdmianbobbaaGreatDoorVF
namespace Go.Run.Tryz
open Go Go.Run Go.RowKit
open Go.Proofs.Tryz (prog)
def F38 : FN := ⟨31, (.seq (.reg [ji 1 (.box 24 (.t 0)), ji 2 (.mv (ci 0))])
 (.seq (.reg [ji 3 (.alloc [(.int .i64 0)] 3), ji 4 (.alloc [(.int .i64 0)] 3), ji 5 (.alloc [(.int .i64 0)] 29), jn (.st 1 (.t 3) (ci 0)), jn (.st 1 (.t 4) (ci 0)), jn (.st 1 (.t 5) (ci 0))])
 (.seq (.seq (.reg [ji 8 (.ld true 5 (.t 1)), ji 9 (.call 96 [(.t 8), (ci 13)])])
 (.block 0 (.rng (.t 9) [10, 11] (.seq (.reg [ji 6 (.mv (.t 10))])
 (.reg [ji 7 (.alloc [(.int .i64 0), (.str []), (.str []), (.bool false), .nils] 24), jn (.st 5 (.t 7) (.t 11))]))
 (.block 1 (.seq (.reg [ji 12 (.ld false 1 (.t 4)), ji 13 (.mv (.t 6)), ji 14 (.mx (.t 12) (.t 13)), jn (.st 1 (.t 4) (.t 14))])
 (.seq (.seq (.reg [ji 15 (.ld false 1 (.t 5)), ji 16 (.bin .eql (.t 15) (ci 0))])
 (.cond (.t 16) (.reg [ji 17 (.ld true 5 (.t 7)), ji 18 (.call 97 [(.t 17)]), jn (.st 1 (.t 5) (.t 18))])
 .skip))
 (.seq (.reg [ji 19 (.ld false 1 (.t 3)), ji 20 (.bin .add (.t 19) (ci 1)), jn (.st 1 (.t 3) (.t 20))])
 (.seq (.reg [ji 21 (.ld false 1 (.t 3)), ji 22 (.bin .eql (.t 21) (ci 5000))])
 (.cond (.t 22) (.exit 0)
 .skip)))))))))
 (.seq (.block 2 (.seq (.reg [ji 24 (.ld false 1 (.t 4)), ji 25 (.bin .gtr (.t 24) (ci 12)), ji 23 (.mv (.t 25))])
 (.cond (.t 23) (.seq (.reg [ji 2 (.mv (ci 9))])
 .ret)
 (.seq (.reg [ji 27 (.ld true 5 (.t 1)), ji 28 (.call 98 [(.t 27)]), ji 29 (.bin .gtr (.t 28) (ci 2000)), ji 26 (.mv (.t 29))])
 (.cond (.t 26) (.seq (.reg [ji 2 (.mv (ci 4))])
 .ret)
 .skip)))))
 (.seq (.reg [ji 30 (.ld false 1 (.t 5)), ji 2 (.mv (.t 30))])
 .ret))))), [.tmp 2]⟩
theorem cF38 : cFn prog 38 = some F38 := by kernel_rfl
variable {G : Gl}
def stepC (s : Nat × Nat × Int) (d : Nat) (x : El) : (Nat × Nat × Int) × Bool := ((s.1 + 1, max s.2.1 d, bif s.2.2 == 0 then check1 x else s.2.2), !(s.1 + 1 == 5000))
def maxF : Nat → List (Nat × El) → Nat
 | m, [] => m
 | m, p :: l => maxF (max m p.1) l
def errF : Int → List (Nat × El) → Int
 | f, [] => f
 | f, p :: l => errF (bif f == 0 then check1 p.2 else f) l
theorem runC : ∀ (l : List (Nat × El)) (n m : Nat) (f : Int), n < 5000 → (runL stepC (n, m, f) l).1 = (n + (l.take (5000 - n)).length, maxF m (l.take (5000 - n)), errF f (l.take (5000 - n)))
 | [], n, m, f, _ => by simp [runL, maxF, errF]
 | p :: l, n, m, f, h => by
   rw [runL]
   obtain ⟨q, hq⟩ : ∃ q, 5000 - n = q + 1 := ⟨5000 - n - 1, by omega⟩
   rw [hq, List.take_succ_cons, List.length_cons, maxF, errF]
   cases e : n + 1 == 5000
   · have hne : n + 1 ≠ 5000 := by simpa using e
     have := runC l (n + 1) (max m p.1) (bif f == 0 then check1 p.2 else f) (by omega)
     simp only [stepC, e, Bool.not_false, cond_true, this, show 5000 - (n + 1) = q by omega]
     rw [show n + 1 + (List.take q l).length = n + ((List.take q l).length + 1) by omega]
   · have heq : n + 1 = 5000 := by simpa using e
     have : q = 0 := by omega
     subst this
     simp only [stepC, e, Bool.not_true, cond_false, List.take_zero, List.length_nil, maxF, errF]
theorem maxF_any : ∀ (l : List (Nat × El)) (m : Nat), decide (12 < maxF m l) = (decide (12 < m) || l.any (fun p => decide (12 < p.1)))
 | [], m => by rw [List.any_nil, Bool.or_false]; rfl
 | p :: l, m => by
   rw [maxF, maxF_any l, List.any_cons, ← Bool.or_assoc]
   congr 1
   rw [Bool.eq_iff_iff]
   simp only [decide_eq_true_eq, Bool.or_eq_true]
   omega
theorem errF_first : ∀ (l : List (Nat × El)) (f : Int), errF f l = bif f == 0 then firstErr l else f
 | [], f => by
   cases e : f == 0
   · rfl
   · have : f = 0 := by simpa using e
     subst this; rfl
 | p :: l, f => by
   rw [errF, errF_first l]
   cases e : f == 0
   · simp only [cond_false, e]
   · simp only [cond_true, firstErr]
def chkX (H : Hp) (be bn bd bf : Nat) (e : El) (s : Nat × Nat × Int) : Hp :=
 (((H.upd be (some (.cells (elC e) elT))).upd bn (some (.cells [.int .i64 s.1] 3))).upd bd (some (.cells [.int .i64 s.2.1] 3))).upd bf (some (.cells [.int .i64 s.2.2] 29))
section
variable {H : Hp} {be bn bd bf q l : Nat} {e : El} {K L : Option DO}
def chkY (H : Hp) (be bn bd bf q l : Nat) (e : El) (K L : Option DO) (s : Nat × Nat × Int) : Hp := ((chkX H be bn bd bf e s).upd q K).upd l L
structure Apart (H : Hp) (be bn bd bf l : Nat) : Prop where
 a1 : bn ≠ be
 a2 : bd ≠ bn
 a3 : bd ≠ be
 a4 : bf ≠ bd
 a5 : bf ≠ bn
 a6 : bf ≠ be
 l1 : l ≠ bf
 l2 : l ≠ bd
 l3 : l ≠ bn
 l4 : l ≠ be
theorem chkY_setN (h : Apart H be bn bd bf l) (hq : Apart H be bn bd bf q) (s : Nat × Nat × Int) (n : Nat) : (chkY H be bn bd bf q l e K L s).upd bn (some (.cells [.int .i64 n] 3)) = chkY H be bn bd bf q l e K L (n, s.2) := by
 simp only [chkY, chkX]
 rw [Hp.upd_comm h.l3, Hp.upd_comm hq.l3, Hp.upd_comm h.a5, Hp.upd_comm h.a2, Hp.upd_upd]
theorem chkY_setD (h : Apart H be bn bd bf l) (hq : Apart H be bn bd bf q) (s : Nat × Nat × Int) (m : Nat) : (chkY H be bn bd bf q l e K L s).upd bd (some (.cells [.int .i64 m] 3)) = chkY H be bn bd bf q l e K L (s.1, m, s.2.2) := by
 simp only [chkY, chkX]
 rw [Hp.upd_comm h.l2, Hp.upd_comm hq.l2, Hp.upd_comm h.a4, Hp.upd_upd]
theorem chkY_setF (h : Apart H be bn bd bf l) (hq : Apart H be bn bd bf q) (s : Nat × Nat × Int) (f : Int) : (chkY H be bn bd bf q l e K L s).upd bf (some (.cells [.int .i64 f] 29)) = chkY H be bn bd bf q l e K L (s.1, s.2.1, f) := by
 simp only [chkY, chkX]
 rw [Hp.upd_comm h.l1, Hp.upd_comm hq.l1, Hp.upd_upd]
theorem chkY_setL (s : Nat × Nat × Int) (L' : Option DO) : (chkY H be bn bd bf q l e K L s).upd l L' = chkY H be bn bd bf q l e K L' s := Hp.upd_upd
theorem chkX_n (h : Apart H be bn bd bf l) (s : Nat × Nat × Int) : chkX H be bn bd bf e s bn = some (.cells [.int .i64 s.1] 3) := by
 rw [chkX, Hp.upd_ne (Ne.symm h.a5), Hp.upd_ne (Ne.symm h.a2)]; exact Hp.upd_same
theorem chkX_d (h : Apart H be bn bd bf l) (s : Nat × Nat × Int) : chkX H be bn bd bf e s bd = some (.cells [.int .i64 s.2.1] 3) := by
 rw [chkX, Hp.upd_ne (Ne.symm h.a4)]; exact Hp.upd_same
theorem chkX_f (s : Nat × Nat × Int) : chkX H be bn bd bf e s bf = some (.cells [.int .i64 s.2.2] 29) := Hp.upd_same
theorem chkX_e (h : Apart H be bn bd bf l) (s : Nat × Nat × Int) : chkX H be bn bd bf e s be = some (.cells (elC e) elT) := by
 rw [chkX, Hp.upd_ne (Ne.symm h.a6), Hp.upd_ne (Ne.symm h.a3), Hp.upd_ne (Ne.symm h.a1)]; exact Hp.upd_same
theorem chkY_n (h : Apart H be bn bd bf l) (hq : Apart H be bn bd bf q) (s : Nat × Nat × Int) : chkY H be bn bd bf q l e K L s bn = some (.cells [.int .i64 s.1] 3) := by
 rw [chkY, Hp.upd_ne (Ne.symm h.l3), Hp.upd_ne (Ne.symm hq.l3)]; exact chkX_n h s
theorem chkY_d (h : Apart H be bn bd bf l) (hq : Apart H be bn bd bf q) (s : Nat × Nat × Int) : chkY H be bn bd bf q l e K L s bd = some (.cells [.int .i64 s.2.1] 3) := by
 rw [chkY, Hp.upd_ne (Ne.symm h.l2), Hp.upd_ne (Ne.symm hq.l2)]; exact chkX_d h s
theorem chkY_f (h : Apart H be bn bd bf l) (hq : Apart H be bn bd bf q) (s : Nat × Nat × Int) : chkY H be bn bd bf q l e K L s bf = some (.cells [.int .i64 s.2.2] 29) := by
 rw [chkY, Hp.upd_ne (Ne.symm h.l1), Hp.upd_ne (Ne.symm hq.l1)]; exact chkX_f s
theorem chkY_q (hql : q ≠ l) (s : Nat × Nat × Int) : chkY H be bn bd bf q l e K L s q = K := by
 rw [chkY, Hp.upd_ne hql]; exact Hp.upd_same
theorem chkX_free {s : Nat × Nat × Int} {k : Nat} (hk : chkX H be bn bd bf e s k = none) : k ≠ bf ∧ k ≠ bd ∧ k ≠ bn ∧ k ≠ be ∧ H k = none := by
 rw [chkX] at hk
 have m1 : k ≠ bf := fun e => by rw [e, Hp.upd_same] at hk; cases hk
 rw [Hp.upd_ne m1] at hk
 have m2 : k ≠ bd := fun e => by rw [e, Hp.upd_same] at hk; cases hk
 rw [Hp.upd_ne m2] at hk
 have m3 : k ≠ bn := fun e => by rw [e, Hp.upd_same] at hk; cases hk
 rw [Hp.upd_ne m3] at hk
 have m4 : k ≠ be := fun e => by rw [e, Hp.upd_same] at hk; cases hk
 rw [Hp.upd_ne m4] at hk
 exact ⟨m1, m2, m3, m4, hk⟩
theorem chkX_none {s : Nat × Nat × Int} {k : Nat} (h : k ≠ bf ∧ k ≠ bd ∧ k ≠ bn ∧ k ≠ be ∧ H k = none) : chkX H be bn bd bf e s k = none := by
 obtain ⟨h1, h2, h3, h4, h5⟩ := h
 rw [chkX, Hp.upd_ne h1, Hp.upd_ne h2, Hp.upd_ne h3, Hp.upd_ne h4]; exact h5
end
def chkH (H : Hp) (be bn bd bf l : Nat) (e : El) (asg bdy : Code) (fr : Fr) (s : Nat × Nat × Int) : Hp :=
 (chkX H be bn bd bf e s).upd l (some (.loop F38.N [10, 11] asg bdy fr (bif s.1 == 5000 then .done else .ready) (bif s.1 == 5000 then some (.exit 0) else none)))
theorem chk_yok (hG : GOK G) {H : Hp} {be bn bd bf l : Nat} {e : El} {asg bdy : Code} {fr : Fr} (ha : Apart H be bn bd bf l) (f3 : fr 3 = .ptr bn 0) (f4 : fr 4 = .ptr bd 0) (f5 : fr 5 = .ptr bf 0)
  (has : cCode prog F38.N asg = some (rngA F38.c)) (hbdy : cCode prog F38.N bdy = some (rngB F38.c)) :
  YOK G (.func (.yield l) [] []) stepC (chkH H be bn bd bf l e asg bdy fr) (fun s => s.1 < 5000) := by
 rintro ⟨n, m, f⟩ d x hok hd
 dsimp only at hok
 have en : (n == 5000) = false := by simp; omega
 refine ⟨.inr ⟨l, rfl, ?_⟩, fun hs => ?_⟩
 · have hl0 : chkH H be bn bd bf l e asg bdy fr (n, m, f) l = some (.loop F38.N [10, 11] asg bdy fr .ready none) := by simp only [chkH, en]; exact Hp.upd_same
   refine YLD.of (N := F38.N) (ps := [10, 11]) (bd := bdy) (fr := fr) hl0 rfl has hbdy ?_
   refine AC.seq (AC.reg ?_)
   refine go ?_
   refine RG.nilS (AC.reg ?_)
   refine RG.alloc .d fun q hq => ?_
   have hql : q ≠ l := fun e => by rw [e, hl0] at hq; cases hq
   have hq2 : chkX H be bn bd bf e (n, m, f) q = none := by rw [chkH, Hp.upd_ne hql] at hq; exact hq
   have hqs := chkX_free hq2
   have hqa : Apart H be bn bd bf q := ⟨ha.a1, ha.a2, ha.a3, ha.a4, ha.a5, ha.a6, hqs.1, hqs.2.1, hqs.2.2.1, hqs.2.2.2.1⟩
   obtain ⟨p', n', t', o', ks'⟩ := x
   have he' : elC (.mk p' n' t' o' ks') = [.int .i64 p', .str n', .str t', .bool o', .lst (elsC ks') ks'.length 5 none] := by rw [elC]
   refine RG.sto (cs := [.int .i64 0, .str [], .str [], .bool false, .nils]) (ty := elT) (d := .agg (elC (.mk p' n' t' o' ks'))) (ys := elC (.mk p' n' t' o' ks')) .d wh Hp.upd_same wh rfl (elC_length _) (by exact Nat.le_refl _) ?_
   have hsp : spliceL 0 (elC (.mk p' n' t' o' ks')) [.int .i64 0, .str [], .str [], .bool false, .nils] = elC (.mk p' n' t' o' ks') := by rw [he']; rfl
   rw [hsp, Hp.upd_upd]
   refine RG.nil ⟨rfl, by rw [Hp.upd_ne (Ne.symm hql)]; exact hl0, ?_⟩
   have hHH : ((chkH H be bn bd bf l e asg bdy fr (n, m, f)).upd q (some (.cells (elC (.mk p' n' t' o' ks')) elT))).upd l (some (.loop F38.N [10, 11] asg bdy fr .busy none)) =
     chkY H be bn bd bf q l e (some (.cells (elC (.mk p' n' t' o' ks')) elT)) (some (.loop F38.N [10, 11] asg bdy fr .busy none)) (n, m, f) := by
    rw [chkH, chkY, Hp.upd_comm (Ne.symm hql), Hp.upd_upd]
   rw [hHH]
   generalize hK : some (DO.cells (elC (.mk p' n' t' o' ks')) elT) = K
   generalize hL : some (DO.loop F38.N [10, 11] asg bdy fr .busy none) = L
   refine AC.to [(3, .ptr bn 0), (4, .ptr bd 0), (5, .ptr bf 0), (6, .int .i64 d), (7, .ptr q 0)] ⟨f3, f4, f5, rfl, rfl, trivial⟩ ?_
   refine AC.block (AC.seq (AC.reg ?_))
   refine RG.ld .d wh (chkY_d ha hqa _) (d := .int .i64 m) rfl ?_
   refine go1 ?_
   refine RG.p (d := .int .i64 ((max m d : Nat) : Int)) .d (by
    show some (DV.int .i64 (if (d : Int) > (m : Int) then (d : Int) else (m : Int))) = _
    congr 2
    split <;> omega) ?_
   refine RG.sto1 .d wh (chkY_d ha hqa _) wh rfl ?_
   rw [chkY_setD ha hqa]
   dsimp only
   refine RG.nilS ?_
   refine AC.seqA (l := [(3, .ptr bn 0)]) (H' := chkY H be bn bd bf q l e K L (n, max m d, bif f == 0 then check1 (.mk p' n' t' o' ks') else f)) (AC.seq (AC.reg ?_)) ?_
   · refine RG.ld .d wh (chkY_f ha hqa _) (d := .int .i64 f) rfl ?_
     refine go ?_
     cases ef : f == 0
     · exact RG.nilS (AC.cond_f rfl (AC.skip ⟨rfl, rfl, trivial⟩))
     · have : f = 0 := by simpa using ef
       subst this
       refine RG.nilS (AC.cond_t rfl (AC.reg ?_))
       refine RG.ld (cs := elC (.mk p' n' t' o' ks')) (ty := elT) .d wh (by rw [chkY_q hql]; exact hK.symm) (d := .agg (elC (.mk p' n' t' o' ks'))) (by rw [he']; rfl) ?_
       refine RG.callP .d rfl (check1_call hG _) ?_
       refine RG.sto1 .d wh (chkY_f ha hqa _) wh rfl ?_
       rw [chkY_setF ha hqa]
       exact RG.nil ⟨rfl, rfl, trivial⟩
   generalize hf' : (bif f == 0 then check1 (.mk p' n' t' o' ks') else f) = f'
   refine AC.seq (AC.reg ?_)
   refine RG.ld .d wh (chkY_n ha hqa _) (d := .int .i64 n) rfl ?_
   refine go1 ?_
   refine RG.sto1 (d := .int .i64 ((n + 1 : Nat) : Int)) .d wh (chkY_n ha hqa _) (by exact rfl) rfl ?_
   rw [chkY_setN ha hqa]
   refine RG.nilS (AC.seq (AC.reg ?_))
   refine RG.ld .d wh (chkY_n ha hqa _) (d := .int .i64 ((n + 1 : Nat) : Int)) rfl ?_
   refine RG.p (d := .bool (n + 1 == 5000)) .d (by
    show some (DV.bool (((n + 1 : Nat) : Int) == 5000)) = _
    congr 2
    rw [Bool.eq_iff_iff]; simp only [beq_iff_eq]; omega) ?_
   have hsub : ∀ L' s', SubH ((chkX H be bn bd bf e s').upd l L') (chkY H be bn bd bf q l e K L' s') := fun L' s' => by
    rw [chkY, Hp.upd_comm hql]
    exact SubH.fresh (by rw [Hp.upd_ne hql]; exact chkX_none hqs)
   cases en1 : n + 1 == 5000
   · refine RG.nilS (AC.cond_f rfl (AC.skip ⟨by rw [hL]; exact Hp.upd_same, chkH H be bn bd bf l e asg bdy fr (n + 1, max m d, f'), ?_, by simp only [stepC, en1]; rfl, by simp only [stepC, hf']⟩))
     rw [chkY_setL]
     simp only [chkH, en1, cond_false]
     exact hsub _ _
   · refine RG.nilS (AC.cond_t rfl (AC.exit ⟨by rw [hL]; exact Hp.upd_same, chkH H be bn bd bf l e asg bdy fr (n + 1, max m d, f'), ?_, by simp only [stepC, en1]; rfl, by simp only [stepC, hf']⟩))
     rw [chkY_setL]
     simp only [chkH, en1, cond_true]
     exact hsub _ _
 · have : (n + 1 == 5000) = false := by simpa [stepC] using hs
   have hne : n + 1 ≠ 5000 := by simpa using this
   simp only [stepC]; omega
theorem Check_ok (hG : GOK G) (e : El) (hfit : fits e) : PF prog G 38 [.agg (elC e)] (.int .i64 (checkF e)) := by
 intro H
 refine CALL.of cF38 (Nat.le_of_ble_eq_true rfl) ?_
 refine AC.seq (AC.reg ?_)
 refine RG.box .d rfl rfl fun be hbe => ?_
 refine go ?_
 refine RG.nilS (AC.seq (AC.reg ?_))
 refine RG.alloc .d fun bn hbn => ?_
 have hne1 : bn ≠ be := fun e => by rw [e, Hp.upd_same] at hbn; cases hbn
 rw [Hp.upd_ne hne1] at hbn
 refine RG.alloc .d fun bd hbd => ?_
 have hne2 : bd ≠ bn := fun e => by rw [e, Hp.upd_same] at hbd; cases hbd
 rw [Hp.upd_ne hne2] at hbd
 have hne3 : bd ≠ be := fun e => by rw [e, Hp.upd_same] at hbd; cases hbd
 rw [Hp.upd_ne hne3] at hbd
 refine RG.alloc .d fun bf hbf => ?_
 have hne4 : bf ≠ bd := fun e => by rw [e, Hp.upd_same] at hbf; cases hbf
 rw [Hp.upd_ne hne4] at hbf
 have hne5 : bf ≠ bn := fun e => by rw [e, Hp.upd_same] at hbf; cases hbf
 rw [Hp.upd_ne hne5] at hbf
 have hne6 : bf ≠ be := fun e => by rw [e, Hp.upd_same] at hbf; cases hbf
 rw [Hp.upd_ne hne6] at hbf
 have hHX : ((((H.upd be (some (.cells (elC e) 24))).upd bn (some (.cells [.int .i64 0] 3))).upd bd (some (.cells [.int .i64 0] 3))).upd bf (some (.cells [.int .i64 0] 29))) = chkX H be bn bd bf e (0, 0, 0) := rfl
 rw [hHX]
 refine RG.sto1 (ty := 3) .d wh (by rw [← hHX]; exact (by repeat (first | exact Hp.upd_same | assumption | rw [Hp.upd_ne (by omega)]))) wh rfl ?_
 rw [Hp.upd_id (by rw [← hHX]; exact (by repeat (first | exact Hp.upd_same | assumption | rw [Hp.upd_ne (by omega)])))]
 refine RG.sto1 (ty := 3) .d wh (by rw [← hHX]; exact (by repeat (first | exact Hp.upd_same | assumption | rw [Hp.upd_ne (by omega)]))) wh rfl ?_
 rw [Hp.upd_id (by rw [← hHX]; exact (by repeat (first | exact Hp.upd_same | assumption | rw [Hp.upd_ne (by omega)])))]
 refine RG.sto1 (ty := 29) .d wh (by rw [← hHX]; exact (by repeat (first | exact Hp.upd_same | assumption | rw [Hp.upd_ne (by omega)]))) wh rfl ?_
 rw [Hp.upd_id (by rw [← hHX]; exact (by repeat (first | exact Hp.upd_same | assumption | rw [Hp.upd_ne (by omega)])))]
 refine RG.nilS (AC.seq (AC.seq (AC.reg ?_)))
 refine RG.ld (cs := elC e) (ty := elT) .d wh (by rw [← hHX]; exact (by repeat (first | exact Hp.upd_same | assumption | rw [Hp.upd_ne (by omega)]))) (d := .agg (elC e)) (by obtain ⟨p, n, t, o, ks⟩ := e; rw [elC]; rfl) ?_
 refine RG.call .d rfl (within_ok e 13 _) (fun r H' ⟨b1, b2, h1, h2, h3, h4, h5⟩ => ?_) (fun _ _ h => h.elim)
 subst h4; subst h5
 obtain ⟨p1, p2, p3, p4, p5⟩ := chkX_free h1
 obtain ⟨q1, q2, q3, q4, q5⟩ := chkX_free h2
 refine RG.nilS (AC.block ?_)
 generalize hfr : Fr.put _ (some 9) _ = fr
 have f1 : fr 1 = .ptr be 0 := by rw [← hfr]; rfl
 have f3 : fr 3 = .ptr bn 0 := by rw [← hfr]; rfl
 have f4 : fr 4 = .ptr bd 0 := by rw [← hfr]; rfl
 have f5 : fr 5 = .ptr bf 0 := by rw [← hfr]; rfl
 have f9 : fr 9 = .func (.func 154) [] [.ptr b1 0, .ptr b2 0] := by rw [← hfr]; rfl
 clear hfr
 refine AC.rng f9 fun l asg bdy has hbdy hl => ?_
 have m1 : l ≠ b2 := fun e => by rw [e, wH, Hp.upd_same] at hl; cases hl
 rw [wH, Hp.upd_ne m1] at hl
 have m2 : l ≠ b1 := fun e => by rw [e, Hp.upd_same] at hl; cases hl
 rw [Hp.upd_ne m2] at hl
 obtain ⟨l1, l2, l3, l4, l5⟩ := chkX_free hl
 have ha : Apart H be bn bd bf l := ⟨hne1, hne2, hne3, hne4, hne5, hne6, l1, l2, l3, l4⟩
 have hy := chk_yok hG (H := H) (e := e) (asg := asg) (bdy := bdy) ha f3 f4 f5 has hbdy
 have h0 : (wH (chkX H be bn bd bf e (0, 0, 0)) b1 b2 e 13).upd l (some (.loop F38.N [10, 11] asg bdy fr .ready none)) = wH (chkH H be bn bd bf l e asg bdy fr (0, 0, 0)) b1 b2 e 13 := by
  simp only [wH, chkH]
  rw [Hp.upd_comm (Ne.symm m1), Hp.upd_comm (Ne.symm m2)]
  rfl
 have hb1 : ∀ s, chkH H be bn bd bf l e asg bdy fr s b1 = none := fun s => by rw [chkH, Hp.upd_ne (Ne.symm m2)]; exact chkX_none ⟨p1, p2, p3, p4, p5⟩
 have hb2 : ∀ s, chkH H be bn bd bf l e asg bdy fr s b2 = none := fun s => by rw [chkH, Hp.upd_ne (Ne.symm m1)]; exact chkX_none ⟨q1, q2, q3, q4, q5⟩
 have hc := within1_ok hy 13 (by omega) e hfit (0, 0, 0) (by simp) (hb1 _) (hb2 _) h3
 have hR := runC (pre 13 e 1) 0 0 0 (by omega)
 generalize runL stepC (0, 0, 0) (pre 13 e 1) = R at hc hR
 have hlk : (pre 13 e 1).take (5000 - 0) = looked e := rfl
 rw [hlk, Nat.zero_add] at hR
 have hR2 : R.1.2.1 = maxF 0 (looked e) := by rw [hR]
 have hR3 : R.1.2.2 = errF 0 (looked e) := by rw [hR]
 clear hR
 generalize hS : R.1 = S at hc hR2 hR3
 have hnext : ∀ H2, H2 = wH (chkH H be bn bd bf l e asg bdy fr S) b1 b2 e 13 → AC prog G none F38.N (.seq (.block 2 (.seq (.reg [ji 24 (.ld false 1 (.t 4)), ji 25 (.bin .gtr (.t 24) (ci 12)), ji 23 (.mv (.t 25))])
 (.cond (.t 23) (.seq (.reg [ji 2 (.mv (ci 9))])
 .ret)
 (.seq (.reg [ji 27 (.ld true 5 (.t 1)), ji 28 (.call 98 [(.t 27)]), ji 29 (.bin .gtr (.t 28) (ci 2000)), ji 26 (.mv (.t 29))])
 (.cond (.t 26) (.seq (.reg [ji 2 (.mv (ci 4))])
 .ret)
 .skip)))))
 (.seq (.reg [ji 30 (.ld false 1 (.t 5)), ji 2 (.mv (.t 30))])
 .ret)) (Fin F38.rs (fun d' H' => d' = .int .i64 (checkF e) ∧ H' = H) (fun _ _ => False)) fr (H2.upd l none) := by
  rintro H2 rfl
  have hsub : SubH H ((wH (chkH H be bn bd bf l e asg bdy fr S) b1 b2 e 13).upd l none) := by
   intro k o hk
   have k1 : k ≠ l := fun e => by rw [e, l5] at hk; cases hk
   have k2 : k ≠ b2 := fun e => by rw [e, q5] at hk; cases hk
   have k3 : k ≠ b1 := fun e => by rw [e, p5] at hk; cases hk
   have k4 : k ≠ bn := fun e => by rw [e, hbn] at hk; cases hk
   have k5 : k ≠ be := fun e => by rw [e, hbe] at hk; cases hk
   have k6 : k ≠ bd := fun e => by rw [e, hbd] at hk; cases hk
   have k7 : k ≠ bf := fun e => by rw [e, hbf] at hk; cases hk
   rw [wH, Hp.upd_ne k1, Hp.upd_ne k2, Hp.upd_ne k3, chkH, Hp.upd_ne k1, chkX, Hp.upd_ne k7, Hp.upd_ne k6, Hp.upd_ne k4, Hp.upd_ne k5]
   exact hk
  have look : ∀ k, k ≠ l → k ≠ b1 → k ≠ b2 → ((wH (chkH H be bn bd bf l e asg bdy fr S) b1 b2 e 13).upd l none) k = chkX H be bn bd bf e S k := fun k a b c => by
   rw [wH, Hp.upd_ne a, Hp.upd_ne c, Hp.upd_ne b, chkH, Hp.upd_ne a]
  have cd := (look bd (Ne.symm l2) (Ne.symm p2) (Ne.symm q2)).trans (chkX_d ha S)
  have cf := (look bf (Ne.symm l1) (Ne.symm p1) (Ne.symm q1)).trans (chkX_f S)
  have ce := (look be (Ne.symm l4) (Ne.symm p4) (Ne.symm q4)).trans (chkX_e ha S)
  generalize (wH (chkH H be bn bd bf l e asg bdy fr S) b1 b2 e 13).upd l none = HH at hsub cd cf ce
  have hany : decide (12 < S.2.1) = (looked e).any (fun p => decide (12 < p.1)) := by rw [hR2, maxF_any]; simp
  have hfst : S.2.2 = firstErr (looked e) := by rw [hR3, errF_first]; rfl
  refine AC.seq (AC.block (AC.seq (AC.reg ?_)))
  refine RG.ld .d f4 cd (d := .int .i64 S.2.1) rfl ?_
  refine RG.p (d := .bool (decide (12 < S.2.1))) .d (by
   show some (DV.bool (decide ((S.2.1 : Int) > 12))) = _
   congr 2
   rw [decide_eq_decide]; omega) ?_
  refine go1 ?_
  cases g1 : decide (12 < S.2.1)
  case true =>
   refine RG.nilS (AC.cond_t rfl (AC.seq (AC.reg ?_)))
   refine go ?_
   exact RG.nilS (AC.ret (finD (H' := H) rfl hsub ⟨by rw [checkF, ← hany, g1]; rfl, rfl⟩))
  refine RG.nilS (AC.cond_f rfl (AC.seq (AC.reg ?_)))
  refine RG.ld .d f1 ce (d := .agg (elC e)) (by obtain ⟨p, n, t, o, ks⟩ := e; rw [elC]; rfl) ?_
  refine RG.callP .d rfl (Weight_ok e hfit) ?_
  refine RG.p (d := .bool (decide (2000 < weightF e))) .d (by
   show some (DV.bool (decide ((weightF e : Int) > 2000))) = _
   congr 2
   rw [decide_eq_decide]; omega) ?_
  refine go1 ?_
  cases g2 : decide (2000 < weightF e)
  case true =>
   refine RG.nilS (AC.cond_t rfl (AC.seq (AC.reg ?_)))
   refine go ?_
   exact RG.nilS (AC.ret (finD (H' := H) rfl hsub ⟨by rw [checkF, ← hany, g1, g2]; rfl, rfl⟩))
  refine RG.nilS (AC.cond_f rfl (AC.skip ?_))
  refine AC.seq (AC.reg ?_)
  refine RG.ld .d f5 cf (d := .int .i64 S.2.2) rfl ?_
  refine go ?_
  exact RG.nilS (AC.ret (finD (H' := H) rfl hsub ⟨by rw [checkF, ← hany, g1, g2, ← hfst]; rfl, rfl⟩))
 have hfin : CALL prog G 154 ([] ++ [.func (.yield l) [] []] ++ [.ptr b1 0, .ptr b2 0]) ((wH (chkX H be bn bd bf e (0, 0, 0)) b1 b2 e 13).upd l (some (.loop F38.N [10, 11] asg bdy fr .ready none)))
   (fun _ H' => H' = wH (chkH H be bn bd bf l e asg bdy fr S) b1 b2 e 13) (fun _ _ => False) := by
  rw [h0]
  exact hc.mono (fun _ _ hq => hq.1) (fun _ _ hq => hq)
 refine hfin.mono (fun _ H' hq => ?_) (fun _ _ hq => hq.elim)
 have hHl2 : H' l = some (.loop F38.N [10, 11] asg bdy fr (bif S.1 == 5000 then .done else .ready) (bif S.1 == 5000 then some (.exit 0) else none)) := by
  rw [hq, wH, Hp.upd_ne m1, Hp.upd_ne m2]
  exact Hp.upd_same
 refine ⟨_, _, hHl2, ?_, ?_⟩
 · cases S.1 == 5000 <;> simp
 · cases S.1 == 5000
   · exact hnext H' hq
   · exact hnext H' hq
def F159 : FN := ⟨8, (.seq (.reg [ji 2 (.box 9 (.t 0)), ji 3 (.box 3 (.t 1)), ji 4 (.mv (.c .nilfn))])
 (.seq (.reg [ji 5 (.ld false 1 (.t 3)), ji 6 (.mx (.t 5) (ci 1)), jn (.st 1 (.t 3) (.t 6))])
 (.seq (.reg [ji 7 (.mkfn (.func 203) [] [(.t 2), (.t 3)]), ji 4 (.mv (.t 7))])
 .ret))), [.tmp 4]⟩
theorem cF159 : cFn prog 159 = some F159 := by kernel_rfl
def F203 : FN := ⟨22, (.seq (.reg [ji 6 (.ld false 1 (.t 1)), ji 4 (.mv (.t 6))])
 (.block 0 (.loop (.seq (.seq (.reg [ji 7 (.mv (.t 4)), ji 8 (.bin .neq (.t 7) (.c (.str [])))])
 (.cond (.t 8) .skip
 (.exit 0)))
 (.block 1 (.seq (.reg [ji 9 (.ld false 1 (.t 2)), ji 10 (.mv (.t 4)), ji 11 (.len true (.t 10)), ji 12 (.mn (.t 9) (.t 11)), ji 5 (.mv (.t 12))])
 (.seq (.seq (.reg [ji 13 (.mv (.t 0)), ji 14 (.mv (.t 4)), ji 15 (.mv (.t 5)), ji 16 (.slcS (.t 14) none (some (.t 15))), ji 17 (.calv (.t 13) [(.t 16)]), ji 18 (.un .not (.t 17))])
 (.cond (.t 18) .ret
 .skip))
 (.reg [ji 19 (.mv (.t 4)), ji 20 (.mv (.t 5)), ji 21 (.slcS (.t 19) (some (.t 20)) none), ji 4 (.mv (.t 21))])))))))), []⟩
theorem cF203 : cFn prog 203 = some F203 := by kernel_rfl
def F102 : FN := ⟨45, (.seq (.reg [ji 2 (.mv (.c (.str [])))])
 (.seq (.reg [ji 3 (.alloc [.nilp, .nils] 67)])
 (.seq (.seq (.reg [ji 9 (.mv (.t 0)), ji 10 (.call 159 [(.t 9), (ci 3)])])
 (.block 0 (.rng (.t 10) [11] (.reg [ji 4 (.mv (.t 11))])
 (.block 1 (.seq (.reg [ji 5 (.alloc [(.int .u8 0), (.int .u8 0), (.int .u8 0)] 172)])
 (.seq (.reg [ji 12 (.slcA 3 1 (.t 5) none none), ji 13 (.mv (.t 4)),
  ⟨(some 14), none, .oth (.call ⟨.builtin .copy, #[(.tmp 12), (.tmp 13)], #[65, 9]⟩)⟩, ji 6 (.mv (.t 14))])
 (.seq (.reg [ji 15 (.iadrA 3 1 (.t 5) (ci 0)), ji 16 (.ld false 1 (.t 15)), ji 17 (.conv .u32 (.t 16)), ji 18 (.bin .shl (.t 17) (.c (.int .u64 16))), ji 19 (.iadrA 3 1 (.t 5) (ci 1)), ji 20 (.ld false 1 (.t 19)), ji 21 (.conv .u32 (.t 20)), ji 22 (.bin .shl (.t 21) (.c (.int .u64 8))), ji 23 (.bin .or (.t 18) (.t 22)), ji 24 (.iadrA 3 1 (.t 5) (ci 2)), ji 25 (.ld false 1 (.t 24)), ji 26 (.conv .u32 (.t 25)), ji 27 (.bin .or (.t 23) (.t 26)), ji 7 (.mv (.t 27))])
 (.seq (.reg [ji 28 (.mv (ci 0))])
 (.block 2 (.loop (.seq (.reg [ji 29 (.bin .lss (.t 28) (ci 4))])
 (.seq (.cond (.t 29) .skip
 (.exit 2))
 (.seq (.block 3 (.seq (.reg [ji 30 (.mv (.t 28)), ji 8 (.mv (.t 30))])
 (.seq (.reg [ji 31 (.mv (.t 8)), ji 32 (.mv (.t 6)), ji 33 (.bin .gtr (.t 31) (.t 32))])
 (.cond (.t 33) (.reg [ji 34 (.call 44 [(.t 3), (.c (.int .u8 61))])])
 (.reg [ji 35 (.mv (.t 7)), ji 36 (.mv (.t 8)), ji 37 (.bin .mul (ci 6) (.t 36)), ji 38 (.bin .sub (ci 18) (.t 37)), ji 39 (.bin .shr (.t 35) (.t 38)), ji 40 (.bin .and (.t 39) (.c (.int .u32 63))), ji 41 (.idx (.c (.str [65, 66, 67, 68, 69, 70, 71, 72, 73, 74, 75, 76, 77, 78, 79, 80, 81, 82, 83, 84, 85, 86, 87, 88, 89, 90, 97, 98, 99, 100, 101, 102, 103, 104, 105, 106, 107, 108, 109, 110, 111, 112, 113, 114, 115, 116, 117, 118, 119, 120, 121, 122, 48, 49, 50, 51, 52, 53, 54, 55, 56, 57, 43, 47])) (.t 40)), ji 42 (.call 44 [(.t 3), (.t 41)])])))))
 (.reg [ji 43 (.bin .add (.t 28) (ci 1)), ji 28 (.mv (.t 43))]))))))))))))))
 (.seq (.reg [ji 44 (.call 42 [(.t 3)]), ji 2 (.mv (.t 44))])
 .ret)))), [.tmp 2]⟩
theorem cF102 : cFn prog 102 = some F102 := by kernel_rfl
theorem u32_wrap (n : Nat) (h : n < 4294967296) : IntKind.u32.wrap (n : Int) = n := IntWalk.u32_in _ (by omega)
theorem ofInt32 (n : Nat) : BitVec.ofInt IntKind.u32.bits (n : Int) = BitVec.ofNat 32 n := by
 show BitVec.ofInt 32 (n : Int) = BitVec.ofNat 32 n
 exact BitVec.ofInt_natCast 32 n
theorem or_u32 (a b : Nat) (ha : a < 4294967296) (hb : b < 4294967296) : binI .or .u32 (a : Int) (b : Int) = some (.int .u32 ((a ||| b : Nat) : Int)) := by
 simp only [binI, ofInt32]
 have h1 : (BitVec.ofNat 32 a ||| BitVec.ofNat 32 b).toNat = a ||| b := by
  rw [BitVec.toNat_or, BitVec.toNat_ofNat, BitVec.toNat_ofNat, Nat.mod_eq_of_lt ha, Nat.mod_eq_of_lt hb]
 have h2 : a ||| b < 4294967296 := Nat.or_lt_two_pow (n := 32) ha hb
 show some (DV.int .u32 (IntKind.u32.wrap (((BitVec.ofNat 32 a ||| BitVec.ofNat 32 b).toNat : Nat) : Int))) = _
 rw [h1, u32_wrap _ h2]
theorem and_u32 (a b : Nat) (ha : a < 4294967296) (hb : b < 4294967296) : binI .and .u32 (a : Int) (b : Int) = some (.int .u32 ((a &&& b : Nat) : Int)) := by
 simp only [binI, ofInt32]
 have h1 : (BitVec.ofNat 32 a &&& BitVec.ofNat 32 b).toNat = a &&& b := by
  rw [BitVec.toNat_and, BitVec.toNat_ofNat, BitVec.toNat_ofNat, Nat.mod_eq_of_lt ha, Nat.mod_eq_of_lt hb]
 have h2 : a &&& b < 4294967296 := Nat.and_lt_two_pow (n := 32) a hb
 show some (DV.int .u32 (IntKind.u32.wrap (((BitVec.ofNat 32 a &&& BitVec.ofNat 32 b).toNat : Nat) : Int))) = _
 rw [h1, u32_wrap _ h2]
theorem shr_u32 (a j : Nat) (hj : j ≤ 32) : shI .shr .u32 (a : Int) (j : Int) = some (.int .u32 ((a / 2 ^ j : Nat) : Int)) := by
 have h0 : ¬ ((j : Int) < 0) := by omega
 have h1 : min ((j : Int).toNat) IntKind.u32.bits = j := by
  show min j 32 = j
  omega
 simp only [shI, if_neg h0, h1]
 have : ((a : Int)).fdiv (2 ^ j) = ((a / 2 ^ j : Nat) : Int) := by
  rw [Int.fdiv_eq_ediv_of_nonneg _ (Int.le_of_lt (Int.pow_pos (by omega)))]
  simp
 rw [this]
theorem shl_u32 (a j : Nat) (hj : j ≤ 32) (h : a * 2 ^ j < 4294967296) : shI .shl .u32 (a : Int) (j : Int) = some (.int .u32 ((a * 2 ^ j : Nat) : Int)) := by
 have h0 : ¬ ((j : Int) < 0) := by omega
 have h1 : min ((j : Int).toNat) IntKind.u32.bits = j := by
  show min j 32 = j
  omega
 simp only [shI, if_neg h0, h1]
 have : ((a : Int)) * 2 ^ j = ((a * 2 ^ j : Nat) : Int) := by simp
 rw [this, u32_wrap _ h]
theorem word_or (a b c : UInt8) : ((a.toNat * 65536) ||| (b.toNat * 256)) ||| c.toNat = word3 a b c := by
 have ha := a.toNat_lt; have hb := b.toNat_lt; have hc := c.toNat_lt
 have h1 : (a.toNat * 65536) ||| (b.toNat * 256) = a.toNat * 65536 + b.toNat * 256 := by
  rw [show a.toNat * 65536 = 2 ^ 16 * a.toNat by omega, ← Nat.two_pow_add_eq_or_of_lt (i := 16) (by omega)]
 rw [h1]
 have h2 : a.toNat * 65536 + b.toNat * 256 = 2 ^ 8 * (a.toNat * 256 + b.toNat) := by omega
 rw [h2, ← Nat.two_pow_add_eq_or_of_lt (i := 8) (by omega), word3]
 omega
def pieceW (p : List UInt8) : List UInt8 := encW (word3 (p.getD 0 0) (p.getD 1 0) (p.getD 2 0)) p.length
theorem encF_step : ∀ (s : List UInt8), s ≠ [] → encF s = pieceW (s.take 3) ++ encF (s.drop 3)
 | [], h => absurd rfl h
 | [a], _ => by simp [encF, pieceW]
 | [a, b], _ => by simp [encF, pieceW]
 | a :: b :: c :: l, _ => by simp [encF, pieceW]
theorem encW_at (w m : Nat) (hm : 1 ≤ m) : ∀ (k : Nat), k < 4 → (encW w m)[k]? = some (bif decide ((k : Int) > m) then 61 else lt64 (w / 2 ^ (18 - 6 * k) % 64))
 | 0, _ => by
   have e : decide (((0 : Nat) : Int) > m) = false := by rw [decide_eq_false_iff_not]; omega
   rw [e]; rfl
 | 1, _ => by
   have e : decide (((1 : Nat) : Int) > m) = false := by rw [decide_eq_false_iff_not]; omega
   rw [e]; rfl
 | 2, _ => by
   have e : decide (((2 : Nat) : Int) > m) = Nat.blt m 2 := by
    rw [Bool.eq_iff_iff, blt_iff, decide_eq_true_eq]; omega
   rw [e]
   rfl
 | 3, _ => by
   have e : decide (((3 : Nat) : Int) > m) = Nat.blt m 3 := by
    rw [Bool.eq_iff_iff, blt_iff, decide_eq_true_eq]; omega
   have e2 : w / 2 ^ (18 - 6 * 3) = w := by simp
   rw [e, e2]
   rfl
 | k + 4, h => by omega
def lnH (A : Hp) (b1 b2 : Nat) (s : List UInt8) : Hp := (A.upd b1 (some (.cells [.str s] 9))).upd b2 (some (.cells [.int .i64 3] 3))
theorem Lines_ok (s : List UInt8) (H : Hp) : CALL prog G 159 [.str s, .int .i64 3] H
  (fun r H' => ∃ b1 b2, H b1 = none ∧ H b2 = none ∧ b2 ≠ b1 ∧ r = .func (.func 203) [] [.ptr b1 0, .ptr b2 0] ∧ H' = lnH H b1 b2 s) (fun _ _ => False) := by
 refine CALL.of cF159 (Nat.le_of_ble_eq_true rfl) ?_
 refine AC.seq (AC.reg ?_)
 refine RG.box .d rfl rfl fun b1 hb1 => ?_
 refine RG.box .d rfl rfl fun b2 hb2 => ?_
 have hne : b2 ≠ b1 := fun e => by rw [e, Hp.upd_same] at hb2; cases hb2
 rw [Hp.upd_ne hne] at hb2
 refine go ?_
 refine RG.nilS (AC.seq (AC.reg ?_))
 refine RG.ld .d wh Hp.upd_same (d := .int .i64 3) rfl ?_
 refine RG.p (d := .int .i64 3) .d rfl ?_
 refine RG.sto1 .d wh Hp.upd_same wh rfl ?_
 rw [Hp.upd_upd]
 refine RG.nilS (AC.seq (AC.reg ?_))
 refine go ?_
 exact RG.nilS (AC.ret (fin rfl ⟨b1, b2, hb1, hb2, hne, rfl, rfl⟩))
theorem Lines1_ok {yv : DV} {J : List UInt8 → Hp → Prop} (hy : ∀ (s : List UInt8) (A : Hp), s ≠ [] → J s A → CALV prog G yv [.str (s.take 3)] A (fun r A' => r = .bool true ∧ J (s.drop 3) A') (fun _ _ => False))
  (s : List UInt8) (A : Hp) (hJ : J s A) {b1 b2 : Nat} (h1 : A b1 = none) (h2 : A b2 = none) (hne : b2 ≠ b1) :
  CALL prog G 203 [yv, .ptr b1 0, .ptr b2 0] (lnH A b1 b2 s) (fun _ H' => ∃ A', J [] A' ∧ A' b1 = none ∧ A' b2 = none ∧ H' = lnH A' b1 b2 s) (fun _ _ => False) := by
 have hw1 : ∀ A, lnH A b1 b2 s b1 = some (.cells [.str s] 9) := fun A => by rw [lnH, Hp.upd_ne (Ne.symm hne)]; exact Hp.upd_same
 have hw2 : ∀ A, lnH A b1 b2 s b2 = some (.cells [.int .i64 3] 3) := fun A => Hp.upd_same
 refine CALL.of cF203 (Nat.le_of_ble_eq_true rfl) ?_
 refine AC.seq (AC.reg ?_)
 refine RG.ld .d wh (hw1 A) (d := .str s) rfl ?_
 refine go ?_
 refine RG.nilS ?_
 refine AC.bloopH (α := List UInt8) (β := Unit) (fun t => t.length) (fun t => [(0, yv), (2, .ptr b2 0), (4, .str t)]) (fun t H' => ∃ A', J t A' ∧ A' b1 = none ∧ A' b2 = none ∧ H' = lnH A' b1 b2 s) (fun _ => [])
  (fun _ H' => ∃ A', J [] A' ∧ A' b1 = none ∧ A' b2 = none ∧ H' = lnH A' b1 b2 s) ?_ ?_ s _ ⟨A, hJ, h1, h2, rfl⟩ ⟨rfl, rfl, rfl, trivial⟩
 · intro _ He fr hq _
   exact fin rfl hq
 · rintro t H' ⟨A', k1, k2, k3, rfl⟩ ih ex
   refine AC.seq (AC.seq (AC.reg ?_))
   refine go ?_
   cases t with
   | nil => exact RG.nilS (AC.cond_f rfl (AC.exit (ex () _ _ ⟨A', k1, k2, k3, rfl⟩ trivial)))
   | cons c t =>
     refine RG.nilS (AC.cond_t rfl (AC.skip (AC.block (AC.seq (AC.reg ?_)))))
     generalize hct : c :: t = ct at k1 ih
     have hne0 : ct ≠ [] := by rw [← hct]; simp
     have hl0 : 0 < ct.length := List.length_pos_iff.2 hne0
     refine RG.ld .d wh (hw2 A') (d := .int .i64 3) rfl ?_
     refine go1 ?_
     refine go1 ?_
     refine RG.p (d := .int .i64 ((min 3 ct.length : Nat) : Int)) .d (by
      show some (DV.int .i64 (if (ct.length : Int) < 3 then (ct.length : Int) else 3)) = _
      congr 2
      split <;> omega) ?_
     refine go ?_
     refine RG.nilS (AC.seq (AC.seq (AC.reg ?_)))
     refine go1 ?_
     refine go1 ?_
     refine go1 ?_
     refine RG.upto .d wh wh (by omega) ?_
     have hta : ct.take ((min 3 ct.length : Nat) : Int).toNat = ct.take 3 := by
      rw [Int.toNat_natCast, ← List.take_take, List.take_length]
     have hdr : ct.drop ((min 3 ct.length : Nat) : Int).toNat = ct.drop 3 := by
      rw [Int.toNat_natCast]
      by_cases h : 3 ≤ ct.length
      · rw [Nat.min_eq_left h]
      · rw [Nat.min_eq_right (by omega), List.drop_length, List.drop_of_length_le (by omega)]
     rw [hta]
     have hc := ((hy ct A' hne0 k1).frame (b := b1) (o := .cells [.str s] 9) k2 notF_cells).frame (b := b2) (o := .cells [.int .i64 3] 3) (by rw [Hp.upd_ne hne]; exact k3) notF_cells
     refine RG.calV .d rfl rfl hc (fun r H' ⟨B, ⟨B2, ⟨e1, e2⟩, e3, e4⟩, e5, e6⟩ => ?_) (fun r H' ⟨_, ⟨_, k, _⟩, _⟩ => k.elim)
     subst e1; subst e4; subst e6
     rw [Hp.upd_ne hne] at e5
     refine go ?_
     refine RG.nilS (AC.cond_f rfl (AC.skip (AC.reg ?_)))
     refine go1 ?_
     refine go1 ?_
     refine RG.from .d wh wh (by omega) ?_
     rw [hdr]
     refine go ?_
     exact RG.nil (ih (ct.drop 3) _ ⟨B2, e2, e3, e5, rfl⟩ (by rw [List.length_drop]; omega) _ ⟨rfl, rfl, rfl, trivial⟩)
theorem BLD.put {H0 H : Hp} {b q : Nat} {u : Bool} {bs : List UInt8} {o : Option DO} (h : BLD H0 b u bs H) (hq : H q = none) : BLD (H0.upd q o) b u bs (H.upd q o) := by
 cases h with
 | mt h =>
   have hqb : q ≠ b := fun e => by rw [e, Hp.upd_same] at hq; cases hq
   rw [Hp.upd_comm (Ne.symm hqb)]
   exact .mt u (by rw [Hp.upd_ne (Ne.symm hqb)]; exact h)
 | on g bs h1 h2 h3 h4 =>
   have hqg : q ≠ g := fun e => by rw [e, Hp.upd_same] at hq; cases hq
   rw [Hp.upd_ne hqg] at hq
   have hqb : q ≠ b := fun e => by rw [e, Hp.upd_same] at hq; cases hq
   rw [Hp.upd_comm (Ne.symm hqg), Hp.upd_comm (Ne.symm hqb)]
   exact .on u g bs (by rw [Hp.upd_ne (Ne.symm hqb)]; exact h1) (by rw [Hp.upd_ne (Ne.symm hqg)]; exact h2) h3 h4
theorem BLD.take {H0 H : Hp} {b q : Nat} {u : Bool} {bs : List UInt8} {o : DO} (h : BLD (H0.upd q (some o)) b u bs H) (hq : H0 q = none) : ∃ H', BLD H0 b u bs H' ∧ SubH H' H := by
 cases h with
 | mt h =>
   have hbq : b ≠ q := fun e => by rw [e, Hp.upd_same] at h; cases h
   rw [Hp.upd_ne hbq] at h
   refine ⟨_, .mt u h, ?_⟩
   rw [Hp.upd_comm (Ne.symm hbq)]
   exact SubH.fresh (by rw [Hp.upd_ne (Ne.symm hbq)]; exact hq)
 | on g bs h1 h2 h3 h4 =>
   have hbq : b ≠ q := fun e => by rw [e, Hp.upd_same] at h1; cases h1
   have hgq : g ≠ q := fun e => by rw [e, Hp.upd_same] at h2; cases h2
   rw [Hp.upd_ne hbq] at h1
   rw [Hp.upd_ne hgq] at h2
   refine ⟨_, .on u g bs h1 h2 h3 h4, ?_⟩
   rw [Hp.upd_comm (Ne.symm hbq), Hp.upd_comm (Ne.symm hgq)]
   exact SubH.fresh (by rw [Hp.upd_ne (Ne.symm hgq), Hp.upd_ne (Ne.symm hbq)]; exact hq)
theorem BLD.look {H0 H : Hp} {b q : Nat} {u : Bool} {bs : List UInt8} (h : BLD H0 b u bs H) {o : DO} (hq : H0 q = some o) : H q = some o := h.sub q o hq
theorem BLD.base {H0 H : Hp} {b q : Nat} {u : Bool} {bs : List UInt8} (h : BLD H0 b u bs H) (hq : H q = none) : H0 q = none := by
 cases e : H0 q with
 | none => rfl
 | some o => rw [h.sub q o e] at hq; cases hq
def encInner : CC → CC
 | .block _ (.seq _ c) => c
 | c => c
theorem enc_body {H0 H : Hp} {b q : Nat} {u : Bool} {bs p : List UInt8} {r : Option Nat} {Q : EX → Fr → Hp → Prop} (h : BLD H0 b u bs H) (hq : H0 q = some (.cells [.int .u8 0, .int .u8 0, .int .u8 0] 172)) (hp0 : p ≠ []) (hp : p.length ≤ 3) (hlen : bs.length ≤ 140737488355000)
  (k : ∀ fr H', BLD (H0.upd q (some (.cells [B8 (p.getD 0 0), B8 (p.getD 1 0), B8 (p.getD 2 0)] 172))) b true (bs ++ pieceW p) H' → Q .normal fr H') :
  AC prog G r F102.N (encInner (rngB F102.c)) Q (frOf [(3, .ptr b 0), (4, .str p), (5, .ptr q 0)]) H := by
 have hl0 : 0 < p.length := List.length_pos_iff.2 hp0
 refine AC.seq (AC.reg ?_)
 refine RG.p (d := .win q 0 3 3) .d rfl ?_
 refine go1 ?_
 refine RG.st (ST.copyS (P := prog) (t := 65) (e := 5) (i := Go.Proofs.Tryz.t5) rfl rfl rfl (by kernel_rfl) (by kernel_rfl) (by kernel_rfl) rfl rfl hp (h.look hq) (by simpa using hp) ?_)
 have hsp : spliceL 0 (p.map B8) [.int .u8 0, .int .u8 0, .int .u8 0] = [B8 (p.getD 0 0), B8 (p.getD 1 0), B8 (p.getD 2 0)] := by
  match p, hp0, hp with
  | [a], _, _ => rfl
  | [a, b], _, _ => rfl
  | [a, b, c], _, _ => rfl
  | _ :: _ :: _ :: _ :: _, _, h => simp at h
 rw [hsp]
 have h2 := h.upd (o' := .cells [B8 (p.getD 0 0), B8 (p.getD 1 0), B8 (p.getD 2 0)] 172) hq
 generalize H.upd q (some (.cells [B8 (p.getD 0 0), B8 (p.getD 1 0), B8 (p.getD 2 0)] 172)) = H1 at h2 ⊢
 have hq2 := h2.look (q := q) Hp.upd_same
 generalize hx0 : p.getD 0 0 = x0 at h2 hq2 k
 generalize hx1 : p.getD 1 0 = x1 at h2 hq2 k
 generalize hx2 : p.getD 2 0 = x2 at h2 hq2 k
 have l0 := x0.toNat_lt; have l1 := x1.toNat_lt; have l2 := x2.toNat_lt
 refine go1 ?_
 refine RG.nilS (AC.seq (AC.reg ?_))
 refine RG.p .d (evP_iadrA wh wh (by omega)) ?_
 refine RG.ld .d wh hq2 (d := B8 x0) rfl ?_
 refine RG.p (d := .int .u32 (x0.toNat : Nat)) .d (by show some (DV.int .u32 (IntKind.u32.wrap (x0.toNat : Int))) = _; rw [u32_wrap _ (by omega)]) ?_
 refine RG.p (d := .int .u32 ((x0.toNat * 2 ^ 16 : Nat) : Int)) .d (shl_u32 x0.toNat 16 (by omega) (by omega)) ?_
 refine RG.p .d (evP_iadrA wh wh (by omega)) ?_
 refine RG.ld .d wh hq2 (d := B8 x1) rfl ?_
 refine RG.p (d := .int .u32 (x1.toNat : Nat)) .d (by show some (DV.int .u32 (IntKind.u32.wrap (x1.toNat : Int))) = _; rw [u32_wrap _ (by omega)]) ?_
 refine RG.p (d := .int .u32 ((x1.toNat * 2 ^ 8 : Nat) : Int)) .d (shl_u32 x1.toNat 8 (by omega) (by omega)) ?_
 refine RG.p (d := .int .u32 ((x0.toNat * 2 ^ 16 ||| x1.toNat * 2 ^ 8 : Nat) : Int)) .d (or_u32 (x0.toNat * 2 ^ 16) (x1.toNat * 2 ^ 8) (by omega) (by omega)) ?_
 refine RG.p .d (evP_iadrA wh wh (by omega)) ?_
 refine RG.ld .d wh hq2 (d := B8 x2) rfl ?_
 refine RG.p (d := .int .u32 (x2.toNat : Nat)) .d (by show some (DV.int .u32 (IntKind.u32.wrap (x2.toNat : Int))) = _; rw [u32_wrap _ (by omega)]) ?_
 have hor : x0.toNat * 2 ^ 16 ||| x1.toNat * 2 ^ 8 < 4294967296 := Nat.or_lt_two_pow (n := 32) (by omega) (by omega)
 refine RG.p (d := .int .u32 (word3 x0 x1 x2 : Nat)) .d (by
  rw [← word_or]
  exact or_u32 (x0.toNat * 2 ^ 16 ||| x1.toNat * 2 ^ 8) x2.toNat hor (by omega)) ?_
 refine go1 ?_
 have hw : word3 x0 x1 x2 < 16777216 := word3_lt _ _ _
 generalize hwd : word3 x0 x1 x2 = w at hw
 have hpw : pieceW p = encW w p.length := by rw [pieceW, hx0, hx1, hx2, hwd]
 rw [hpw] at k
 refine RG.nilS (AC.seq (AC.reg ?_))
 refine go ?_
 refine RG.nilS ?_
 generalize hm : p.length = m at hl0 hp k
 have hel : (encW w m).length = 4 := rfl
 refine AC.bloopH (α := Nat) (β := Unit) (fun n => 4 - n) (fun n => [(3, .ptr b 0), (6, .int .i64 m), (7, .int .u32 w), (28, .int .i64 n)])
  (fun n H' => n ≤ 4 ∧ ∃ v, BLD (H0.upd q (some (.cells [B8 x0, B8 x1, B8 x2] 172))) b v (bs ++ (encW w m).take n) H' ∧ (n = 4 → v = true)) (fun _ => []) (fun _ H' => BLD (H0.upd q (some (.cells [B8 x0, B8 x1, B8 x2] 172))) b true (bs ++ encW w m) H') ?_ ?_ 0 _
  ⟨by omega, u, by simpa using h2, by omega⟩ ⟨rfl, rfl, rfl, rfl, trivial⟩
 · intro _ He fr hB _
   exact k fr He hB
 · rintro n H' ⟨h1, v, h3, h4⟩ ih ex
   refine AC.seq (AC.reg ?_)
   refine go ?_
   cases e1 : decide ((n : Int) < 4)
   · have e := of_decide_eq_false e1
     have hn : n = 4 := by omega
     subst hn
     rw [h4 rfl, List.take_of_length_le (by rw [hel]; omega)] at h3
     exact RG.nilS (AC.seq (AC.cond_f rfl (AC.exit (ex () _ _ h3 trivial))))
   · have e := of_decide_eq_true e1
     have hn : n < 4 := by omega
     have hat := encW_at w m hl0 n hn
     have htk : (encW w m).take (n + 1) = (encW w m).take n ++ [bif decide ((n : Int) > m) then 61 else lt64 (w / 2 ^ (18 - 6 * n) % 64)] := by
      have hlt : n < (encW w m).length := by rw [hel]; exact hn
      rw [List.take_succ_eq_append_getElem hlt]
      rw [List.getElem?_eq_getElem hlt] at hat
      rw [Option.some.inj hat]
     refine RG.nilS (AC.seq (AC.cond_t rfl (AC.skip (AC.seq (AC.block (AC.seq (AC.reg ?_)))))))
     refine go ?_
     refine RG.nilS (AC.seq (AC.reg ?_))
     refine go ?_
     have hbl : bs.length + ((encW w m).take n).length + 1 ≤ 140737488355328 := by
      have : ((encW w m).take n).length ≤ 4 := by rw [List.length_take]; omega
      omega
     have next : ∀ H2, BLD (H0.upd q (some (.cells [B8 x0, B8 x1, B8 x2] 172))) b true (bs ++ (encW w m).take n ++ [bif decide ((n : Int) > m) then 61 else lt64 (w / 2 ^ (18 - 6 * n) % 64)]) H2 → ∃ v, BLD (H0.upd q (some (.cells [B8 x0, B8 x1, B8 x2] 172))) b v (bs ++ (encW w m).take (n + 1)) H2 ∧ (n + 1 = 4 → v = true) := by
      intro H2 hB
      refine ⟨true, ?_, fun _ => rfl⟩
      rw [htk, ← List.append_assoc]; exact hB
     cases c1 : decide ((n : Int) > m)
     · rw [c1] at next
       refine RG.nilS (AC.cond_f rfl (AC.reg ?_))
       refine go1 ?_
       refine go1 ?_
       refine RG.p (d := .int .i64 ((6 * n : Nat) : Int)) .d (by
        show some (DV.int .i64 (IntKind.i64.wrap (6 * (n : Int)))) = _
        rw [IntWalk.i64_in _ (by omega)]; congr 2) ?_
       refine RG.p (d := .int .i64 ((18 - 6 * n : Nat) : Int)) .d (by
        show some (DV.int .i64 (IntKind.i64.wrap (18 - ((6 * n : Nat) : Int)))) = _
        rw [IntWalk.i64_in _ (by omega)]; congr 2; omega) ?_
       refine RG.p (d := .int .u32 ((w / 2 ^ (18 - 6 * n) : Nat) : Int)) .d (shr_u32 w (18 - 6 * n) (by omega)) ?_
       have hdl : w / 2 ^ (18 - 6 * n) < 4294967296 := Nat.lt_of_le_of_lt (Nat.div_le_self _ _) (by omega)
       refine RG.p (d := .int .u32 ((w / 2 ^ (18 - 6 * n) % 64 : Nat) : Int)) .d (by
        rw [← Nat.and_two_pow_sub_one_eq_mod _ 6]
        exact and_u32 (w / 2 ^ (18 - 6 * n)) 63 hdl (by omega)) ?_
       have hm64 : w / 2 ^ (18 - 6 * n) % 64 < 64 := Nat.mod_lt _ (by omega)
       refine RG.p (d := .int .u8 ((lt64 (w / 2 ^ (18 - 6 * n) % 64)).toNat : Nat)) .d (by
        show idxD (.str letters64) (.int .u32 ((w / 2 ^ (18 - 6 * n) % 64 : Nat) : Int)) = _
        have h0 : (0 : Int) ≤ ((w / 2 ^ (18 - 6 * n) % 64 : Nat) : Int) := by omega
        have hg : letters64[w / 2 ^ (18 - 6 * n) % 64]? = some (lt64 (w / 2 ^ (18 - 6 * n) % 64)) := by
         rw [lt64, List.getD_eq_getElem?_getD, List.getElem?_eq_getElem (show _ < letters64.length from hm64)]; rfl
        simp only [idxD, if_pos h0, Int.toNat_natCast, hg, Option.map_some]) ?_
       refine RG.call .d rfl (WriteByte_ok h3 (by rw [List.length_append]; exact hbl)) (fun d H2 ⟨g1, g2⟩ => ?_) (fun _ _ h => h.elim)
       refine RG.nil (AC.reg ?_)
       refine go ?_
       exact RG.nil (ih (n + 1) _ ⟨by omega, next _ g2⟩ (by omega) _ ⟨rfl, rfl, rfl, rfl, trivial⟩)
     · rw [c1] at next
       refine RG.nilS (AC.cond_t rfl (AC.reg ?_))
       refine RG.call .d rfl (WriteByte_ok (c := 61) h3 (by rw [List.length_append]; exact hbl)) (fun d H2 ⟨g1, g2⟩ => ?_) (fun _ _ h => h.elim)
       refine RG.nil (AC.reg ?_)
       refine go ?_
       exact RG.nil (ih (n + 1) _ ⟨by omega, next _ g2⟩ (by omega) _ ⟨rfl, rfl, rfl, rfl, trivial⟩)
def encJ (H : Hp) (b l : Nat) (asg bdy : Code) (fr : Fr) (s t : List UInt8) (A : Hp) : Prop :=
 ∃ u done, BLD (H.upd l (some (.loop F102.N [11] asg bdy fr .ready none))) b u done A ∧ done ++ encF t = encF s
theorem BLD.fresh {H0 H : Hp} {b k : Nat} {u : Bool} {bs : List UInt8} (h : BLD H0 b u bs H) (hk : H0 k = none) (hne : k ≠ b) : H k = none ∨ ∃ n, H k = some (.front n 1 5) := by
 cases h with
 | mt h => exact .inl (by rw [Hp.upd_ne hne]; exact hk)
 | on g bs h1 h2 h3 h4 =>
   by_cases e : k = g
   · subst e; exact .inr ⟨_, Hp.upd_same⟩
   · exact .inl (by rw [Hp.upd_ne e, Hp.upd_ne hne]; exact hk)
theorem enc_len : ∀ (t : List UInt8), (encF t).length ≤ 2 * t.length + 4
 | [] => by simp [encF]
 | [a] => by simp [encF, encW]
 | [a, b] => by simp [encF, encW]
 | a :: b :: c :: t => by
   have := enc_len t
   rw [encF, List.length_append]
   simp only [encW, List.length_cons, List.length_nil]
   omega
theorem enc_y {H : Hp} {b l : Nat} {asg bdy : Code} {fr : Fr} {s : List UInt8} (hs : s.length ≤ 70368744177000) (f3 : fr 3 = .ptr b 0)
  (has : cCode prog F102.N asg = some (rngA F102.c)) (hbdy : cCode prog F102.N bdy = some (rngB F102.c)) :
  ∀ (t : List UInt8) (A : Hp), t ≠ [] → encJ H b l asg bdy fr s t A → CALV prog G (.func (.yield l) [] []) [.str (t.take 3)] A (fun r A' => r = .bool true ∧ encJ H b l asg bdy fr s (t.drop 3) A') (fun _ _ => False) := by
 rintro t A ht ⟨u, done, hB, hE⟩
 have hl0 : A l = some (.loop F102.N [11] asg bdy fr .ready none) := hB.look Hp.upd_same
 have hdl : done.length ≤ 140737488355000 := by
  have h1 := congrArg List.length hE
  have h2 := enc_len s
  rw [List.length_append] at h1
  omega
 refine .inr ⟨l, rfl, ?_⟩
 refine YLD.of (N := F102.N) (ps := [11]) (bd := bdy) (fr := fr) hl0 rfl has hbdy ?_
 refine AC.reg ?_
 refine go ?_
 refine RG.nil ⟨rfl, hl0, ?_⟩
 have hB2 := hB.upd (k := l) (o' := .loop F102.N [11] asg bdy fr .busy none) Hp.upd_same
 rw [Hp.upd_upd] at hB2
 generalize A.upd l (some (.loop F102.N [11] asg bdy fr .busy none)) = A2 at hB2 ⊢
 refine AC.to [(3, .ptr b 0), (4, .str (t.take 3))] ⟨f3, rfl, trivial⟩ ?_
 refine AC.block (AC.seq (AC.reg ?_))
 refine RG.alloc .d fun q hq => ?_
 have hql : q ≠ l := fun e => by rw [e, hB2.look Hp.upd_same] at hq; cases hq
 have hq0 : H q = none := by
  have := hB2.base hq
  rw [Hp.upd_ne hql] at this; exact this
 have hB3 := hB2.put (o := some (.cells [.int .u8 0, .int .u8 0, .int .u8 0] 172)) hq
 refine RG.nilS ?_
 refine AC.to [(3, .ptr b 0), (4, .str (t.take 3)), (5, .ptr q 0)] ⟨rfl, rfl, rfl, trivial⟩ ?_
 refine enc_body hB3 Hp.upd_same (by simp [ht]) (by rw [List.length_take]; omega) hdl (fun fr' H2 hB4 => ?_)
 rw [Hp.upd_upd] at hB4
 have hq4 : (H.upd l (some (.loop F102.N [11] asg bdy fr .busy none))) q = none := by rw [Hp.upd_ne hql]; exact hq0
 have hl4 : H2 l = some (.loop F102.N [11] asg bdy fr .busy none) := hB4.look (by rw [Hp.upd_ne (Ne.symm hql)]; exact Hp.upd_same)
 have hB5 := hB4.upd (k := l) (o := .loop F102.N [11] asg bdy fr .busy none) (o' := .loop F102.N [11] asg bdy fr .ready none) (by rw [Hp.upd_ne (Ne.symm hql)]; exact Hp.upd_same)
 rw [Hp.upd_comm hql, Hp.upd_upd] at hB5
 obtain ⟨H6, hB6, hsub⟩ := hB5.take (by rw [Hp.upd_ne hql]; exact hq0)
 refine ⟨hl4, H6, hsub, rfl, true, _, hB6, ?_⟩
 rw [List.append_assoc, ← encF_step t ht]; exact hE
theorem Encode_ok (s : List UInt8) (hs : s.length ≤ 70368744177000) : PF prog G 102 [.str s] (.str (encF s)) := by
 intro H
 refine CALL.of cF102 (Nat.le_of_ble_eq_true rfl) ?_
 refine AC.seq (AC.reg ?_)
 refine go ?_
 refine RG.nilS (AC.seq (AC.reg ?_))
 refine RG.alloc .d fun b hb => ?_
 refine RG.nilS (AC.seq (AC.seq (AC.reg ?_)))
 refine go ?_
 refine RG.call .d rfl (Lines_ok s _) (fun r H' ⟨b1, b2, h1, h2, h3, h4, h5⟩ => ?_) (fun _ _ h => h.elim)
 subst h4; subst h5
 have n1 : b1 ≠ b := fun e => by rw [e, Hp.upd_same] at h1; cases h1
 have n2 : b2 ≠ b := fun e => by rw [e, Hp.upd_same] at h2; cases h2
 rw [Hp.upd_ne n1] at h1
 rw [Hp.upd_ne n2] at h2
 refine RG.nilS (AC.block ?_)
 generalize hfr : Fr.put _ (some 10) _ = fr
 have f3 : fr 3 = .ptr b 0 := by rw [← hfr]; rfl
 have f10 : fr 10 = .func (.func 203) [] [.ptr b1 0, .ptr b2 0] := by rw [← hfr]; rfl
 clear hfr
 refine AC.rng f10 fun l asg bdy has hbdy hl => ?_
 have m1 : l ≠ b2 := fun e => by rw [e, lnH, Hp.upd_same] at hl; cases hl
 rw [lnH, Hp.upd_ne m1] at hl
 have m2 : l ≠ b1 := fun e => by rw [e, Hp.upd_same] at hl; cases hl
 rw [Hp.upd_ne m2] at hl
 have m3 : l ≠ b := fun e => by rw [e, Hp.upd_same] at hl; cases hl
 rw [Hp.upd_ne m3] at hl
 have hy := enc_y (G := G) (H := H) (l := l) (s := s) hs f3 has hbdy
 have h0 : (lnH (H.upd b (some (.cells [.nilp, .nils] 67))) b1 b2 s).upd l (some (.loop F102.N [11] asg bdy fr .ready none)) =
   lnH ((H.upd l (some (.loop F102.N [11] asg bdy fr .ready none))).upd b (some (.cells [.nilp, .nils] 67))) b1 b2 s := by
  simp only [lnH]
  rw [Hp.upd_comm (Ne.symm m1), Hp.upd_comm (Ne.symm m2), Hp.upd_comm (Ne.symm m3)]
 have hJ0 : encJ H b l asg bdy fr s s ((H.upd l (some (.loop F102.N [11] asg bdy fr .ready none))).upd b (some (.cells [.nilp, .nils] 67))) :=
  ⟨false, [], .mt false (by rw [Hp.upd_ne (Ne.symm m3)]; exact hb), rfl⟩
 have hc := Lines1_ok hy s _ hJ0 (b1 := b1) (b2 := b2) (by rw [Hp.upd_ne n1, Hp.upd_ne (Ne.symm m2)]; exact h1) (by rw [Hp.upd_ne n2, Hp.upd_ne (Ne.symm m1)]; exact h2) h3
 have hfin : CALL prog G 203 ([] ++ [.func (.yield l) [] []] ++ [.ptr b1 0, .ptr b2 0]) ((lnH (H.upd b (some (.cells [.nilp, .nils] 67))) b1 b2 s).upd l (some (.loop F102.N [11] asg bdy fr .ready none)))
   (fun _ H' => ∃ A', encJ H b l asg bdy fr s [] A' ∧ A' b1 = none ∧ A' b2 = none ∧ H' = lnH A' b1 b2 s) (fun _ _ => False) := by
  rw [h0]; exact hc
 refine hfin.mono (fun _ H' ⟨A', ⟨u, done, hB, hE⟩, k1, k2, k3⟩ => ?_) (fun _ _ hq => hq.elim)
 subst k3
 have hl2 : A' l = some (.loop F102.N [11] asg bdy fr .ready none) := hB.look Hp.upd_same
 refine ⟨_, _, by rw [lnH, Hp.upd_ne m1, Hp.upd_ne m2]; exact hl2, by simp, ?_⟩
 rw [encF, List.append_nil] at hE
 subst hE
 obtain ⟨H6, hB6, hsub⟩ := hB.take hl
 have hsub2 : SubH H6 ((lnH A' b1 b2 s).upd l none) := by
  intro k o hk
  have e1 := hsub k o hk
  have d1 : k ≠ b1 := fun e => by rw [e, k1] at e1; cases e1
  have d2 : k ≠ b2 := fun e => by rw [e, k2] at e1; cases e1
  have d3 : k ≠ l := by
   intro e
   subst e
   rcases hB6.fresh hl m3 with h6 | ⟨n, h6⟩
   · rw [h6] at hk; cases hk
   · have := hsub k _ h6
     rw [hl2] at this
     cases this
  rw [Hp.upd_ne d3, lnH, Hp.upd_ne d2, Hp.upd_ne d1]
  exact e1
 refine AC.drop hsub2 ?_
 refine AC.seq (AC.reg ?_)
 have hl3 := enc_len s
 refine RG.callR (d := .str (encF s)) (H' := H) .d (by simp only [List.map, XV, f3]) (String_ok hB6 (by omega)) ?_
 refine go ?_
 exact RG.nilS (AC.ret (fin rfl ⟨rfl, rfl⟩))
def F40 : FN := ⟨68, (.seq (.reg [ji 4 (.box 24 (.t 1))])
 (.seq (.reg [ji 9 (.mv (.t 0)), ji 10 (.fadr 1 (.t 4)), ji 11 (.ld false 1 (.t 10)), ji 12 (.bin .add (.c (.str [60])) (.t 11)), ji 13 (.call 39 [(.t 9), (.t 12)])])
 (.seq (.seq (.reg [ji 14 (.fadr 0 (.t 4)), ji 15 (.ld false 1 (.t 14)), ji 16 (.mv (.t 2)), ji 17 (.bin .neq (.t 15) (.t 16))])
 (.cond (.t 17) (.reg [ji 18 (.mv (.t 0)), ji 19 (.fadr 0 (.t 4)), ji 20 (.ld false 1 (.t 19)), ji 21 (.call 100 [(.t 20)]), ji 22 (.bin .add (.c (.str [32, 120, 109, 108, 110, 115, 61, 34])) (.t 21)), ji 23 (.bin .add (.t 22) (.c (.str [34]))), ji 24 (.call 39 [(.t 18), (.t 23)])])
 .skip))
 (.seq (.reg [ji 25 (.fadr 2 (.t 4)), ji 26 (.ld false 1 (.t 25)), ji 27 (.call 101 [(.t 26)]), ji 6 (.mv (.t 27))])
 (.seq (.seq (.reg [ji 28 (.fadr 3 (.t 4)), ji 29 (.ld false 1 (.t 28))])
 (.cond (.t 29) (.seq (.reg [ji 30 (.mv (.t 0)), ji 31 (.call 39 [(.t 30), (.c (.str [32, 101, 110, 99, 61, 34, 98, 54, 52, 34]))])])
 (.reg [ji 32 (.fadr 2 (.t 4)), ji 33 (.ld false 1 (.t 32)), ji 34 (.call 102 [(.t 33)]), ji 6 (.mv (.t 34))]))
 .skip))
 (.seq (.seq (.reg [ji 35 (.mv (.t 6)), ji 36 (.bin .eql (.t 35) (.c (.str []))), ji 37 (.mv (.t 36)), jg 38 37 true (.fadr 4 (.t 4)), jg 39 37 true (.ld false 1 (.t 38)), jg 40 37 true (.len false (.t 39)), jg 41 37 true (.bin .eql (.t 40) (ci 0)), ji 42 (.pick (.t 37) (.t 41) (.c (.bool false)))])
 (.cond (.t 42) (.seq (.reg [ji 43 (.mv (.t 0)), ji 44 (.call 39 [(.t 43), (.c (.str [47, 62]))])])
 .ret)
 .skip))
 (.seq (.reg [ji 45 (.mv (.t 0)), ji 46 (.mv (.t 6)), ji 47 (.bin .add (.c (.str [62])) (.t 46)), ji 48 (.call 39 [(.t 45), (.t 47)])])
 (.seq (.seq (.reg [ji 49 (.fadr 4 (.t 4)), ji 50 (.ld false 1 (.t 49)), ji 51 (.len false (.t 50)), ji 52 (.mv (ci 0))])
 (.block 0 (.loop (.seq (.reg [ji 53 (.bin .lss (.t 52) (.t 51))])
 (.seq (.cond (.t 53) .skip
 (.exit 0))
 (.seq (.block 1 (.seq (.reg [ji 54 (.iadr 5 (.t 50) (.t 52)), ji 55 (.ld true 5 (.t 54)), ji 8 (.alloc [(.int .i64 0), (.str []), (.str []), (.bool false), .nils] 24), jn (.st 5 (.t 8) (.t 55))])
 (.reg [ji 56 (.mv (.t 0)), ji 57 (.ld true 5 (.t 8)), ji 58 (.fadr 0 (.t 4)), ji 59 (.ld false 1 (.t 58)), ji 60 (.call 40 [(.t 56), (.t 57), (.t 59)])])))
 (.reg [ji 61 (.bin .add (.t 52) (ci 1)), ji 52 (.mv (.t 61))])))))))
 (.reg [ji 62 (.mv (.t 0)), ji 63 (.fadr 1 (.t 4)), ji 64 (.ld false 1 (.t 63)), ji 65 (.bin .add (.c (.str [60, 47])) (.t 64)), ji 66 (.bin .add (.t 65) (.c (.str [62]))), ji 67 (.call 39 [(.t 62), (.t 66)])]))))))))), []⟩
theorem cF40 : cFn prog 40 = some F40 := by kernel_rfl
def F13 : FN := ⟨17, (.seq (.reg [ji 1 (.box 24 (.t 0)), ji 2 (.mv (.c (.str []))), ji 3 (.mv (ci 0))])
 (.seq (.seq (.reg [ji 6 (.ld true 5 (.t 1)), ji 7 (.call 38 [(.t 6)]), ji 4 (.mv (.t 7))])
 (.seq (.reg [ji 8 (.mv (.t 4)), ji 9 (.bin .neq (.t 8) (ci 0))])
 (.cond (.t 9) (.seq (.reg [ji 10 (.mv (.t 4)), ji 2 (.mv (.c (.str []))), ji 3 (.mv (.t 10))])
 .ret)
 .skip)))
 (.seq (.reg [ji 5 (.alloc [.nilp, .nils] 67)])
 (.seq (.reg [ji 11 (.call 39 [(.t 5), (.c (.str [60, 63, 120, 109, 108, 32, 118, 101, 114, 115, 105, 111, 110, 61, 34, 49, 46, 48, 34, 63, 62]))])])
 (.seq (.reg [ji 12 (.ld true 5 (.t 1)), ji 13 (.call 40 [(.t 5), (.t 12), (ci 0)])])
 (.seq (.seq (.reg [ji 14 (.call 41 [(.t 5)]), ji 15 (.bin .gtr (.t 14) (ci 12000))])
 (.cond (.t 15) (.seq (.reg [ji 2 (.mv (.c (.str []))), ji 3 (.mv (ci 8))])
 .ret)
 .skip))
 (.seq (.reg [ji 16 (.call 42 [(.t 5)]), ji 2 (.mv (.t 16)), ji 3 (.mv (ci 0))])
 .ret))))))), [.tmp 2, .tmp 3]⟩
theorem cF13 : cFn prog 13 = some F13 := by kernel_rfl
def F37 : FN := ⟨11, (.seq (.reg [ji 6 (.alloc [(.int .i64 0), (.str []), (.str []), (.bool false), .nils] 24)])
 (.seq (.reg [ji 7 (.mv (.t 0)), ji 8 (.mv (.t 1)), ji 9 (.mv (.t 2)), ji 10 (.bld [(.int .i64 0), (.str []), (.str []), (.bool false), .nils] [(0, 1, (.t 7)), (1, 1, (.t 8)), (2, 1, (.t 9))]), jn (.st 5 (.t 6) (.t 10))])
 .ret)), [.cell 6 true 5]⟩
theorem cF37 : cFn prog 37 = some F37 := by kernel_rfl
mutual
def nodes : El → Nat
 | .mk _ _ _ _ ks => 1 + nodess ks
def nodess : List El → Nat
 | [] => 0
 | k :: ks => nodes k + nodess ks
end
theorem putsF_append : ∀ (a c : List El) (p : Int), putsF p (a ++ c) = putsF p a ++ putsF p c
 | [], c, p => rfl
 | k :: a, c, p => by rw [List.cons_append, putsF, putsF, putsF_append a c p, List.append_assoc]
theorem put_ok {b : Nat} : ∀ (m : Nat) (e : El) (pg : Int) (bs : List UInt8) (u : Bool) (H0 H : Hp), okE e → dp e ≤ m → BLD H0 b u bs H → bs.length + (putF pg e).length ≤ 140737488355328 →
  CALL prog G 40 [.ptr b 0, .agg (elC e), .int .i64 pg] H (fun _ H' => BLD H0 b true (bs ++ putF pg e) H') (fun _ _ => False) := by
 intro m
 induction m with
 | zero =>
   intro e pg bs u H0 H _ hd
   obtain ⟨p, n, t, o, ks⟩ := e
   simp only [dp] at hd; omega
 | succ m ih =>
   intro e pg bs u H0 H hok hd hB hlen
   obtain ⟨p, n, t, o, ks⟩ := e
   have he : elC (.mk p n t o ks) = [.int .i64 p, .str n, .str t, .bool o, .lst (elsC ks) ks.length 5 none] := by rw [elC]
   obtain ⟨hc1, hcs⟩ := hok
   obtain ⟨hp, hn, hkl, hkt, htl, ho1, ho2⟩ := check1_ok hc1
   have hnl : n.length ≤ 32 := by
    cases n with
    | nil => simp [isName] at hn
    | cons c l => simp only [isName, Bool.and_eq_true, decide_eq_true_eq] at hn; omega
   simp only [dp] at hd
   generalize hA1 : (bif p == pg then [] else [32] ++ spaceMark ++ spaceOf p ++ [34]) = A1
   generalize hA2 : (bif o then [32] ++ codeMark ++ b64 ++ [34] else []) = A2
   generalize htx : (bif o then encF t else esc t) = tx
   generalize hT : (bif tx == [] && Nat.beq ks.length 0 then [47, 62] else [62] ++ tx ++ putsF p ks ++ [60, 47] ++ n ++ [62]) = T
   have hput : putF pg (.mk p n t o ks) = [60] ++ n ++ A1 ++ A2 ++ T := by
    simp only [putF, hA1, hA2, htx, hT]
   rw [hput] at hlen ⊢
   simp only [List.length_append, List.length_cons, List.length_nil] at hlen
   refine CALL.of cF40 (Nat.le_of_ble_eq_true rfl) ?_
   refine AC.seq (AC.reg ?_)
   rw [he]
   refine RG.box .d rfl rfl fun q hq => ?_
   have hB1 := hB.put (o := some (.cells [.int .i64 p, .str n, .str t, .bool o, .lst (elsC ks) ks.length 5 none] elT)) hq
   have hq0 := hB.base hq
   have hqb : q ≠ b := fun e => by rw [e] at hq; obtain ⟨_, hc⟩ := hB.cell; rw [hc] at hq; cases hq
   generalize hH1 : H0.upd q (some (.cells [.int .i64 p, .str n, .str t, .bool o, .lst (elsC ks) ks.length 5 none] elT)) = H1 at hB1
   have hq1 : H1 q = some (.cells [.int .i64 p, .str n, .str t, .bool o, .lst (elsC ks) ks.length 5 none] elT) := by rw [← hH1]; exact Hp.upd_same
   have done : ∀ {fr : Fr} {H2 : Hp} {e : EX}, e = .ret ∨ e = .normal → BLD H1 b true (bs ++ ([60] ++ n ++ A1 ++ A2 ++ T)) H2 → Fin F40.rs (fun _ H' => BLD H0 b true (bs ++ ([60] ++ n ++ A1 ++ A2 ++ T)) H') (fun _ _ => False) e fr H2 := by
    intro fr H2 e he h2
    rw [← hH1] at h2
    obtain ⟨H3, h3, h4⟩ := h2.take hq0
    rcases he with rfl | rfl
    · exact finD rfl h4 h3
    · exact finD rfl h4 h3
   refine RG.nilS (AC.seq (AC.reg ?_))
   refine go1 ?_
   refine go1 ?_
   refine RG.ld .d wh (hB1.look hq1) (d := .str n) rfl ?_
   refine RG.addS (a := [60]) .d wh wh (by simp; omega) ?_
   refine RG.call .d rfl (WriteString_ok hB1 (by simp; omega)) (fun d H2 ⟨_, hB2⟩ => ?_) (fun _ _ h => h.elim)
   refine RG.nilS ?_
   refine AC.seqI (I := fun fr' H' => BLD H1 b true (bs ++ ([60] ++ n) ++ A1) H' ∧ Agrees fr' [(0, .ptr b 0), (2, .int .i64 pg), (4, .ptr q 0)]) (AC.seq (AC.reg ?_)) ?_
   · refine go1 ?_
     refine RG.ld .d wh (hB2.look hq1) (d := .int .i64 p) rfl ?_
     refine go1 ?_
     refine RG.p (d := .bool (!(p == pg))) .d rfl ?_
     cases q1 : p == pg
     · rw [q1, cond_false] at hA1
       refine RG.nilS (AC.cond_t rfl (AC.reg ?_))
       refine go1 ?_
       refine go1 ?_
       refine RG.ld .d wh (hB2.look hq1) (d := .int .i64 p) rfl ?_
       refine RG.callP .d rfl (Space_ok p) ?_
       have hsl : (spaceOf p).length ≤ 1000 := by
        unfold spaceOf
        cases p == 0 <;> cases p == 1 <;> cases p == 2 <;> decide
       refine RG.addS (a := [32, 120, 109, 108, 110, 115, 61, 34]) .d wh wh (by simp; omega) ?_
       refine RG.addS .d wh wh (by simp; omega) ?_
       have hA1' : [32, 120, 109, 108, 110, 115, 61, 34] ++ spaceOf p ++ [34] = A1 := by rw [← hA1]; simp [spaceMark]
       rw [hA1']
       refine RG.call .d rfl (WriteString_ok hB2 (by simp; omega)) (fun d H3 ⟨_, hB3⟩ => ?_) (fun _ _ h => h.elim)
       exact RG.nil ⟨hB3, rfl, rfl, rfl, trivial⟩
     · rw [q1, cond_true] at hA1
       subst hA1
       refine RG.nilS (AC.cond_f rfl (AC.skip ⟨?_, rfl, rfl, rfl, trivial⟩))
       rw [List.append_nil]; exact hB2
   intro fr1 H3 ⟨hB3, hf1⟩
   refine AC.to _ hf1 (AC.seq (AC.reg ?_))
   refine go1 ?_
   refine RG.ld .d wh (hB3.look hq1) (d := .str t) rfl ?_
   refine RG.callP .d rfl (Escape_ok t (by omega)) ?_
   refine go ?_
   refine RG.nilS ?_
   refine AC.seqI (I := fun fr' H' => BLD H1 b true (bs ++ ([60] ++ n) ++ A1 ++ A2) H' ∧ Agrees fr' [(0, .ptr b 0), (2, .int .i64 pg), (4, .ptr q 0), (6, .str tx)]) (AC.seq (AC.reg ?_)) ?_
   · refine go1 ?_
     refine RG.ld .d wh (hB3.look hq1) (d := .bool o) rfl ?_
     cases o
     · rw [cond_false] at hA2 htx
       subst hA2; subst htx
       refine RG.nilS (AC.cond_f rfl (AC.skip ⟨?_, rfl, rfl, rfl, rfl, trivial⟩))
       rw [List.append_nil]; exact hB3
     · rw [cond_true] at hA2 htx
       refine RG.nilS (AC.cond_t rfl (AC.seq (AC.reg ?_)))
       have hA2' : [32, 101, 110, 99, 61, 34, 98, 54, 52, 34] = A2 := by rw [← hA2]; rfl
       refine go1 ?_
       rw [hA2']
       refine RG.call .d rfl (WriteString_ok hB3 (by simp; omega)) (fun d H4 ⟨_, hB4⟩ => ?_) (fun _ _ h => h.elim)
       refine RG.nilS (AC.reg ?_)
       refine go1 ?_
       refine RG.ld .d wh (hB4.look hq1) (d := .str t) rfl ?_
       refine RG.callP .d rfl (Encode_ok t (by omega)) ?_
       rw [htx]
       refine go ?_
       exact RG.nil ⟨hB4, rfl, rfl, rfl, rfl, trivial⟩
   intro fr2 H4 ⟨hB4, hf2⟩
   refine AC.to _ hf2 ?_
   refine AC.seqI (x := .seq _ _) (I := fun fr' H' => H' = H4 ∧ (tx == [] && Nat.beq ks.length 0) = false ∧ Agrees fr' [(0, .ptr b 0), (4, .ptr q 0), (6, .str tx)]) (AC.seq (AC.reg ?_)) ?_
   · have emp : (tx == [] && Nat.beq ks.length 0) = true → AC prog G none F40.N (.seq (.reg [ji 43 (.mv (.t 0)), ji 44 (.call 39 [(.t 43), (.c (.str [47, 62]))])]) .ret)
       (Nx (fun fr' H' => H' = H4 ∧ (tx == [] && Nat.beq ks.length 0) = false ∧ Agrees fr' [(0, .ptr b 0), (4, .ptr q 0), (6, .str tx)]) (Fin F40.rs (fun _ H' => BLD H0 b true (bs ++ ([60] ++ n ++ A1 ++ A2 ++ T)) H') (fun _ _ => False))) (frOf [(0, .ptr b 0)]) H4 := by
      intro hE
      rw [hE, cond_true] at hT
      subst hT
      refine AC.seq (AC.reg ?_)
      refine go1 ?_
      refine RG.call .d rfl (WriteString_ok hB4 (by simp; simp at hlen; omega)) (fun d H5 ⟨_, hB5⟩ => ?_) (fun _ _ h => h.elim)
      refine RG.nilS (AC.ret (done (.inl rfl) ?_))
      simpa [List.append_assoc] using hB5
     refine go ?_
     cases q1 : tx == []
     · refine go ?_
       exact RG.nilS (AC.cond_f rfl (AC.skip ⟨rfl, rfl, rfl, rfl, rfl, trivial⟩))
     · refine go1 ?_
       refine RG.ld .d wh (hB4.look hq1) (d := .lst (elsC ks) ks.length 5 none) rfl ?_
       refine go1 ?_
       refine RG.p (d := .bool (Nat.beq ks.length 0)) .d (by
        show some (DV.bool (((ks.length : Nat) : Int) == 0)) = _
        congr 2
        rw [Bool.eq_iff_iff, beq_iff_eq]
        constructor
        · intro h; rw [show ks.length = 0 by omega]; rfl
        · intro h; have := Nat.eq_of_beq_eq_true h; omega) ?_
       refine go ?_
       cases q2 : Nat.beq ks.length 0
       · exact RG.nilS (AC.cond_f rfl (AC.skip ⟨rfl, rfl, rfl, rfl, rfl, trivial⟩))
       · have hem := emp (by rw [q1, q2]; rfl)
         rw [q1, q2] at hem
         exact RG.nilS (AC.cond_t rfl (AC.to [(0, .ptr b 0)] ⟨rfl, trivial⟩ hem))
   intro fr3 H5 ⟨hE, hne, hf3⟩
   subst hE
   rw [hne, cond_false] at hT
   have hTl := congrArg List.length hT
   simp only [List.length_append, List.length_cons, List.length_nil] at hTl
   refine AC.to _ hf3 (AC.seq (AC.reg ?_))
   refine go1 ?_
   refine go1 ?_
   have htxl : tx.length ≤ 140737488355328 := by omega
   refine RG.addS (a := [62]) .d wh wh (by simp; omega) ?_
   refine RG.call .d rfl (WriteString_ok hB4 (by simp; omega)) (fun d H6 ⟨_, hB6⟩ => ?_) (fun _ _ h => h.elim)
   refine RG.nilS (AC.seq (AC.seq (AC.reg ?_)))
   refine go1 ?_
   refine RG.ld .d wh (hB6.look hq1) (d := .lst (elsC ks) ks.length 5 none) rfl ?_
   refine go ?_
   refine RG.nilS ?_
   generalize hbs : bs ++ ([60] ++ n) ++ A1 ++ A2 ++ ([62] ++ tx) = bs6 at hB6
   have hbl := congrArg List.length hbs
   simp only [List.length_append, List.length_cons, List.length_nil] at hbl
   refine AC.bloopH (α := Nat) (β := Unit) (fun i => ks.length - i) (fun i => [(0, .ptr b 0), (4, .ptr q 0), (50, .lst (elsC ks) ks.length 5 none), (51, .int .i64 ks.length), (52, .int .i64 i)])
    (fun i H' => i ≤ ks.length ∧ BLD H1 b true (bs6 ++ putsF p (ks.take i)) H') (fun _ => [(0, .ptr b 0), (4, .ptr q 0)]) (fun _ H' => BLD H1 b true (bs6 ++ putsF p ks) H') ?_ ?_ 0 _
    ⟨by omega, by simpa [putsF] using hB6⟩ ⟨rfl, rfl, rfl, rfl, rfl, trivial⟩
   · intro _ He fr hB7 hfr
     refine AC.to _ hfr (AC.reg ?_)
     refine go1 ?_
     refine go1 ?_
     refine RG.ld .d wh (hB7.look hq1) (d := .str n) rfl ?_
     refine RG.addS (a := [60, 47]) .d wh wh (by simp; omega) ?_
     refine RG.addS .d wh wh (by simp; omega) ?_
     refine RG.call .d rfl (WriteString_ok hB7 (by simp; omega)) (fun d H8 ⟨_, hB8⟩ => ?_) (fun _ _ h => h.elim)
     refine RG.nil (done (.inr rfl) ?_)
     rw [← hT, ← hbs] at *
     simpa [List.append_assoc] using hB8
   · rintro i H' ⟨h1, hB7⟩ ih2 ex
     refine AC.seq (AC.reg ?_)
     refine go ?_
     cases e3 : decide ((i : Int) < ks.length)
     · have e := of_decide_eq_false e3
       rw [List.take_of_length_le (by omega)] at hB7
       exact RG.nilS (AC.seq (AC.cond_f rfl (AC.exit (ex () _ _ hB7 ⟨rfl, rfl, trivial⟩))))
     · have e := of_decide_eq_true e3
       have hi : i < ks.length := by omega
       have htk : putsF p (ks.take (i + 1)) = putsF p (ks.take i) ++ putF p ks[i] := by
        rw [List.take_succ_eq_append_getElem hi, putsF_append, putsF, putsF, List.append_nil]
       have hle : (putsF p (ks.take (i + 1))).length ≤ (putsF p ks).length := by
        have : putsF p ks = putsF p (ks.take (i + 1)) ++ putsF p (ks.drop (i + 1)) := by rw [← putsF_append, List.take_append_drop]
        rw [this, List.length_append]; omega
       rw [htk, List.length_append] at hle
       have hrow : ((elsC ks).drop (i * 5)).take 5 = elC ks[i] := elsC_at ks i _ (List.getElem?_eq_getElem hi)
       have hrow' : partD true 0 5 ((elsC ks).drop (((i : Nat) : Int).toNat * 5)) = some (.agg (elC ks[i])) := partD_row (i := i) (sz := 5) hrow (by rw [elsC_length]; omega)
       refine RG.nilS (AC.seq (AC.cond_t rfl (AC.skip (AC.seq (AC.block (AC.seq (AC.reg ?_)))))))
       refine RG.p .d (evP_iadr wh wh (by omega)) ?_
       refine RG.p .d (evP_ldc wh hrow') ?_
       refine RG.alloc .d fun z hz => ?_
       refine RG.sto (cs := [.int .i64 0, .str [], .str [], .bool false, .nils]) (ty := elT) (d := .agg (elC ks[i])) (ys := elC ks[i]) .d wh Hp.upd_same wh rfl (elC_length _) (by exact Nat.le_refl _) ?_
       have hsp : spliceL 0 (elC ks[i]) [.int .i64 0, .str [], .str [], .bool false, .nils] = elC ks[i] := by
        have h5 := elC_length ks[i]
        simp only [spliceL, List.take_zero, List.nil_append, Nat.zero_add, h5]
        simp
       rw [hsp, Hp.upd_upd]
       have hB8 := hB7.put (o := some (.cells (elC ks[i]) elT)) hz
       have hzq : z ≠ q := fun e => by rw [e, hB7.look hq1] at hz; cases hz
       have hz1 := hB7.base hz
       refine RG.nil (AC.reg ?_)
       refine go1 ?_
       refine RG.ld .d wh Hp.upd_same (d := .agg (elC ks[i])) (by obtain ⟨p', n', t', o', ks', hx⟩ : ∃ p' n' t' o' ks', ks[i] = .mk p' n' t' o' ks' := ⟨_, _, _, _, _, (El.eta ks[i]).symm⟩; rw [hx, elC]; rfl) ?_
       refine go1 ?_
       refine RG.ld .d wh (by rw [Hp.upd_ne (Ne.symm hzq)]; exact hB7.look hq1) (d := .int .i64 p) rfl ?_
       have hkd := dps_le ks ks[i] (List.getElem_mem hi)
       refine RG.call .d rfl (ih ks[i] p _ _ _ _ (okEs_mem ks _ (List.getElem_mem hi) hcs) (by omega) hB8 (by rw [List.length_append]; omega)) (fun d H8 hB9 => ?_) (fun _ _ h => h.elim)
       obtain ⟨H9, hB10, hsub⟩ := hB9.take hz1
       refine RG.nil (AC.drop hsub (AC.reg ?_))
       refine go ?_
       refine RG.nil (ih2 (i + 1) _ ⟨by omega, ?_⟩ (by omega) _ ⟨rfl, rfl, rfl, rfl, rfl, trivial⟩)
       rw [htk, ← List.append_assoc]; exact hB10
mutual
theorem put_len : ∀ (e : El) (pg : Int), okE e → (putF pg e).length ≤ 30000 * nodes e
 | .mk p n t o ks, pg, h => by
   obtain ⟨hp, hn, _, _, htl, _, _⟩ := check1_ok h.1
   have hnl : n.length ≤ 32 := by
    cases n with
    | nil => simp [isName] at hn
    | cons c l => simp only [isName, Bool.and_eq_true, decide_eq_true_eq] at hn; omega
   have hk := puts_len ks p h.2
   have hsl : (spaceOf p).length ≤ 100 := by
    unfold spaceOf
    cases p == 0 <;> cases p == 1 <;> cases p == 2 <;> decide
   have htx : (bif o then encF t else esc t).length ≤ 20000 := by
    have h1 := enc_len t
    have h2 := esc_length t
    cases o
    · simp only [cond_false]; omega
    · simp only [cond_true]; omega
   have h1 : (bif p == pg then [] else [32] ++ spaceMark ++ spaceOf p ++ [34]).length ≤ 200 := by
    cases p == pg
    · simp [spaceMark]; omega
    · simp
   have h2 : (bif o then [32] ++ codeMark ++ b64 ++ [34] else ([] : List UInt8)).length ≤ 20 := by cases o <;> decide
   have h3 : (bif (bif o then encF t else esc t) == [] && Nat.beq ks.length 0 then [47, 62] else [62] ++ (bif o then encF t else esc t) ++ putsF p ks ++ [60, 47] ++ n ++ [62]).length ≤ 20100 + (putsF p ks).length := by
    cases ((bif o then encF t else esc t) == [] && Nat.beq ks.length 0)
    · simp only [cond_false, List.length_append, List.length_cons, List.length_nil]; omega
    · simp only [cond_true, List.length_cons, List.length_nil]; omega
   simp only [putF, List.length_append, nodes, List.length_cons, List.length_nil] at *
   omega
theorem puts_len : ∀ (ks : List El) (pg : Int), okEs ks → (putsF pg ks).length ≤ 30000 * nodess ks
 | [], pg, _ => by simp [putsF, nodess]
 | k :: ks, pg, h => by
   have h1 := put_len k pg h.1
   have h2 := puts_len ks pg h.2
   simp only [putsF, List.length_append, nodess]
   omega
end
mutual
theorem nodes_pre : ∀ (e : El) (d m : Nat), d + dp e ≤ m + 1 → nodes e = (pre m e d).length
 | .mk p n t o ks, d, m, h => by
   simp only [dp] at h
   have hk := nodess_pres ks (d + 1) m (by omega)
   simp only [pre, blt_false (show d ≤ m by omega), cond_false, List.length_cons, nodes, hk]
   omega
theorem nodess_pres : ∀ (ks : List El) (d m : Nat), d + dps ks ≤ m + 1 → nodess ks = (pres m ks d).length
 | [], d, m, _ => rfl
 | k :: ks, d, m, h => by
   simp only [dps] at h
   rw [nodess, nodes_pre k d m (by omega), nodess_pres ks d m (by omega), pres, List.length_append]
end
theorem doc_len {e : El} (h : checkF e = 0) : (putF 0 e).length ≤ 150000000 := by
 obtain ⟨h1, h2⟩ := check_ok h
 have h3 := put_len e 0 h1
 have h4 := nodes_pre e 1 5000 (by omega)
 unfold checkF at h
 obtain ⟨_, h⟩ := bif_zero (by omega) h
 obtain ⟨h5, _⟩ := bif_zero (by omega) h
 simp only [weightF, List.length_take, decide_eq_false_iff_not] at h5
 omega
theorem ldEl (e : El) : partD true 0 5 (elC e) = some (.agg (elC e)) := by
 obtain ⟨p, n, t, o, ks⟩ := e
 rw [elC]; rfl
theorem Write_ok (hG : GOK G) (e : El) (hfit : fits e) : PF prog G 13 [.agg (elC e)] (.tup [.str (writeF e).1, .int .i64 (writeF e).2]) := by
 intro H
 refine CALL.of cF13 (Nat.le_of_ble_eq_true rfl) ?_
 refine AC.seq (AC.reg ?_)
 refine RG.box .d rfl rfl fun q hq => ?_
 refine go ?_
 refine RG.nilS (AC.seq (AC.seq (AC.reg ?_)))
 refine RG.ld (cs := elC e) (ty := elT) .d wh Hp.upd_same (ldEl e) ?_
 refine RG.callP .d rfl (Check_ok hG e hfit) ?_
 refine go ?_
 refine RG.nilS (AC.seq (AC.reg ?_))
 refine go1 ?_
 refine RG.p (d := .bool (!(checkF e == 0))) .d rfl ?_
 cases c0 : checkF e == 0
 · refine RG.nilS (AC.cond_t rfl (AC.seq (AC.reg ?_)))
   refine go ?_
   refine RG.nilS (AC.ret (finD (H' := H) rfl (SubH.fresh hq) ⟨?_, rfl⟩))
   rw [writeF, c0]; rfl
 have hc0 : checkF e = 0 := by simpa using c0
 obtain ⟨hok, hdp⟩ := check_ok hc0
 have hpl := doc_len hc0
 refine RG.nilS (AC.cond_f rfl (AC.skip (AC.seq (AC.reg ?_))))
 refine RG.alloc .d fun b hb => ?_
 have hbq : b ≠ q := fun e => by rw [e, Hp.upd_same] at hb; cases hb
 have hB0 : BLD (H.upd q (some (.cells (elC e) elT))) b false [] ((H.upd q (some (.cells (elC e) elT))).upd b (some (.cells [.nilp, .nils] 67))) := .mt false hb
 have hq0 : (H.upd q (some (.cells (elC e) elT))) q = some (.cells (elC e) elT) := Hp.upd_same
 refine RG.nilS (AC.seq (AC.reg ?_))
 refine RG.call .d rfl (WriteString_ok (s := headF) hB0 (by decide)) (fun d H2 ⟨_, hB2⟩ => ?_) (fun _ _ h => h.elim)
 refine RG.nilS (AC.seq (AC.reg ?_))
 refine RG.ld (cs := elC e) (ty := elT) .d wh (hB2.look hq0) (ldEl e) ?_
 refine RG.call .d rfl (put_ok 12 e 0 _ _ _ _ hok hdp hB2 (by simp only [List.nil_append]; have : headF.length = 21 := rfl; omega)) (fun d H3 hB3 => ?_) (fun _ _ h => h.elim)
 have hdoc : [] ++ headF ++ putF 0 e = docF e := rfl
 rw [hdoc] at hB3
 have hdl : (docF e).length ≤ 200000000 := by
  rw [docF, List.length_append]
  have : headF.length = 21 := rfl
  omega
 refine RG.nilS (AC.seq (AC.seq (AC.reg ?_)))
 refine RG.callR .d rfl (Len_ok hB3) ?_
 refine go ?_
 cases c1 : decide ((((docF e).length : Nat) : Int) > 12000)
 · refine RG.nilS (AC.cond_f rfl (AC.skip (AC.seq (AC.reg ?_))))
   refine RG.callR .d rfl (String_ok hB3 (by omega)) ?_
   refine go ?_
   refine RG.nilS (AC.ret (finD (H' := H) rfl (SubH.fresh hq) ⟨?_, rfl⟩))
   rw [writeF, c0, c1]; rfl
 · refine RG.nilS (AC.cond_t rfl (AC.seq (AC.reg ?_)))
   refine go ?_
   refine RG.nilS (AC.ret (finD (H' := H) rfl ((SubH.fresh hq).trans hB3.sub) ⟨?_, rfl⟩))
   rw [writeF, c0, c1]; rfl
theorem Leaf_ok (p : Int) (n t : List UInt8) : PF prog G 37 [.int .i64 p, .str n, .str t] (.agg (elC (.mk p n t false []))) := by
 intro H
 refine CALL.of cF37 (Nat.le_of_ble_eq_true rfl) ?_
 refine AC.seq (AC.reg ?_)
 refine RG.alloc .d fun q hq => ?_
 refine RG.nilS (AC.seq (AC.reg ?_))
 refine go1 ?_
 refine go1 ?_
 refine go1 ?_
 refine go1 ?_
 refine RG.sto (cs := [.int .i64 0, .str [], .str [], .bool false, .nils]) (ty := elT) (d := .agg [.int .i64 p, .str n, .str t, .bool false, .nils]) .d wh Hp.upd_same (by exact rfl) rfl rfl (by exact Nat.le_refl _) ?_
 refine RG.nilS (AC.ret ?_)
 refine finL (ds := [.agg [.int .i64 p, .str n, .str t, .bool false, .nils]]) (d := .agg (elC (.mk p n t false []))) (H' := H) ?_ ?_ ?_ ⟨rfl, rfl⟩
 · rw [Hp.upd_upd]
   have hld : ldD (H.upd q (some (.cells [.int .i64 p, .str n, .str t, .bool false, .nils] elT))) true 5 (.ptr q 0) = some (.agg [.int .i64 p, .str n, .str t, .bool false, .nils]) := by
    unfold ldD
    dsimp only
    rw [Hp.upd_same]; rfl
   show (ldD (H.upd q (some (.cells [.int .i64 p, .str n, .str t, .bool false, .nils] elT))) true 5 (.ptr q 0)).bind _ = _
   rw [hld]; rfl
 · have : elC (.mk p n t false []) = [.int .i64 p, .str n, .str t, .bool false, .lst [] 0 5 none] := by rw [elC]; rfl
   rw [this]
   exact (DLes.cons (DLe.refl _) (.cons (DLe.refl _) (.cons (DLe.refl _) (.cons (DLe.refl _) (.cons DLe.nils .nil))))).agg
 · rw [Hp.upd_upd]; exact SubH.fresh hq
open Go Go.Run Go.RowKit
open Go.Proofs.Tryz (prog)
def F118 : FN := ⟨97, (.seq (.reg [ji 2 (.mv (.c (.str []))), ji 3 (.mv (ci 0))])
 (.seq (.reg [ji 4 (.mv (.c .nils))])
 (.seq (.reg [ji 5 (.mv (.c (.int .u32 0))), ji 6 (.mv (ci 0)), ji 7 (.mv (ci 0))])
 (.seq (.reg [ji 8 (.mv (.c (.bool false)))])
 (.seq (.seq (.reg [ji 13 (.mv (.t 0)), ji 14 (.s2b 5 (.t 13)), ji 15 (.len false (.t 14)), ji 16 (.mv (ci 0))])
 (.block 0 (.loop (.seq (.reg [ji 17 (.bin .lss (.t 16) (.t 15))])
 (.seq (.cond (.t 17) .skip
 (.exit 0))
 (.seq (.block 1 (.seq (.reg [ji 18 (.iadr 1 (.t 14) (.t 16)), ji 19 (.ld false 1 (.t 18)), ji 10 (.mv (.t 19))])
 (.seq (.seq (.reg [ji 20 (.mv (.t 10)), ji 21 (.call 176 [(.t 20)])])
 (.cond (.t 21) (.exit 1)
 .skip))
 (.seq (.reg [ji 22 (.mv (.t 10)), ji 23 (.call 177 [(.c (.str [65, 66, 67, 68, 69, 70, 71, 72, 73, 74, 75, 76, 77, 78, 79, 80, 81, 82, 83, 84, 85, 86, 87, 88, 89, 90, 97, 98, 99, 100, 101, 102, 103, 104, 105, 106, 107, 108, 109, 110, 111, 112, 113, 114, 115, 116, 117, 118, 119, 120, 121, 122, 48, 49, 50, 51, 52, 53, 54, 55, 56, 57, 43, 47])), (.t 22)]), ji 11 (.mv (.t 23))])
 (.seq (.block 2 (.seq (.reg [ji 25 (.mv (.t 11)), ji 26 (.bin .lss (.t 25) (ci 0)), ji 27 (.mv (.t 26)), jg 28 27 true (.mv (.t 10)), jg 29 27 true (.bin .neq (.t 28) (.c (.int .u8 61))), ji 30 (.pick (.t 27) (.t 29) (.c (.bool false))), ji 24 (.mv (.t 30))])
 (.cond (.t 24) (.seq (.reg [ji 2 (.mv (.c (.str []))), ji 3 (.mv (ci 3))])
 .ret)
 (.seq (.reg [ji 32 (.mv (.t 7)), ji 33 (.bin .gtr (.t 32) (ci 0)), ji 34 (.mv (.t 33)), jg 35 34 true (.mv (.t 6)), jg 36 34 true (.bin .eql (.t 35) (ci 0)), ji 37 (.pick (.t 34) (.t 36) (.c (.bool false))), ji 31 (.mv (.t 37))])
 (.cond (.t 31) (.seq (.reg [ji 2 (.mv (.c (.str []))), ji 3 (.mv (ci 6))])
 .ret)
 (.seq (.seq (.reg [ji 39 (.mv (.t 10)), ji 40 (.bin .eql (.t 39) (.c (.int .u8 61))), ji 41 (.mv (.t 40)), jg 42 41 true (.mv (.t 6)), jg 43 41 true (.bin .lss (.t 42) (ci 2)), ji 44 (.pick (.t 41) (.t 43) (.c (.bool false))), ji 38 (.mv (.t 44))])
 (.cond (.t 38) .skip
 (.reg [ji 45 (.mv (.t 10)), ji 46 (.bin .neq (.t 45) (.c (.int .u8 61))), ji 47 (.mv (.t 46)), jg 48 47 true (.mv (.t 7)), jg 49 47 true (.bin .gtr (.t 48) (ci 0)), ji 50 (.pick (.t 47) (.t 49) (.c (.bool false))), ji 38 (.mv (.t 50))])))
 (.cond (.t 38) (.seq (.reg [ji 2 (.mv (.c (.str []))), ji 3 (.mv (ci 3))])
 .ret)
 (.seq (.reg [ji 52 (.mv (.t 10)), ji 53 (.bin .eql (.t 52) (.c (.int .u8 61))), ji 51 (.mv (.t 53))])
 (.cond (.t 51) (.seq (.reg [ji 54 (.mv (.t 7)), ji 55 (.bin .add (.t 54) (ci 1)), ji 7 (.mv (.t 55))])
 (.reg [ji 11 (.mv (ci 0))]))
 .skip)))))))))
 (.seq (.reg [ji 56 (.mv (.t 5)), ji 57 (.bin .shl (.t 56) (.c (.int .u64 6))), ji 58 (.mv (.t 11)), ji 59 (.conv .u32 (.t 58)), ji 60 (.bin .or (.t 57) (.t 59)), ji 5 (.mv (.t 60))])
 (.seq (.seq (.reg [ji 61 (.mv (.t 6)), ji 62 (.bin .add (.t 61) (ci 1)), ji 6 (.mv (.t 62))])
 (.seq (.reg [ji 63 (.mv (.t 6)), ji 64 (.bin .lss (.t 63) (ci 4))])
 (.cond (.t 64) (.exit 1)
 .skip)))
 (.seq (.reg [ji 65 (.mv (.t 8)), ji 66 (.mv (.t 65)), jg 67 66 false (.mv (.t 5)), jg 68 66 false (.mv (.t 7)), jg 69 66 false (.bin .mul (ci 8) (.t 68)), jg 70 66 false (.bin .shl (.c (.int .u32 1)) (.t 69)), jg 71 66 false (.bin .sub (.t 70) (.c (.int .u32 1))), jg 72 66 false (.bin .and (.t 67) (.t 71)), jg 73 66 false (.bin .neq (.t 72) (.c (.int .u32 0))), ji 74 (.pick (.t 66) (.c (.bool true)) (.t 73)), ji 8 (.mv (.t 74))])
 (.seq (.reg [ji 75 (.mv (.t 5)), ji 76 (.bin .shr (.t 75) (.c (.int .u64 16))), ji 77 (.conv .u8 (.t 76)), ji 78 (.mv (.t 5)), ji 79 (.bin .shr (.t 78) (.c (.int .u64 8))), ji 80 (.conv .u8 (.t 79)), ji 81 (.mv (.t 5)), ji 82 (.conv .u8 (.t 81)), ji 83 (.bld [(.int .u8 0), (.int .u8 0), (.int .u8 0)] [(0, 1, (.t 77)), (1, 1, (.t 80)), (2, 1, (.t 82))]), ji 12 (.alloc [(.int .u8 0), (.int .u8 0), (.int .u8 0)] 172), jn (.st 3 (.t 12) (.t 83))])
 (.seq (.reg [ji 84 (.mv (.t 4)), ji 85 (.mv (.t 7)), ji 86 (.bin .sub (ci 3) (.t 85)), ji 87 (.slcA 3 1 (.t 12) none (some (.t 86))), ji 88 (.app 5 1 1 (.t 84) (.t 87)), ji 4 (.mv (.t 88))])
 (.reg [ji 5 (.mv (.c (.int .u32 0))), ji 6 (.mv (ci 0))])))))))))))
 (.reg [ji 89 (.bin .add (.t 16) (ci 1)), ji 16 (.mv (.t 89))])))))))
 (.seq (.block 3 (.seq (.reg [ji 91 (.mv (.t 6)), ji 92 (.bin .neq (.t 91) (ci 0)), ji 90 (.mv (.t 92))])
 (.cond (.t 90) (.seq (.reg [ji 2 (.mv (.c (.str []))), ji 3 (.mv (ci 1))])
 .ret)
 (.seq (.reg [ji 94 (.mv (.t 8)), ji 93 (.mv (.t 94))])
 (.cond (.t 93) (.seq (.reg [ji 2 (.mv (.c (.str []))), ji 3 (.mv (ci 3))])
 .ret)
 .skip)))))
 (.seq (.reg [ji 95 (.mv (.t 4)), ji 96 (.b2s (.t 95)), ji 2 (.mv (.t 96)), ji 3 (.mv (ci 0))])
 .ret))))))), [.tmp 2, .tmp 3]⟩
theorem cF118 : cFn prog 118 = some F118 := by kernel_rfl
variable {G : Gl}
inductive BUF (H0 : Hp) : List UInt8 → DV → Hp → Prop
 | nil : BUF H0 [] .nils H0
 | on (g : Nat) (bs : List UInt8) : H0 g = none → bs ≠ [] → BUF H0 bs (.lst (bs.map B8) bs.length 1 (some (g, 0))) (H0.upd g (some (.front bs.length 1 5)))
theorem BUF.sub {H0 H : Hp} {bs : List UInt8} {d : DV} (h : BUF H0 bs d H) : SubH H0 H := by
 cases h with
 | nil => exact SubH.refl _
 | on g bs h1 h2 => exact SubH.fresh h1
theorem BUF.put {H0 H : Hp} {q : Nat} {bs : List UInt8} {d : DV} {o : Option DO} (h : BUF H0 bs d H) (hq : H q = none) : BUF (H0.upd q o) bs d (H.upd q o) := by
 cases h with
 | nil => exact .nil
 | on g bs h1 h2 =>
   have hqg : q ≠ g := fun e => by rw [e, Hp.upd_same] at hq; cases hq
   rw [Hp.upd_comm (Ne.symm hqg)]
   exact .on g bs (by rw [Hp.upd_ne (Ne.symm hqg)]; exact h1) h2
theorem BUF.take {H0 H : Hp} {q : Nat} {bs : List UInt8} {d : DV} {o : DO} (h : BUF (H0.upd q (some o)) bs d H) (hq : H0 q = none) : ∃ H', BUF H0 bs d H' ∧ SubH H' H := by
 cases h with
 | nil => exact ⟨_, .nil, SubH.fresh hq⟩
 | on g bs h1 h2 =>
   have hgq : g ≠ q := fun e => by rw [e, Hp.upd_same] at h1; cases h1
   rw [Hp.upd_ne hgq] at h1
   refine ⟨_, .on g bs h1 h2, ?_⟩
   rw [Hp.upd_comm (Ne.symm hgq)]
   exact SubH.fresh (by rw [Hp.upd_ne (Ne.symm hgq)]; exact hq)
theorem BUF.base {H0 H : Hp} {q : Nat} {bs : List UInt8} {d : DV} (h : BUF H0 bs d H) (hq : H q = none) : H0 q = none := by
 cases e : H0 q with
 | none => rfl
 | some o => rw [h.sub q o e] at hq; cases hq
theorem BUF.app {H0 H : Hp} {bs ys : List UInt8} {d : DV} {N : Nat} {x y : X} {dst : Option Nat} {l : List Ins} {Q : EX → Fr → Hp → Prop} {fr : Fr} (h : BUF H0 bs d H) (hlen : bs.length + ys.length ≤ 140737488355328) (hys : ys ≠ [])
  (hx : XV G fr x = d) (hy : srcD H 1 (XV G fr y) = some (ys.map B8, ys.length)) (k : ∀ d' H', BUF H0 (bs ++ ys) d' H' → RG prog G none N l Q (fr.put dst d') H') :
  RG prog G none N (⟨dst, none, .app 5 1 1 x y⟩ :: l) Q fr H := by
 have hpos : 0 < ys.length := List.length_pos_iff.2 hys
 cases h with
 | nil =>
   refine RG.st (ST.app_new (.inl hx) hy hpos (by simp at hlen; omega) fun g hg => ?_)
   exact k _ _ (.on g ys hg hys)
 | on g _ h1 h2 =>
   refine RG.st (ST.app_own hx Hp.upd_same hy (by omega) fun g' hg' => ?_)
   have hg2 : H0 g' = none := by
    rcases hg' with rfl | hg'
    · exact h1
    · by_cases e : g' = g
      · rw [e]; exact h1
      · rw [Hp.upd_ne e] at hg'; exact hg'
   rw [Hp.upd_upd, Hp.upd_id h1, ← List.map_append, ← List.length_append]
   exact k _ _ (.on g' (bs ++ ys) hg2 (by simp [h2]))
theorem shl6 (w : Nat) : shI .shl .u32 (w : Int) 6 = some (.int .u32 ((w * 64 % 4294967296 : Nat) : Int)) := by
 show some (DV.int .u32 (IntKind.u32.wrap ((w : Int) * 2 ^ 6))) = _
 rw [IntKind.wrap_u32]
 congr 2
theorem u8_conv (n : Nat) : convD .u8 (.int .u32 (n : Int)) = some (B8 (UInt8.ofNat n)) := by
 show some (DV.int .u8 (IntKind.u8.wrap (n : Int))) = _
 rw [IntKind.wrap_u8, B8, UInt8.toNat_ofNat']
 congr 2
theorem mask_u32 (w g : Nat) (hw : w < 4294967296) (hg : g ≤ 2) : w &&& (2 ^ (8 * g) - 1) = w % 2 ^ (8 * g) := Nat.and_two_pow_sub_one_eq_mod w (8 * g)
theorem at64_lt (c : UInt8) (h : ¬ at64 c < 0) : (at64 c).toNat < 64 := by
 have key : ∀ (l : List UInt8), Lib.indexByte l c < l.length ∨ Lib.indexByte l c = -1 := by
  intro l
  induction l with
  | nil => right; rfl
  | cons b l ih =>
    unfold Lib.indexByte
    split
    · left; simp
    · split
      · right; rfl
      · rename_i h1
        left
        have : Lib.indexByte l c ≠ -1 := by simpa using h1
        simp only [List.length_cons]
        rcases ih with ih | ih
        · omega
        · exact absurd ih this
 rcases key letters64 with h1 | h1
 · have h2 : letters64.length = 64 := rfl
   unfold at64 at h ⊢
   omega
 · unfold at64 at h; omega
def decX (c : CC) : CC := ccSnd (ccSnd (ccSnd (ccSnd c)))
def decRest (c : CC) : CC := ccSnd (decX c)
def decLoop (c : CC) : CC := ccIn (ccIn (ccSnd (ccFst (decX c))))
def decTail (c : CC) : CC := ccSnd (ccSnd (ccSnd (ccSnd (ccIn (ccFst (ccSnd (ccSnd (decLoop c))))))))
structure DS where
 i : Nat
 b : List UInt8
 d : DV
 w : Nat
 n : Nat
 g : Nat
 odd : Bool
def DS.L (s : List UInt8) (a : DS) : List (Nat × DV) := [(4, a.d), (5, .int .u32 a.w), (6, .int .i64 a.n), (7, .int .i64 a.g), (8, .bool a.odd), (14, .lst (s.map B8) s.length 1 none), (15, .int .i64 s.length), (16, .int .i64 a.i)]
structure DS.ok (H : Hp) (s : List UInt8) (a : DS) (H' : Hp) : Prop where
 buf : BUF H a.b a.d H'
 le : a.i ≤ s.length
 eq : decF s = decGo (s.drop a.i) a.b a.w a.n a.g a.odd
 w : a.w < 4294967296
 n : a.n < 4
 g : a.g ≤ 2
 n1 : a.n = 1 → a.g = 0
 n2 : a.n = 2 → a.g = 0
 n3 : a.n = 3 → a.g ≤ 1
 len : a.b.length ≤ 3 * a.i
theorem Decode_ok (s : List UInt8) (hs : s.length ≤ 10000000000000) : PF prog G 118 [.str s] (.tup [.str (decF s).1, .int .i64 (decF s).2]) := by
 intro H
 refine CALL.of cF118 (Nat.le_of_ble_eq_true rfl) ?_
 refine AC.seq (AC.reg ?_)
 refine go ?_
 refine RG.nilS (AC.seq (AC.reg ?_))
 refine go ?_
 refine RG.nilS (AC.seq (AC.reg ?_))
 refine go ?_
 refine RG.nilS (AC.seq (AC.reg ?_))
 refine go ?_
 refine RG.nilS (AC.seq (AC.seq (AC.reg ?_)))
 refine go1 ?_
 refine RG.s .d (ST.s2b rfl ?_)
 refine go ?_
 refine RG.nilS ?_
 have bad : ∀ {v : List UInt8 × Int}, decF s = v → ∀ {fr : Fr} {H' : Hp}, SubH H H' → fr 2 = .str v.1 → fr 3 = .int .i64 v.2 → Fin F118.rs (fun d' H' => d' = .tup [.str (decF s).1, .int .i64 (decF s).2] ∧ H' = H) (fun _ _ => False) .ret fr H' := by
  intro v hv fr H' hsub h2 h3
  refine finD (H' := H) (ds := [.str v.1, .int .i64 v.2]) ?_ hsub ⟨by rw [hv]; rfl, rfl⟩
  show some [fr 2, fr 3] = _
  rw [h2, h3]
 refine AC.bloopH (α := DS) (β := DS) (fun a => s.length - a.i) (DS.L s) (DS.ok H s) (fun a => [(4, a.d), (6, .int .i64 a.n), (8, .bool a.odd)]) (fun a H' => DS.ok H s a H' ∧ a.i = s.length) ?_ ?_ ⟨0, [], .nils, 0, 0, 0, false⟩ _
  ⟨.nil, Nat.zero_le _, rfl, by simp, by simp, by simp, by simp, by simp, by simp, by simp⟩ ⟨rfl, rfl, rfl, rfl, rfl, rfl, rfl, rfl, trivial⟩
 · rintro ⟨ai, ab, ad, aw, an, ag, ao⟩ He fr ⟨hok, hi⟩ hfr
   have heq := hok.eq
   have hsub := hok.buf.sub
   have hb := hok.buf
   dsimp only at hi heq hfr hb
   rw [hi, List.drop_length, decGo] at heq
   refine AC.to _ hfr (AC.seq (AC.block (AC.seq (AC.reg ?_))))
   refine go1 ?_
   refine RG.p (d := .bool (!(an == 0))) .d (by
    show some (DV.bool ((an : Int) != 0)) = _
    congr 2
    rw [bne]; congr 1
    rw [Bool.eq_iff_iff, beq_iff_eq, beq_iff_eq]; omega) ?_
   refine go1 ?_
   cases e1 : an == 0
   · rw [e1] at heq
     refine RG.nilS (AC.cond_t rfl (AC.seq (AC.reg ?_)))
     refine go ?_
     exact RG.nilS (AC.ret (bad heq hsub rfl rfl))
   rw [e1] at heq
   refine RG.nilS (AC.cond_f rfl (AC.seq (AC.reg ?_)))
   refine go ?_
   cases e2 : ao
   · rw [e2] at heq
     refine RG.nilS (AC.cond_f rfl (AC.skip ?_))
     cases hb with
     | nil =>
       refine AC.seq (AC.reg ?_)
       refine go1 ?_
       refine RG.st (ST.b2s_nil rfl ?_)
       refine go ?_
       exact RG.nilS (AC.ret (bad heq hsub rfl rfl))
     | on g bs h1 h2 =>
       refine AC.seq (AC.reg ?_)
       refine go1 ?_
       refine RG.st (ST.b2s rfl ?_)
       refine go ?_
       exact RG.nilS (AC.ret (bad heq hsub rfl rfl))
   · rw [e2] at heq
     refine RG.nilS (AC.cond_t rfl (AC.seq (AC.reg ?_)))
     refine go ?_
     exact RG.nilS (AC.ret (bad heq hsub rfl rfl))
 · rintro ⟨i, b, d, w, n, g, odd⟩ H' hok ih ex
   have heq := hok.eq
   have hbuf := hok.buf
   have hsub := hok.buf.sub
   have hw := hok.w; have hn := hok.n; have hg := hok.g; have hn1 := hok.n1; have hn2 := hok.n2; have hn3 := hok.n3; have hlen := hok.len; have hle := hok.le
   dsimp only at heq hbuf hw hn hg hn1 hn2 hn3 hlen hle ih
   rw [show DS.L s ⟨i, b, d, w, n, g, odd⟩ = [(4, d), (5, .int .u32 (w : Int)), (6, .int .i64 (n : Int)), (7, .int .i64 (g : Int)), (8, .bool odd), (14, .lst (s.map B8) s.length 1 none), (15, .int .i64 (s.length : Int)), (16, .int .i64 (i : Int))] from rfl]
   refine AC.seq (AC.reg ?_)
   refine go ?_
   cases e1 : decide ((i : Int) < s.length)
   · have e := of_decide_eq_false e1
     exact RG.nilS (AC.seq (AC.cond_f rfl (AC.exit (ex ⟨i, b, d, w, n, g, odd⟩ _ _ ⟨hok, by dsimp only; omega⟩ ⟨rfl, rfl, rfl, trivial⟩))))
   have e := of_decide_eq_true e1
   have hi : i < s.length := by omega
   rw [List.drop_eq_getElem_cons hi] at heq
   refine RG.nilS (AC.seq (AC.cond_t rfl (AC.skip (AC.seq (AC.block (AC.seq (AC.reg ?_)))))))
   refine RG.p .d (evP_iadr wh wh (by omega)) ?_
   refine RG.p .d (evP_ldc wh (partD_one (d := B8 s[i]) (by simp [hi]))) ?_
   refine go ?_
   generalize s[i] = c at heq
   have next : ∀ (b' : List UInt8) (d' : DV) (w' n' g' : Nat) (odd' : Bool) (H2 : Hp) (fr : Fr), DS.ok H s ⟨i + 1, b', d', w', n', g', odd'⟩ H2 → Agrees fr [(4, d'), (5, .int .u32 w'), (6, .int .i64 n'), (7, .int .i64 g'), (8, .bool odd'), (14, .lst (s.map B8) s.length 1 none), (15, .int .i64 s.length), (16, .int .i64 i)] →
     AC prog G none F118.N (.reg [ji 89 (.bin .add (.t 16) (ci 1)), ji 16 (.mv (.t 89))]) (Sq prog G none F118.N (.loop (decLoop F118.c)) (Bk 0 (Sq prog G none F118.N (decRest F118.c) (Fin F118.rs (fun d' H' => d' = .tup [.str (decF s).1, .int .i64 (decF s).2] ∧ H' = H) (fun _ _ => False))))) fr H2 := by
    intro b' d' w' n' g' odd' H2 fr hok2 hfr
    refine AC.to _ hfr (AC.reg ?_)
    refine go ?_
    exact RG.nil (ih ⟨i + 1, b', d', w', n', g', odd'⟩ _ hok2 (by dsimp only; omega) _ ⟨rfl, rfl, rfl, rfl, rfl, rfl, rfl, rfl, trivial⟩)
   rw [decGo] at heq
   refine RG.nilS (AC.seq (AC.seq (AC.reg ?_)))
   refine go1 ?_
   refine RG.callP .d rfl (passed_ok c) ?_
   cases c0 : isWs c
   case true =>
    rw [c0, cond_true] at heq
    refine RG.nilS (AC.cond_t rfl (AC.exit ?_))
    exact next b d w n g odd H' _ ⟨hbuf, by dsimp only; omega, heq, hw, hn, hg, hn1, hn2, hn3, by dsimp only; omega⟩ ⟨rfl, rfl, rfl, rfl, rfl, rfl, rfl, rfl, trivial⟩
   rw [c0, cond_false] at heq
   refine RG.nilS (AC.cond_f rfl (AC.skip (AC.seq (AC.reg ?_))))
   refine go1 ?_
   refine RG.callP (d := .int .i64 (at64 c)) .d rfl (indexByte_ok letters64 c) ?_
   refine go ?_
   have q61 : ((c.toNat : Int) == 61) = (c == 61) := u8eq c 61
   have q61n : ((c.toNat : Int) != 61) = !(c == 61) := by rw [bne, q61]
   generalize hLL : ([(4, d), (5, .int .u32 (w : Int)), (6, .int .i64 (n : Int)), (7, .int .i64 (g : Int)), (8, .bool odd), (10, B8 c), (11, .int .i64 (at64 c)), (14, .lst (s.map B8) s.length 1 none), (15, .int .i64 (s.length : Int)), (16, .int .i64 (i : Int))] : List (Nat × DV)) = LL
   refine RG.nilS (AC.seq (AC.block (AC.seqA (l := (24, .bool (decide (at64 c < 0) && !(c == 61))) :: LL) (H' := H') (AC.reg ?_) ?_)))
   · subst hLL
     refine go ?_
     cases c1 : decide (at64 c < 0)
     · refine go ?_
       exact RG.nil ⟨rfl, rfl, rfl, rfl, rfl, rfl, rfl, rfl, rfl, rfl, rfl, rfl, trivial⟩
     · refine go ?_
       rw [q61n]
       exact RG.nil ⟨rfl, rfl, rfl, rfl, rfl, rfl, rfl, rfl, rfl, rfl, rfl, rfl, trivial⟩
   cases c1 : (decide (at64 c < 0) && !(c == 61))
   case true =>
    rw [c1, cond_true] at heq
    refine AC.cond_t rfl (AC.seq (AC.reg ?_))
    refine go ?_
    exact RG.nilS (AC.ret (bad heq hsub rfl rfl))
   rw [c1, cond_false] at heq
   refine AC.cond_f rfl (AC.seqA (l := (31, .bool (decide (0 < g) && n == 0)) :: LL) (H' := H') (AC.reg ?_) ?_)
   · subst hLL
     refine go1 ?_
     refine RG.p (d := .bool (decide (0 < g))) .d (by
      show some (DV.bool (decide ((g : Int) > 0))) = _
      congr 2
      rw [decide_eq_decide]; omega) ?_
     cases c2 : decide (0 < g)
     · refine go ?_
       exact RG.nil ⟨rfl, rfl, rfl, rfl, rfl, rfl, rfl, rfl, rfl, rfl, rfl, rfl, trivial⟩
     · refine go1 ?_
       refine go1 ?_
       refine RG.p (d := .bool (n == 0)) .d (by
        show some (DV.bool ((n : Int) == 0)) = _
        congr 2
        rw [Bool.eq_iff_iff]; simp) ?_
       refine go ?_
       exact RG.nil ⟨rfl, rfl, rfl, rfl, rfl, rfl, rfl, rfl, rfl, rfl, rfl, rfl, trivial⟩
   cases c2 : (decide (0 < g) && n == 0)
   case true =>
    rw [c2, cond_true] at heq
    refine AC.cond_t rfl (AC.seq (AC.reg ?_))
    refine go ?_
    exact RG.nilS (AC.ret (bad heq hsub rfl rfl))
   rw [c2, cond_false] at heq
   refine AC.cond_f rfl (AC.seqA (l := (38, .bool ((c == 61 && decide (n < 2)) || (!(c == 61) && decide (0 < g)))) :: LL) (H' := H') (AC.seq (AC.reg ?_)) ?_)
   · subst hLL
     refine go1 ?_
     refine RG.p (d := .bool (c == 61)) .d (by show some (DV.bool ((c.toNat : Int) == 61)) = _; rw [q61]) ?_
     cases c3 : c == 61
     · refine go ?_
       refine RG.nilS (AC.cond_f rfl (AC.reg ?_))
       refine go1 ?_
       refine RG.p (d := .bool true) .d (by show some (DV.bool ((c.toNat : Int) != 61)) = _; rw [q61n, c3]; rfl) ?_
       refine go1 ?_
       refine go1 ?_
       refine RG.p (d := .bool (decide (0 < g))) .d (by
        show some (DV.bool (decide ((g : Int) > 0))) = _
        congr 2
        rw [decide_eq_decide]; omega) ?_
       refine go ?_
       exact RG.nil ⟨rfl, rfl, rfl, rfl, rfl, rfl, rfl, rfl, rfl, rfl, rfl, rfl, trivial⟩
     · refine go1 ?_
       refine go1 ?_
       refine RG.p (d := .bool (decide (n < 2))) .d (by
        show some (DV.bool (decide ((n : Int) < 2))) = _
        congr 2
        rw [decide_eq_decide]; omega) ?_
       cases c4 : decide (n < 2)
       · refine go ?_
         refine RG.nilS (AC.cond_f rfl (AC.reg ?_))
         refine go1 ?_
         refine RG.p (d := .bool false) .d (by show some (DV.bool ((c.toNat : Int) != 61)) = _; rw [q61n, c3]; rfl) ?_
         refine go ?_
         exact RG.nil ⟨rfl, rfl, rfl, rfl, rfl, rfl, rfl, rfl, rfl, rfl, rfl, rfl, trivial⟩
       · refine go ?_
         exact RG.nilS (AC.cond_t rfl (AC.skip ⟨rfl, rfl, rfl, rfl, rfl, rfl, rfl, rfl, rfl, rfl, rfl, rfl, trivial⟩))
   cases c3 : ((c == 61 && decide (n < 2)) || (!(c == 61) && decide (0 < g)))
   case true =>
    rw [c3, cond_true] at heq
    refine AC.cond_t rfl (AC.seq (AC.reg ?_))
    refine go ?_
    exact RG.nilS (AC.ret (bad heq hsub rfl rfl))
   rw [c3, cond_false] at heq
   dsimp only at heq
   generalize hg' : (bif c == 61 then g + 1 else g) = g' at heq
   generalize ha' : (bif c == 61 then 0 else (at64 c).toNat) = a' at heq
   have hal : a' < 64 := by
    rw [← ha']
    cases q : c == 61
    · have hne : ¬ at64 c < 0 := by
       intro h
       rw [q, decide_eq_true h] at c1
       simp at c1
      exact at64_lt c hne
    · simp
   have hgl : g' ≤ 2 ∧ (n + 1 = 1 → g' = 0) ∧ (n + 1 = 2 → g' = 0) ∧ (n + 1 = 3 → g' ≤ 1) := by
    rw [← hg']
    cases q : c == 61
    · rw [q] at c3
      have : g = 0 := by
       simp only [Bool.false_and, Bool.not_false, Bool.true_and, Bool.false_or, decide_eq_false_iff_not] at c3
       omega
      simp only [cond_false]
      omega
    · rw [q] at c3
      have : ¬ n < 2 := by
       simp only [Bool.true_and, Bool.not_true, Bool.false_and, Bool.or_false, decide_eq_false_iff_not] at c3
       exact c3
      simp only [cond_true]
      by_cases h2 : n = 2
      · have := hn2 h2; omega
      · have := hn3 (by omega); omega
   refine AC.cond_f rfl ?_
   have hmid : ∀ fr : Fr, Agrees fr [(4, d), (5, .int .u32 (w : Int)), (6, .int .i64 (n : Int)), (7, .int .i64 (g' : Int)), (8, .bool odd), (11, .int .i64 (a' : Int)), (14, .lst (s.map B8) s.length 1 none), (15, .int .i64 (s.length : Int)), (16, .int .i64 (i : Int))] →
     AC prog G none F118.N (decTail F118.c) (Bk 1 (Sq prog G none F118.N (.reg [ji 89 (.bin .add (.t 16) (ci 1)), ji 16 (.mv (.t 89))]) (Sq prog G none F118.N (.loop (decLoop F118.c)) (Bk 0 (Sq prog G none F118.N (decRest F118.c) (Fin F118.rs (fun d' H' => d' = .tup [.str (decF s).1, .int .i64 (decF s).2] ∧ H' = H) (fun _ _ => False))))))) fr H' := by
    intro fr hfr
    refine AC.to _ hfr (AC.seq (AC.reg ?_))
    refine go1 ?_
    refine RG.p (d := .int .u32 ((w * 64 % 4294967296 : Nat) : Int)) .d (shl6 w) ?_
    refine go1 ?_
    refine RG.p (d := .int .u32 (a' : Int)) .d (by
     show some (DV.int .u32 (IntKind.u32.wrap (a' : Int))) = _
     rw [u32_wrap _ (by omega)]) ?_
    have hwl : w * 64 % 4294967296 < 4294967296 := Nat.mod_lt _ (by omega)
    have hw' : w * 64 % 4294967296 ||| a' < 4294967296 := Nat.or_lt_two_pow (n := 32) hwl (by omega)
    refine RG.p (d := .int .u32 ((w * 64 % 4294967296 ||| a' : Nat) : Int)) .d (or_u32 _ _ hwl (by omega)) ?_
    generalize w * 64 % 4294967296 ||| a' = w' at heq hw'
    refine go ?_
    refine RG.nilS (AC.seq (AC.seq (AC.reg ?_)))
    refine go ?_
    refine RG.nilS (AC.seq (AC.reg ?_))
    refine go1 ?_
    refine RG.p (d := .bool (decide (n + 1 < 4))) .d (by
     show some (DV.bool (decide (((n : Int) + 1) < 4))) = _
     congr 2
     rw [decide_eq_decide]; omega) ?_
    cases c4 : decide (n + 1 < 4)
    case true =>
     have hn4 := of_decide_eq_true c4
     rw [c4, cond_true] at heq
     refine RG.nilS (AC.cond_t rfl (AC.exit ?_))
     exact next b d w' (n + 1) g' odd H' _ ⟨hbuf, by dsimp only; omega, heq, hw', hn4, hgl.1, fun h => hgl.2.1 h, fun h => hgl.2.2.1 h, fun h => hgl.2.2.2 h, by dsimp only; omega⟩ ⟨rfl, rfl, rfl, rfl, rfl, rfl, rfl, rfl, trivial⟩
    rw [c4, cond_false] at heq
    have hn4 := of_decide_eq_false c4
    have hn3' : n = 3 := by omega
    refine RG.nilS (AC.cond_f rfl (AC.skip ?_))
    have hM : w' % 2 ^ (8 * g') < 4294967296 := Nat.lt_of_le_of_lt (Nat.mod_le _ _) hw'
    refine AC.seqA (l := [(4, d), (5, .int .u32 (w' : Int)), (7, .int .i64 (g' : Int)), (8, .bool (odd || !(w' % 2 ^ (8 * g') == 0))), (14, .lst (s.map B8) s.length 1 none), (15, .int .i64 (s.length : Int)), (16, .int .i64 (i : Int))]) (H' := H') (AC.reg ?_) ?_
    · cases odd
      · refine go1 ?_
        refine go1 ?_
        refine go1 ?_
        refine go1 ?_
        refine RG.p (d := .int .i64 ((8 * g' : Nat) : Int)) .d (by
         show some (DV.int .i64 (IntKind.i64.wrap (8 * (g' : Int)))) = _
         rw [IntWalk.i64_in _ (by omega)]; congr 2) ?_
        have hp2 : 1 * 2 ^ (8 * g') < 4294967296 := by
         have : 2 ^ (8 * g') ≤ 2 ^ 16 := Nat.pow_le_pow_right (by omega) (by omega)
         omega
        have hp1 : 1 ≤ 2 ^ (8 * g') := Nat.one_le_two_pow
        refine RG.p (d := .int .u32 ((1 * 2 ^ (8 * g') : Nat) : Int)) .d (shl_u32 1 (8 * g') (by omega) hp2) ?_
        refine RG.p (d := .int .u32 ((2 ^ (8 * g') - 1 : Nat) : Int)) .d (by
         show some (DV.int .u32 (IntKind.u32.wrap (((1 * 2 ^ (8 * g') : Nat) : Int) - 1))) = _
         have : ((1 * 2 ^ (8 * g') : Nat) : Int) - 1 = ((2 ^ (8 * g') - 1 : Nat) : Int) := by omega
         rw [this, u32_wrap _ (by omega)]) ?_
        refine RG.p (d := .int .u32 ((w' % 2 ^ (8 * g') : Nat) : Int)) .d (by
         rw [← mask_u32 w' g' hw' hgl.1]
         exact and_u32 w' (2 ^ (8 * g') - 1) hw' (by omega)) ?_
        refine RG.p (d := .bool (!(w' % 2 ^ (8 * g') == 0))) .d (by
         show some (DV.bool (((w' % 2 ^ (8 * g') : Nat) : Int) != 0)) = _
         generalize w' % 2 ^ (8 * g') = z
         congr 2
         rw [bne]; congr 1
         rw [Bool.eq_iff_iff, beq_iff_eq, beq_iff_eq]; omega) ?_
        refine go ?_
        exact RG.nil ⟨rfl, rfl, rfl, rfl, rfl, rfl, rfl, rfl, trivial⟩
      · refine go ?_
        exact RG.nil ⟨rfl, rfl, rfl, rfl, rfl, rfl, rfl, rfl, trivial⟩
    refine AC.seq (AC.reg ?_)
    refine go1 ?_
    refine RG.p (d := .int .u32 ((w' / 65536 : Nat) : Int)) .d (shr_u32 w' 16 (by omega)) ?_
    refine RG.p (d := B8 (UInt8.ofNat (w' / 65536))) .d (u8_conv _) ?_
    refine go1 ?_
    refine RG.p (d := .int .u32 ((w' / 256 : Nat) : Int)) .d (shr_u32 w' 8 (by omega)) ?_
    refine RG.p (d := B8 (UInt8.ofNat (w' / 256))) .d (u8_conv _) ?_
    refine go1 ?_
    refine RG.p (d := B8 (UInt8.ofNat w')) .d (u8_conv _) ?_
    refine RG.p (d := .agg ((bytes3 w').map B8)) .d rfl ?_
    refine RG.alloc .d fun q hq => ?_
    refine RG.sto (cs := [.int .u8 0, .int .u8 0, .int .u8 0]) (ty := 172) (d := .agg ((bytes3 w').map B8)) (ys := (bytes3 w').map B8) .d wh Hp.upd_same wh rfl rfl (by exact Nat.le_refl _) ?_
    have hsp : spliceL 0 ((bytes3 w').map B8) [.int .u8 0, .int .u8 0, .int .u8 0] = (bytes3 w').map B8 := rfl
    rw [hsp, Hp.upd_upd]
    have hb2 := hbuf.put (o := some (.cells ((bytes3 w').map B8) 172)) hq
    have hq0 := hbuf.base hq
    refine RG.nilS (AC.seq (AC.reg ?_))
    refine go1 ?_
    refine go1 ?_
    refine RG.p (d := .int .i64 ((3 - g' : Nat) : Int)) .d (by
     show some (DV.int .i64 (IntKind.i64.wrap (3 - (g' : Int)))) = _
     rw [IntWalk.i64_in _ (by omega)]; congr 2; omega) ?_
    refine RG.p (d := .win q 0 (3 - g') 3) .d (by
     show slcAD 3 1 none (some (.int .i64 ((3 - g' : Nat) : Int))) (.ptr q 0) = _
     have h1 : (0 : Int) ≤ ((3 - g' : Nat) : Int) ∧ ((3 - g' : Nat) : Int) ≤ ((3 : Nat) : Int) := by omega
     simp only [slcAD, bndD, h1, and_self, if_true, Int.toNat_natCast, Option.bind_some]
     rfl) ?_
    have htk : ((bytes3 w').take (3 - g')).length = 3 - g' := by
     rw [List.length_take, show (bytes3 w').length = 3 from rfl]; omega
    refine hb2.app (ys := (bytes3 w').take (3 - g')) (by omega) (by intro h; rw [h] at htk; simp at htk; omega) rfl (by
     show srcD _ 1 (.win q 0 (3 - g') 3) = _
     have hl : 0 + (3 - g') ≤ ((bytes3 w').map B8).length := by
      rw [List.length_map, show (bytes3 w').length = 3 from rfl]; omega
     have hq3 : (H'.upd q (some (.cells ((bytes3 w').map B8) 172))) q = some (.cells ((bytes3 w').map B8) 172) := Hp.upd_same
     simp only [srcD, hq3, Nat.mul_one, if_pos hl, List.drop_zero, htk, List.map_take]) (fun d' H2 hb3 => ?_)
    obtain ⟨H3, hb4, hsub4⟩ := hb3.take hq0
    refine RG.drop hsub4 ?_
    refine go ?_
    refine RG.nilS (AC.reg ?_)
    refine go ?_
    refine RG.nil ?_
    exact next _ d' 0 0 g' _ H3 _ ⟨hb4, by dsimp only; omega, heq, by simp, by simp, hgl.1, by simp, by simp, by simp, by dsimp only; rw [List.length_append]; omega⟩ ⟨rfl, rfl, rfl, rfl, rfl, rfl, rfl, rfl, trivial⟩
   subst hLL
   refine AC.seq (AC.reg ?_)
   refine go1 ?_
   refine RG.p (d := .bool (c == 61)) .d (by show some (DV.bool ((c.toNat : Int) == 61)) = _; rw [q61]) ?_
   refine go ?_
   cases q : c == 61
   · rw [q, cond_false] at hg' ha'
     have hne : ¬ at64 c < 0 := by
      intro h
      rw [q, decide_eq_true h] at c1
      simp at c1
     have haa : at64 c = (a' : Int) := by rw [← ha']; omega
     refine RG.nilS (AC.cond_f rfl (AC.skip ?_))
     exact hmid _ ⟨rfl, rfl, rfl, by rw [← hg']; rfl, rfl, by rw [← haa]; rfl, rfl, rfl, rfl, trivial⟩
   · rw [q, cond_true] at hg' ha'
     refine RG.nilS (AC.cond_t rfl (AC.seq (AC.reg ?_)))
     refine go ?_
     refine RG.nilS (AC.reg ?_)
     refine go ?_
     refine RG.nil ?_
     exact hmid _ ⟨rfl, rfl, rfl, by rw [← hg']; rfl, rfl, by rw [← ha']; rfl, rfl, rfl, rfl, trivial⟩
open Go Go.Run Go.RowKit
open Go.Proofs.Tryz (prog)
def F115 : FN := ⟨96, (.seq (.reg [ji 6 (.mv (.c (.str [])))])
 (.seq (.reg [ji 7 (.alloc [.nilp, .nils] 67)])
 (.seq (.block 0 (.loop (.seq (.seq (.reg [ji 10 (.mv (.t 0)), ji 11 (.call 50 [(.t 10), (.c (.str [60, 47]))]), ji 12 (.un .not (.t 11))])
 (.cond (.t 12) .skip
 (.exit 0)))
 (.block 1 (.seq (.draw [ji 13 (.mv (.t 0)), ji 14 (.call 55 [(.t 13)]), ji 15 (.mv (.t 0)), ji 16 (.nilc (.t 15)), ji 17 (.fadr 1 (.t 16)), ji 18 (.ld false 1 (.t 17)), ji 8 (.mv (.t 14)), ji 9 (.mv (.t 18))] [[], [0], [], [2], [3], [4], [1, 1, 0, 1], [5, 6, 0, 1, 2, 3, 4, 5, 6]])
 (.seq (.reg [ji 19 (.mv (.t 8)), ji 20 (.bin .neq (.t 19) (.c (.str []))), ji 21 (.mv (.t 9)), ji 22 (.call 54 [(.t 20), (.t 21), (ci 1)])])
 (.block 2 (.seq (.reg [ji 64 (.mv (.t 8)), ji 65 (.idx (.t 64) (ci 0)), ji 66 (.bin .eql (.t 65) (.c (.int .u8 38))), ji 63 (.mv (.t 66))])
 (.cond (.t 63) (.reg [ji 67 (.mv (.t 0)), ji 68 (.call 172 [(.t 67)]), ji 69 (.call 39 [(.t 7), (.t 68)])])
 (.seq (.reg [ji 71 (.mv (.t 0)), ji 72 (.call 50 [(.t 71), (.c (.str [60, 33, 91, 67, 68, 65, 84, 65, 91]))]), ji 70 (.mv (.t 72))])
 (.cond (.t 70) (.reg [ji 73 (.mv (.t 0)), ji 74 (.call 51 [(.t 73), (.c (.str [93, 93, 62]))]), ji 75 (.call 39 [(.t 7), (.t 74)])])
 (.seq (.reg [ji 77 (.mv (.t 0)), ji 78 (.call 50 [(.t 77), (.c (.str [60, 33, 45, 45]))]), ji 76 (.mv (.t 78))])
 (.cond (.t 76) (.reg [ji 79 (.mv (.t 0)), ji 80 (.call 51 [(.t 79), (.c (.str [45, 45, 62]))])])
 (.seq (.reg [ji 82 (.mv (.t 8)), ji 83 (.idx (.t 82) (ci 0)), ji 84 (.bin .neq (.t 83) (.c (.int .u8 60))), ji 81 (.mv (.t 84))])
 (.cond (.t 81) (.seq (.reg [ji 85 (.mv (.t 8)), ji 86 (.idx (.t 85) (ci 0)), ji 87 (.call 44 [(.t 7), (.t 86)])])
 (.reg [ji 88 (.mv (.t 0)), ji 89 (.nilc (.t 88)), ji 90 (.fadr 1 (.t 89)), ji 91 (.ld false 1 (.t 90)), ji 92 (.bin .add (.t 91) (ci 1)), ji 93 (.nilc (.t 88)), ji 94 (.fadr 1 (.t 93)), jn (.st 1 (.t 94) (.t 92))]))
 (.seq (.reg [ji 23 (.mv (.t 8)), ji 24 (.len true (.t 23)), ji 25 (.bin .gtr (.t 24) (ci 1)), ji 26 (.mv (.t 25)), jg 27 26 true (.mv (.t 8)), jg 28 26 true (.idx (.t 27) (ci 1)), jg 29 26 true (.call 113 [(.t 28)]), ji 30 (.pick (.t 26) (.t 29) (.c (.bool false))), ji 31 (.mv (.t 9)), ji 32 (.call 54 [(.t 30), (.t 31), (ci 3)])])
 (.seq (.reg [ji 33 (.mv (.t 2)), ji 34 (.bin .lss (.t 33) (ci 12)), ji 35 (.mv (.t 9)), ji 36 (.call 54 [(.t 34), (.t 35), (ci 9)])])
 (.seq (.reg [ji 37 (.mv (.t 1)), ji 38 (.nilc (.t 37)), ji 39 (.fadr 4 (.t 38)), ji 40 (.ld false 1 (.t 39)), ji 41 (.len false (.t 40)), ji 42 (.bin .lss (.t 41) (ci 200)), ji 43 (.mv (.t 9)), ji 44 (.call 54 [(.t 42), (.t 43), (ci 4)])])
 (.draw [ji 45 (.mv (.t 1)), ji 46 (.nilc (.t 45)), ji 47 (.fadr 4 (.t 46)), ji 48 (.ld false 1 (.t 47)), ji 49 (.mv (.t 0)), ji 50 (.mv (.t 1)), ji 51 (.nilc (.t 50)), ji 52 (.fadr 0 (.t 51)), ji 53 (.ld false 1 (.t 52)), ji 54 (.mv (.t 2)), ji 55 (.bin .add (.t 54) (ci 1)), ji 56 (.call 53 [(.t 49), (.t 53), (.t 55)]), ji 57 (.len false (.t 48)), ji 58 (.bsl 24 1 5 [(.int .i64 0), (.str []), (.str []), (.bool false), .nils] [(0, 5, (.c (.agg [(.int .i64 0), (.str []), (.str []), (.bool false), .nils])))]), ji 59 (.app 24 5 72 (.t 48) (.t 58)), ji 60 (.iadr 5 (.t 59) (.t 57)), jn (.st 5 (.t 60) (.t 56)), ji 61 (.nilc (.t 45)), ji 62 (.fadr 4 (.t 61)), jn (.st 1 (.t 62) (.t 59))] [[], [0], [1], [2], [], [], [5], [6], [7], [], [9], [4, 8, 10], [3], [], [3, 13, 11, 0, 1, 2, 3, 4, 5, 6, 7, 8, 9, 10, 11, 12, 13], [14, 12, 0, 1, 2, 3, 4, 5, 6, 7, 8, 9, 10, 11, 12, 13, 14], [15, 11, 14, 0, 1, 2, 3, 4, 5, 6, 7, 8, 9, 10, 11, 12, 13, 14], [0, 0, 1, 2, 3, 4, 5, 6, 7, 8, 9, 10, 11, 12, 13, 14], [17, 0, 1, 2, 3, 4, 5, 6, 7, 8, 9, 10, 11, 12, 13, 14], [18, 14, 14, 0, 1, 2, 3, 4, 5, 6, 7, 8, 9, 10, 11, 12, 13, 14]])))))))))))))))))))
 (.seq (.reg [ji 95 (.call 42 [(.t 7)]), ji 6 (.mv (.t 95))])
 .ret)))), [.tmp 6]⟩
theorem cF115 : cFn prog 115 = some F115 := by kernel_rfl
variable {G : Gl}
theorem prefix_le {t s : List UInt8} {i : Nat} (h : List.isPrefixOf t (s.drop i) = true) (ht : t ≠ []) : i + t.length ≤ s.length := by
 have := (List.isPrefixOf_iff_prefix.1 h).length_le
 have h0 : 0 < t.length := List.length_pos_iff.2 ht
 rw [List.length_drop] at this
 omega
theorem uptoF_prog {s t : List UInt8} {i : Nat} {x : List UInt8} {j : Nat} (h : uptoF s t i = .ok (x, j)) (hi : i ≤ s.length) : i + t.length ≤ j ∧ j ≤ s.length := by
 unfold uptoF at h
 cases hc : cutO t (s.drop i) with
 | none => rw [hc] at h; cases h
 | some p =>
   rw [hc] at h
   simp only [Except.ok.injEq, Prod.mk.injEq] at h
   obtain ⟨rfl, rfl⟩ := h
   have := congrArg List.length (cutO_spec t _ p.1 p.2 hc)
   simp only [List.length_drop, List.length_append] at this
   omega
theorem bif_ok {α ε : Type} {b : Bool} {e : ε} {x : Except ε α} {y : α} (h : (bif b then .error e else x) = .ok y) : b = false ∧ x = .ok y := by
 cases b
 · exact ⟨rfl, h⟩
 · cases h
theorem entityF_prog {s : List UInt8} {i : Nat} {x : List UInt8} {j : Nat} (h : entityF s i = .ok (x, j)) : i < j ∧ j ≤ s.length := by
 unfold entityF at h
 cases hf : ents.find? (fun p => p.1.isPrefixOf (s.drop i)) with
 | some p =>
   rw [hf] at h
   simp only [Except.ok.injEq, Prod.mk.injEq] at h
   obtain ⟨rfl, rfl⟩ := h
   have h1 := List.find?_some hf
   have h2 := List.mem_of_find?_eq_some hf
   have hne : p.1 ≠ [] := by
    simp only [ents, List.mem_cons, List.not_mem_nil, or_false] at h2
    rcases h2 with rfl | rfl | rfl | rfl | rfl <;> simp
   have := prefix_le h1 hne
   have h0 : 0 < p.1.length := List.length_pos_iff.2 hne
   omega
 | none =>
   rw [hf] at h
   dsimp only at h
   obtain ⟨e1, h⟩ := bif_ok h
   obtain ⟨e2, h⟩ := bif_ok h
   obtain ⟨_, h⟩ := bif_ok h
   simp only [Except.ok.injEq, Prod.mk.injEq] at h
   obtain ⟨_, rfl⟩ := h
   rw [Bool.not_eq_false', Bool.and_eq_true] at e2
   have := prefix_le e2.2 (by simp)
   simp only [List.length_singleton] at this
   omega
theorem withinF_prog {s : List UInt8} {kid : Nat → RES (El × Nat)} {more : Bool} (hk : ∀ i x j, i ≤ s.length → kid i = .ok (x, j) → i < j ∧ j ≤ s.length ∧ fits x) : ∀ (f i : Nat) (b : List UInt8) (ks : List El) (t : List UInt8) (ks' : List El) (m : Nat),
  withinF s kid more f i b ks = .ok (t, ks', m) → i ≤ s.length → fitss ks → ks.length ≤ 200 → i + 2 ≤ m ∧ m ≤ s.length ∧ fitss ks' ∧ ks'.length ≤ 200
 | 0, i, b, ks, t, ks', m, h, _, _, _ => by simp [withinF] at h
 | f + 1, i, b, ks, t, ks', m, h, hi, hf, hl => by
   rw [withinF] at h
   cases e1 : List.isPrefixOf [60, 47] (s.drop i)
   case true =>
    rw [e1] at h
    simp only [cond_true, Except.ok.injEq, Prod.mk.injEq] at h
    obtain ⟨_, rfl, rfl⟩ := h
    have := prefix_le e1 (by simp)
    exact ⟨Nat.le_refl _, this, hf, hl⟩
   rw [e1, cond_false] at h
   cases hd : s.drop i with
   | nil => rw [hd] at h; cases h
   | cons c l =>
     have hlt : i < s.length := by
      have := congrArg List.length hd
      simp only [List.length_drop, List.length_cons] at this
      omega
     rw [hd] at h
     dsimp only at h
     cases e2 : c == 38
     case true =>
      rw [e2, cond_true] at h
      cases he : entityF s i with
      | error e => rw [he] at h; cases h
      | ok p =>
        obtain ⟨x, j⟩ := p
        rw [he] at h
        have hp := entityF_prog he
        obtain ⟨a1, a2⟩ := withinF_prog hk f j _ _ _ _ _ h hp.2 hf hl
        exact ⟨by omega, a2⟩
     rw [e2, cond_false] at h
     cases e3 : List.isPrefixOf rawM (c :: l)
     case true =>
      rw [e3, cond_true] at h
      have hpl := prefix_le (t := rawM) (s := s) (i := i) (by rw [hd]; exact e3) (by simp [rawM])
      cases he : uptoF s rawEnd (i + 9) with
      | error e => rw [he] at h; cases h
      | ok p =>
        obtain ⟨x, j⟩ := p
        rw [he] at h
        have hp := uptoF_prog he hpl
        obtain ⟨a1, a2⟩ := withinF_prog hk f j _ _ _ _ _ h hp.2 hf hl
        exact ⟨by omega, a2⟩
     rw [e3, cond_false] at h
     cases e4 : List.isPrefixOf remM (c :: l)
     case true =>
      rw [e4, cond_true] at h
      have hpl := prefix_le (t := remM) (s := s) (i := i) (by rw [hd]; exact e4) (by simp [remM])
      cases he : uptoF s remEnd (i + 4) with
      | error e => rw [he] at h; cases h
      | ok p =>
        obtain ⟨x, j⟩ := p
        rw [he] at h
        have hp := uptoF_prog he hpl
        obtain ⟨a1, a2⟩ := withinF_prog hk f j _ _ _ _ _ h hp.2 hf hl
        exact ⟨by omega, a2⟩
     rw [e4, cond_false] at h
     cases e5 : c == 60
     case false =>
      rw [e5] at h
      obtain ⟨a1, a2⟩ := withinF_prog hk f (i + 1) _ _ _ _ _ h (by omega) hf hl
      exact ⟨by omega, a2⟩
     rw [e5, Bool.not_true, cond_false] at h
     obtain ⟨_, h⟩ := bif_ok h
     obtain ⟨_, h⟩ := bif_ok h
     obtain ⟨e6, h⟩ := bif_ok h
     rw [Bool.not_eq_false', decide_eq_true_eq] at e6
     cases he : kid i with
     | error e => rw [he] at h; cases h
     | ok p =>
       obtain ⟨x, j⟩ := p
       rw [he] at h
       have hp := hk i x j hi he
       obtain ⟨a1, a2⟩ := withinF_prog hk f j _ _ _ _ _ h hp.2.1 (fitss_of _ (fun k hk' => by
        rcases List.mem_append.1 hk' with h' | h'
        · exact fitss_mem ks hf k h'
        · rw [List.mem_singleton.1 h']; exact hp.2.2)) (by simp; omega)
       exact ⟨by omega, a2⟩
theorem BLD.rem {H0 H : Hp} {b k : Nat} {u : Bool} {bs : List UInt8} {o : DO} (h : BLD H0 b u bs H) (hk : H0 k = some o) : BLD (H0.upd k none) b u bs (H.upd k none) := by
 have hkb : k ≠ b := fun e => by rw [e, h.free] at hk; cases hk
 cases h with
 | mt h =>
   rw [Hp.upd_comm (Ne.symm hkb)]
   exact .mt u (by rw [Hp.upd_ne (Ne.symm hkb)]; exact h)
 | on g bs h1 h2 h3 h4 =>
   have hkg : k ≠ g := fun e => by rw [e, h2] at hk; cases hk
   rw [Hp.upd_comm (Ne.symm hkg), Hp.upd_comm (Ne.symm hkb)]
   exact .on u g bs (by rw [Hp.upd_ne (Ne.symm hkb)]; exact h1) (by rw [Hp.upd_ne (Ne.symm hkg)]; exact h2) h3 h4
inductive WST (H0 : Hp) (be : Nat) (p4 : List DV) : List El → DV → Hp → Prop
 | nil : WST H0 be p4 [] .nils (H0.upd be (some (.cells (p4 ++ [.nils]) elT)))
 | on (g cap : Nat) (rest : List DV) (ks : List El) : H0 g = none → g ≠ be → (elsC ks ++ rest).length = cap * 5 → ks.length ≤ cap →
   WST H0 be p4 ks (.win g 0 ks.length cap) ((H0.upd be (some (.cells (p4 ++ [.win g 0 ks.length cap]) elT))).upd g (some (.cells (elsC ks ++ rest) elT)))
theorem WST.sub {H0 A : Hp} {be : Nat} {p4 : List DV} {ks : List El} {K : DV} (h : WST H0 be p4 ks K A) (hbe : H0 be = none) : SubH H0 A := by
 cases h with
 | nil => exact SubH.fresh hbe
 | on g cap rest ks h1 h2 h3 h4 => exact (SubH.fresh hbe).trans (SubH.fresh (by rw [Hp.upd_ne h2]; exact h1))
theorem WST.var {H0 A : Hp} {be : Nat} {p4 : List DV} {ks : List El} {K : DV} (h : WST H0 be p4 ks K A) : A be = some (.cells (p4 ++ [K]) elT) := by
 cases h with
 | nil => exact Hp.upd_same
 | on g cap rest ks h1 h2 h3 h4 => rw [Hp.upd_ne (Ne.symm h2)]; exact Hp.upd_same
theorem WST.upd {H0 A : Hp} {be b : Nat} {p4 : List DV} {ks : List El} {K : DV} {o o' : DO} (h : WST H0 be p4 ks K A) (hbe : H0 be = none) (hb : H0 b = some o) : WST (H0.upd b (some o')) be p4 ks K (A.upd b (some o')) := by
 have hbb : b ≠ be := fun e => by rw [e, hbe] at hb; cases hb
 cases h with
 | nil => rw [Hp.upd_comm (Ne.symm hbb)]; exact .nil
 | on g cap rest ks h1 h2 h3 h4 =>
   have hbg : b ≠ g := fun e => by rw [e, h1] at hb; cases hb
   rw [Hp.upd_comm (Ne.symm hbg), Hp.upd_comm (Ne.symm hbb)]
   exact .on g cap rest ks (by rw [Hp.upd_ne (Ne.symm hbg)]; exact h1) h2 h3 h4
theorem WST.len {H0 A : Hp} {be : Nat} {p4 : List DV} {ks : List El} {K : DV} (h : WST H0 be p4 ks K A) : lenD false K = some (.int .i64 ks.length) := by cases h <;> rfl
structure WS (H0 : Hp) (s : List UInt8) (ty : TypeId) (b be bb : Nat) (p4 : List DV) (i : Nat) (ks : List El) (txt : List UInt8) (H' : Hp) : Prop where
 hb : b ≠ be
 hbe : H0 be = none
 st : ∃ K A u, WST (H0.upd b (rd s i ty)) be p4 ks K A ∧ BLD A bb u txt H'
section
variable {H0 H' : Hp} {s : List UInt8} {ty : TypeId} {b be bb i : Nat} {p4 : List DV} {ks : List El} {txt : List UInt8}
theorem WS.be0 (h : WS H0 s ty b be bb p4 i ks txt H') : (H0.upd b (rd s i ty)) be = none := by rw [Hp.upd_ne (Ne.symm h.hb)]; exact h.hbe
theorem WS.sub (h : WS H0 s ty b be bb p4 i ks txt H') : SubH (H0.upd b (rd s i ty)) H' := by
 obtain ⟨K, A, u, h1, h2⟩ := h.st
 exact (h1.sub h.be0).trans h2.sub
theorem WS.rd (h : WS H0 s ty b be bb p4 i ks txt H') : H' b = rd s i ty := h.sub b _ Hp.upd_same
theorem WS.upd (h : WS H0 s ty b be bb p4 i ks txt H') (j : Nat) : WS H0 s ty b be bb p4 j ks txt (H'.upd b (Go.Run.Tryz.rd s j ty)) := by
 obtain ⟨K, A, u, h1, h2⟩ := h.st
 have hb : (H0.upd b (Go.Run.Tryz.rd s i ty)) b = some (.cells [.str s, .int .i64 i] ty) := Hp.upd_same
 have h3 := h1.upd (o' := .cells [.str s, .int .i64 j] ty) h.be0 hb
 rw [Hp.upd_upd] at h3
 exact ⟨h.hb, h.hbe, K, _, u, h3, h2.upd (h1.sub h.be0 b _ hb)⟩
theorem WS.bld (h : WS H0 s ty b be bb p4 i ks txt H') : ∃ A u, BLD A bb u txt H' ∧ ∀ u' txt' H'', BLD A bb u' txt' H'' → WS H0 s ty b be bb p4 i ks txt' H'' := by
 obtain ⟨K, A, u, h1, h2⟩ := h.st
 exact ⟨A, u, h2, fun u' txt' H'' h3 => ⟨h.hb, h.hbe, K, A, u', h1, h3⟩⟩
theorem WS.var (h : WS H0 s ty b be bb p4 i ks txt H') : ∃ K, H' be = some (.cells (p4 ++ [K]) elT) ∧ lenD false K = some (.int .i64 ks.length) := by
 obtain ⟨K, A, u, h1, h2⟩ := h.st
 exact ⟨K, h2.look h1.var, h1.len⟩
end
end Go.Run.Tryz
