/- Part 9 of a proof: texts N26 N27 N28 N29 E6 E7 E8 E9 H2 H3 H4 H5 B1 B2 B3 B4. -/
import Derived.Test.YthmjdmianbobbaaGreatDoorVH
import Derived.KernelRfl
namespace Go.Run.Tryz
open Go Go.Run Go.RowKit
open Go.Proofs.Tryz (prog)
def F70 : FN := ⟨53, (.seq (.reg [ji 6 (.box 24 (.t 1)), ji 10 (.mv (.c .nils))])
 (.seq (.seq (.reg [ji 12 (.mv (.t 2)), ji 13 (.mv (.t 4)), ji 14 (.bin .gtr (.t 12) (.t 13)), ji 15 (.mv (.t 14)), jg 16 15 false (.mv (.t 0)), jg 17 15 false (.len false (.t 16)), jg 18 15 false (.mv (.t 3)), jg 19 15 false (.bin .geq (.t 17) (.t 18)), ji 20 (.pick (.t 15) (.c (.bool true)) (.t 19))])
 (.cond (.t 20) (.seq (.reg [ji 21 (.mv (.t 0)), ji 10 (.mv (.t 21))])
 .ret)
 .skip))
 (.seq (.reg [ji 22 (.mv (.t 0)), ji 23 (.mv (.t 2)), ji 24 (.ld true 5 (.t 6)), ji 25 (.bld [(.int .i64 0), (.int .i64 0), (.str []), (.str []), (.bool false), .nils] [(0, 1, (.t 23)), (1, 5, (.t 24))]), ji 26 (.bsl 47 1 6 [(.int .i64 0), (.int .i64 0), (.str []), (.str []), (.bool false), .nils] [(0, 6, (.t 25))]), ji 27 (.app 47 6 80 (.t 22) (.t 26)), ji 0 (.mv (.t 27))])
 (.seq (.seq (.reg [ji 11 (.mv (ci 0))])
 (.block 0 (.loop (.seq (.seq (.reg [ji 28 (.mv (.t 11)), ji 29 (.fadr 4 (.t 6)), ji 30 (.ld false 1 (.t 29)), ji 31 (.len false (.t 30)), ji 32 (.bin .lss (.t 28) (.t 31)), ji 33 (.mv (.t 32)), jg 34 33 true (.mv (.t 0)), jg 35 33 true (.len false (.t 34)), jg 36 33 true (.mv (.t 3)), jg 37 33 true (.bin .lss (.t 35) (.t 36)), ji 38 (.pick (.t 33) (.t 37) (.c (.bool false)))])
 (.cond (.t 38) .skip
 (.exit 0)))
 (.seq (.block 1 (.reg [ji 41 (.mv (.t 0)), ji 42 (.fadr 4 (.t 6)), ji 43 (.ld false 1 (.t 42)), ji 44 (.mv (.t 11)), ji 45 (.iadr 5 (.t 43) (.t 44)), ji 46 (.ld true 5 (.t 45)), ji 47 (.mv (.t 2)), ji 48 (.bin .add (.t 47) (ci 1)), ji 49 (.mv (.t 3)), ji 50 (.mv (.t 4)), ji 51 (.call 70 [(.t 41), (.t 46), (.t 48), (.t 49), (.t 50)]), ji 0 (.mv (.t 51))]))
 (.reg [ji 39 (.mv (.t 11)), ji 40 (.bin .add (.t 39) (ci 1)), ji 11 (.mv (.t 40))]))))))
 (.seq (.reg [ji 52 (.mv (.t 0)), ji 10 (.mv (.t 52))])
 .ret))))), [.tmp 10]⟩
theorem cF70 : cFn prog 70 = some F70 := by kernel_rfl
def F21 : FN := ⟨11, (.seq (.reg [ji 3 (.box 24 (.t 0)), ji 6 (.mv (.c .nils))])
 (.seq (.reg [ji 7 (.ld true 5 (.t 3)), ji 8 (.mv (.t 1)), ji 9 (.mv (.t 2)), ji 10 (.call 70 [(.c .nils), (.t 7), (ci 1), (.t 8), (.t 9)]), ji 6 (.mv (.t 10))])
 .ret)), [.tmp 6]⟩
theorem cF21 : cFn prog 21 = some F21 := by kernel_rfl
variable {G : Gl}
mutual
def allF (most deepest : Nat) : El → Nat → List (Nat × El) → List (Nat × El)
 | .mk p n t o ks, d, l => bif decide (deepest < d) || decide (most ≤ l.length) then l else allsF most deepest ks (d + 1) (l ++ [(d, .mk p n t o ks)])
def allsF (most deepest : Nat) : List El → Nat → List (Nat × El) → List (Nat × El)
 | [], _, l => l
 | k :: ks, d, l => bif decide (most ≤ l.length) then l else allsF most deepest ks d (allF most deepest k d l)
end
mutual
theorem allF_len (most deepest : Nat) : ∀ (e : El) (d : Nat) (l : List (Nat × El)), l.length ≤ most → (allF most deepest e d l).length ≤ most
 | .mk p n t o ks, d, l, h => by
   rw [allF]
   cases h1 : decide (deepest < d)
   · cases h2 : decide (most ≤ l.length)
     · have := of_decide_eq_false h2
       exact allsF_len most deepest ks _ _ (by simp; omega)
     · exact h
   · exact h
theorem allsF_len (most deepest : Nat) : ∀ (ks : List El) (d : Nat) (l : List (Nat × El)), l.length ≤ most → (allsF most deepest ks d l).length ≤ most
 | [], d, l, h => h
 | k :: ks, d, l, h => by
   rw [allsF]
   cases h2 : decide (most ≤ l.length)
   · exact allsF_len most deepest ks _ _ (allF_len most deepest k d l h)
   · exact h
end
def pairT : TypeId := 47
def LS (H : Hp) (L : List (Nat × El)) (v : DV) (H' : Hp) : Prop :=
 (L = [] ∧ v = .nils ∧ H' = H) ∨ (∃ b, H b = none ∧ v = .lst (pairsC L) L.length 6 (some (b, 0)) ∧ H' = H.upd b (some (.front L.length 6 pairT)))
theorem LS.len {H H' HX : Hp} {L : List (Nat × El)} {v : DV} {fr : Fr} {x : X} (h : LS H L v H') (hx : XV G fr x = v) : evP G fr HX (.len false x) = some (.int .i64 L.length) := by
 rcases h with ⟨rfl, rfl, _⟩ | ⟨b, _, rfl, _⟩ <;> simp [evP, hx, lenD]
theorem LS.look {H H' : Hp} {L : List (Nat × El)} {v : DV} (h : LS H L v H') {k : Nat} {o : DO} (hk : H k = some o) : H' k = some o := by
 rcases h with ⟨_, _, rfl⟩ | ⟨b, hb, _, rfl⟩
 · exact hk
 · rw [Hp.upd_ne (fun e => by subst e; rw [hb] at hk; cases hk)]; exact hk
theorem LS.up {H H' : Hp} {L : List (Nat × El)} {v : DV} (h : LS H L v H') {k : Nat} {o : DO} (hk : H' k = none) : H k = none ∧ LS (H.upd k (some o)) L v (H'.upd k (some o)) := by
 rcases h with ⟨h1, h2, rfl⟩ | ⟨b, hb, h2, rfl⟩
 · exact ⟨hk, .inl ⟨h1, h2, rfl⟩⟩
 · have hne : b ≠ k := fun e => by rw [e, Hp.upd_same] at hk; cases hk
   refine ⟨by rw [Hp.upd_ne (Ne.symm hne)] at hk; exact hk, .inr ⟨b, by rw [Hp.upd_ne hne]; exact hb, h2, Hp.upd_comm hne⟩⟩
theorem LS.down {H H' : Hp} {L : List (Nat × El)} {v : DV} {k : Nat} {o : DO} (h : LS (H.upd k (some o)) L v H') (hk : H k = none) : ∃ H2, LS H L v H2 ∧ SubH H2 H' := by
 rcases h with ⟨h1, h2, rfl⟩ | ⟨b, hb, h2, rfl⟩
 · exact ⟨H, .inl ⟨h1, h2, rfl⟩, SubH.fresh hk⟩
 · have hne : b ≠ k := fun e => by rw [e, Hp.upd_same] at hb; cases hb
   rw [Hp.upd_ne hne] at hb
   refine ⟨H.upd b (some (.front L.length 6 pairT)), .inr ⟨b, hb, h2, rfl⟩, ?_⟩
   rw [Hp.upd_comm (Ne.symm hne)]
   exact SubH.fresh (by rw [Hp.upd_ne (Ne.symm hne)]; exact hk)
theorem LS.app {H HL : Hp} {L : List (Nat × El)} {v : DV} {q : Nat × El} {x y : X} {cs : List DV} {tg : Option (Nat × Nat)} {dst : Option Nat} {N : Nat} {l : List Ins} {Q : EX → Fr → Hp → Prop} {fr : Fr} (h : LS H L v HL) (hx : XV G fr x = v) (hy : XV G fr y = .lst cs 1 6 tg)
  (hcs : cs = .int .i64 (q.1 : Nat) :: elC q.2) (hlen : L.length ≤ 100000) (k : ∀ v' HL', LS H (L ++ [q]) v' HL' → RG prog G none N l Q (fr.put dst v') HL') : RG prog G none N (⟨dst, none, .app 47 6 80 x y⟩ :: l) Q fr HL := by
 have hsrc : srcD HL 6 (XV G fr y) = some (cs, 1) := by rw [hy]; rfl
 have hp1 : pairsC [q] = cs := by rw [pairsC, pairsC, hcs, List.append_nil]
 rcases h with ⟨rfl, rfl, rfl⟩ | ⟨b, hb, rfl, rfl⟩
 · refine RG.st (ST.app_new (m := 1) (.inl hx) hsrc (by omega) (by omega) fun b hb => k _ _ (.inr ⟨b, hb, ?_, rfl⟩))
   rw [List.nil_append, hp1]; rfl
 · refine RG.st (ST.app_own (m := 1) hx Hp.upd_same hsrc (by omega) fun b' hb' => ?_)
   have e1 : (H.upd b (some (.front L.length 6 pairT))).upd b none = H := by rw [Hp.upd_upd]; exact Hp.upd_id hb
   rw [e1]
   refine k _ _ (.inr ⟨b', ?_, ?_, ?_⟩)
   · rcases hb' with rfl | hb'
     · exact hb
     · have hne : b' ≠ b := fun e => by rw [e, Hp.upd_same] at hb'; cases hb'
       rw [Hp.upd_ne hne] at hb'; exact hb'
   · rw [pairsC_append, hp1, List.length_append]; rfl
   · rw [List.length_append]; rfl
theorem all_ok (most deepest : Nat) (hm : most ≤ 100000) (hdd : deepest ≤ 100000) : ∀ (m : Nat) (e : El) (d : Nat) (L : List (Nat × El)) (v : DV) (H HL : Hp), fits e → LS H L v HL → L.length ≤ most → deepest + 1 ≤ d + m → d ≤ deepest + 1 →
  CALL prog G 70 [v, .agg (elC e), .int .i64 d, .int .i64 most, .int .i64 deepest] HL (fun r H' => LS H (allF most deepest e d L) r H') (fun _ _ => False) := by
 intro m
 induction m with
 | zero =>
   intro e d L v H HL hfit hL hl hm hd
   refine CALL.of cF70 (Nat.le_of_ble_eq_true rfl) ?_
   refine AC.seq (AC.reg ?_)
   refine RG.box .d rfl rfl fun be hbe => ?_
   refine go1 ?_
   refine RG.nilS (AC.seq (AC.seq (AC.reg ?_)))
   refine go1 ?_
   refine go1 ?_
   have c1 : decide ((d : Int) > deepest) = true := by simp; omega
   refine RG.p (d := .bool true) .d (by rw [← c1]; rfl) ?_
   refine go ?_
   refine RG.nilS (AC.cond_t rfl (AC.seq (AC.reg ?_)))
   refine go ?_
   obtain ⟨h1, h2⟩ := hL.up (o := .cells (elC e) 24) hbe
   obtain ⟨H2, k1, k2⟩ := h2.down h1
   have hA : allF most deepest e d L = L := by
    obtain ⟨p, n, t, o, ks⟩ := e
    have : decide (deepest < d) = true := by simp; omega
    rw [allF, this]; rfl
   rw [hA]
   exact RG.nilS (AC.ret (finD (H' := H2) rfl k2 k1))
 | succ m ih =>
   intro e d L v H HL hfit hL hl hm hd
   obtain ⟨p, n, t, o, ks⟩ := e
   obtain ⟨hkl, hks⟩ := hfit
   have he : elC (.mk p n t o ks) = [.int .i64 p, .str n, .str t, .bool o, .lst (elsC ks) ks.length 5 none] := by rw [elC]
   refine CALL.of cF70 (Nat.le_of_ble_eq_true rfl) ?_
   refine AC.seq (AC.reg ?_)
   refine RG.box (ys := elC (.mk p n t o ks)) .d rfl rfl fun be hbe => ?_
   refine go1 ?_
   obtain ⟨g1, g2⟩ := hL.up (o := .cells (elC (.mk p n t o ks)) 24) hbe
   rw [he] at g2 ⊢
   have hHb : (H.upd be (some (.cells [.int .i64 p, .str n, .str t, .bool o, .lst (elsC ks) ks.length 5 none] 24))) be = some (.cells [.int .i64 p, .str n, .str t, .bool o, .lst (elsC ks) ks.length 5 none] 24) := Hp.upd_same
   have fin' : ∀ {R : List (Nat × El)} {v' : DV} {H' : Hp} {fr : Fr}, LS (H.upd be (some (.cells [.int .i64 p, .str n, .str t, .bool o, .lst (elsC ks) ks.length 5 none] 24))) R v' H' → fr 10 = v' → Fin F70.rs (fun r H' => LS H R r H') (fun _ _ => False) .ret fr H' := by
    intro R v' H' fr h hv
    obtain ⟨H2, k1, k2⟩ := h.down g1
    exact finD (H' := H2) rfl k2 (by subst hv; exact k1)
   generalize HL.upd be (some (.cells [.int .i64 p, .str n, .str t, .bool o, .lst (elsC ks) ks.length 5 none] 24)) = HX at g2 ⊢
   generalize hHbe : H.upd be (some (.cells [.int .i64 p, .str n, .str t, .bool o, .lst (elsC ks) ks.length 5 none] 24)) = Hbe at g2 hHb fin' ⊢
   refine RG.nilS (AC.seq (AC.seq (AC.reg ?_)))
   refine go1 ?_
   refine go1 ?_
   have hA : allF most deepest (.mk p n t o ks) d L = bif decide (deepest < d) || decide (most ≤ L.length) then L else allsF most deepest ks (d + 1) (L ++ [(d, .mk p n t o ks)]) := by rw [allF]
   refine RG.p (d := .bool (decide (deepest < d))) .d (by
    show some (DV.bool (decide ((d : Int) > deepest))) = _
    congr 2
    rw [Bool.eq_iff_iff]; simp) ?_
   cases c1 : decide (deepest < d)
   case true =>
    refine go ?_
    rw [c1, Bool.true_or, cond_true] at hA
    refine RG.nilS (AC.cond_t rfl (AC.seq (AC.reg ?_)))
    refine go ?_
    rw [hA]
    exact RG.nilS (AC.ret (fin' g2 rfl))
   rw [c1, Bool.false_or] at hA
   have hdl := of_decide_eq_false c1
   refine go1 ?_
   refine go1 ?_
   refine RG.p (d := .int .i64 L.length) rfl (g2.len rfl) ?_
   refine go1 ?_
   refine RG.p (d := .bool (decide (most ≤ L.length))) rfl (by
    show some (DV.bool (decide ((L.length : Int) ≥ most))) = _
    congr 2
    rw [Bool.eq_iff_iff]; simp) ?_
   cases c2 : decide (most ≤ L.length)
   case true =>
    refine go ?_
    rw [c2, cond_true] at hA
    refine RG.nilS (AC.cond_t rfl (AC.seq (AC.reg ?_)))
    refine go ?_
    rw [hA]
    exact RG.nilS (AC.ret (fin' g2 rfl))
   rw [c2, cond_false] at hA
   have hll := of_decide_eq_false c2
   refine go ?_
   refine RG.nilS (AC.cond_f rfl (AC.skip (AC.seq (AC.reg ?_))))
   refine go1 ?_
   refine go1 ?_
   refine RG.ld .d wh (g2.look hHb) (d := .agg (elC (.mk p n t o ks))) (by rw [he]; rfl) ?_
   rw [he]
   refine go1 ?_
   refine RG.st (ST.bsl (cs := [.int .i64 (d : Nat), .int .i64 p, .str n, .str t, .bool o, .lst (elsC ks) ks.length 5 none]) rfl fun g hg => RG.drop (SubH.fresh hg) ?_)
   refine g2.app (q := (d, .mk p n t o ks)) rfl rfl (by rw [he]) (by omega) fun v1 H1 hL1 => ?_
   refine go1 ?_
   refine RG.nilS (AC.seq (AC.seq (AC.reg ?_)))
   refine go1 ?_
   refine RG.nilS ?_
   refine AC.bloopH (α := Nat × List (Nat × El) × DV) (β := DV) (fun a => ks.length - a.1) (fun a => [(0, a.2.2), (2, .int .i64 d), (3, .int .i64 most), (4, .int .i64 deepest), (6, .ptr be 0), (11, .int .i64 a.1)])
    (fun a H' => a.1 ≤ ks.length ∧ LS Hbe a.2.1 a.2.2 H' ∧ a.2.1.length ≤ most ∧ allsF most deepest (ks.drop a.1) (d + 1) a.2.1 = allsF most deepest ks (d + 1) (L ++ [(d, .mk p n t o ks)]))
    (fun v => [(0, v)]) (fun v H' => LS Hbe (allsF most deepest ks (d + 1) (L ++ [(d, .mk p n t o ks)])) v H') ?_ ?_ (0, L ++ [(d, .mk p n t o ks)], v1) _ ⟨Nat.zero_le _, hL1, by simp; omega, rfl⟩ ⟨rfl, rfl, rfl, rfl, rfl, rfl, trivial⟩
   · intro v2 He fr h1 hfr
     refine AC.to _ hfr (AC.seq (AC.reg ?_))
     refine go ?_
     rw [hA]
     exact RG.nilS (AC.ret (fin' h1 rfl))
   · rintro ⟨i, L2, v2⟩ H' ⟨h1, h2, h3, h4⟩ ih2 ex
     dsimp only at h1 h2 h3 h4 ⊢
     refine AC.seq (AC.seq (AC.reg ?_))
     refine go1 ?_
     refine go1 ?_
     refine RG.ld .d wh (h2.look hHb) (d := .lst (elsC ks) ks.length 5 none) rfl ?_
     refine go1 ?_
     refine go1 ?_
     refine go1 ?_
     have hex : (ks.length ≤ i ∨ most ≤ L2.length) → allsF most deepest ks (d + 1) (L ++ [(d, .mk p n t o ks)]) = L2 := by
      rintro (h | h)
      · rw [← h4, List.drop_eq_nil_of_le h, allsF]
      · rw [← h4]
        cases ks.drop i with
        | nil => rw [allsF]
        | cons k r => rw [allsF]; simp [h]
     cases c3 : decide ((i : Int) < ks.length)
     · have e := of_decide_eq_false c3
       refine go ?_
       refine RG.nilS (AC.cond_f rfl (AC.exit (ex v2 _ _ (by rw [hex (.inl (by omega))]; exact h2) ⟨rfl, trivial⟩)))
     have hi' := of_decide_eq_true c3
     have hi : i < ks.length := by omega
     refine go1 ?_
     refine RG.p (d := .int .i64 L2.length) rfl (h2.len rfl) ?_
     refine go1 ?_
     refine RG.p (d := .bool (decide (L2.length < most))) rfl (by
      show some (DV.bool (decide ((L2.length : Int) < most))) = _
      congr 2
      rw [Bool.eq_iff_iff]; simp) ?_
     cases c4 : decide (L2.length < most)
     · have e := of_decide_eq_false c4
       refine go ?_
       refine RG.nilS (AC.cond_f rfl (AC.exit (ex v2 _ _ (by rw [hex (.inr (by omega))]; exact h2) ⟨rfl, trivial⟩)))
     have hlt := of_decide_eq_true c4
     refine go ?_
     refine RG.nilS (AC.cond_t rfl (AC.skip (AC.seq (AC.block (AC.reg ?_)))))
     obtain ⟨p', n', t', o', ks', hx⟩ : ∃ p' n' t' o' ks', ks[i] = .mk p' n' t' o' ks' := ⟨_, _, _, _, _, (El.eta ks[i]).symm⟩
     have hrow : ((elsC ks).drop (i * 5)).take 5 = elC ks[i] := elsC_at ks i _ (List.getElem?_eq_getElem hi)
     have hrow' : partD true 0 5 ((elsC ks).drop (((i : Nat) : Int).toNat * 5)) = some (.agg (elC ks[i])) := partD_row (i := i) (sz := 5) hrow (by rw [elsC_length]; omega)
     refine go1 ?_
     refine go1 ?_
     refine RG.ld .d wh (h2.look hHb) (d := .lst (elsC ks) ks.length 5 none) rfl ?_
     refine go1 ?_
     refine RG.p .d (evP_iadr wh wh (by omega)) ?_
     refine RG.p .d (evP_ldc wh hrow') ?_
     refine go1 ?_
     refine go1 ?_
     refine go1 ?_
     refine go1 ?_
     refine RG.call .d rfl (ih ks[i] (d + 1) L2 v2 Hbe H' (fitss_mem ks hks _ (List.getElem_mem hi)) h2 h3 (by omega) (by omega)) (fun v3 H3 hL3 => ?_) (fun _ _ h => h.elim)
     refine go1 ?_
     refine RG.nil ?_
     refine AC.reg ?_
     refine go1 ?_
     refine go1 ?_
     refine go1 ?_
     refine RG.nil (ih2 (i + 1, allF most deepest ks[i] (d + 1) L2, v3) _ ⟨by dsimp only; omega, hL3, allF_len _ _ _ _ _ h3, ?_⟩ (by dsimp only; omega) _ ⟨rfl, rfl, rfl, rfl, rfl, rfl, trivial⟩)
     dsimp only
     rw [← h4, List.drop_eq_getElem_cons hi, allsF]
     have : decide (most ≤ L2.length) = false := by simp; omega
     rw [this, cond_false]
open Go Go.Run Go.RowKit
open Go.Proofs.Tryz (prog)
def F6 : FN := ⟨64, (.seq (.reg [ji 1 (.box 24 (.t 0)), ji 2 (.mv (.c (.bool false)))])
 (.seq (.reg [ji 6 (.ld true 5 (.t 1)), ji 7 (.call 21 [(.t 6), (ci 3000), (ci 60)]), ji 3 (.mv (.t 7))])
 (.seq (.reg [ji 4 (.mv (ci 0))])
 (.seq (.seq (.reg [ji 5 (.mv (ci 0))])
 (.block 0 (.loop (.seq (.seq (.reg [ji 8 (.mv (.t 5)), ji 9 (.mv (.t 3)), ji 10 (.len false (.t 9)), ji 11 (.bin .lss (.t 8) (.t 10))])
 (.cond (.t 11) .skip
 (.exit 0)))
 (.seq (.block 1 (.seq (.draw [ji 14 (.mv (.t 4)), ji 15 (.mv (.t 3)), ji 16 (.mv (.t 5)), ji 17 (.iadr 6 (.t 15) (.t 16)), ji 18 (.fadr 1 (.t 17)), ji 19 (.fadr 2 (.t 18)), ji 20 (.ld false 1 (.t 19)), ji 21 (.len true (.t 20)), ji 22 (.bin .add (.t 14) (.t 21)), ji 23 (.mv (.t 3)), ji 24 (.mv (.t 5)), ji 25 (.iadr 6 (.t 23) (.t 24)), ji 26 (.fadr 1 (.t 25)), ji 27 (.fadr 1 (.t 26)), ji 28 (.ld false 1 (.t 27)), ji 29 (.len true (.t 28)), ji 30 (.bin .add (.t 22) (.t 29)), ji 4 (.mv (.t 30))] [[], [], [], [1, 2], [3], [4], [5], [6], [0, 7], [], [], [9, 10], [11], [12], [13], [14], [8, 15], [16, 0, 1, 2, 3, 4, 5, 6, 7, 8, 9, 10, 11, 12, 13, 14, 15, 16]])
 (.seq (.reg [ji 31 (.mv (.t 4)), ji 32 (.bin .gtr (.t 31) (ci 30000)), ji 33 (.mv (.t 32)), jg 34 33 false (.mv (.t 3)), jg 35 33 false (.mv (.t 5)), jg 36 33 false (.iadr 6 (.t 34) (.t 35)), jg 37 33 false (.fadr 1 (.t 36)), jg 38 33 false (.fadr 2 (.t 37)), jg 39 33 false (.ld false 1 (.t 38)), jg 40 33 false (.len true (.t 39)), jg 41 33 false (.bin .gtr (.t 40) (ci 10000)), ji 42 (.pick (.t 33) (.c (.bool true)) (.t 41)), ji 43 (.mv (.t 42)), jg 44 43 false (.mv (.t 3)), jg 45 43 false (.mv (.t 5)), jg 46 43 false (.iadr 6 (.t 44) (.t 45)), jg 47 43 false (.fadr 1 (.t 46)), jg 48 43 false (.fadr 1 (.t 47)), jg 49 43 false (.ld false 1 (.t 48)), jg 50 43 false (.len true (.t 49)), jg 51 43 false (.bin .gtr (.t 50) (ci 10000)), ji 52 (.pick (.t 43) (.c (.bool true)) (.t 51)), ji 53 (.mv (.t 52)), jg 54 53 false (.mv (.t 3)), jg 55 53 false (.mv (.t 5)), jg 56 53 false (.iadr 6 (.t 54) (.t 55)), jg 57 53 false (.fadr 0 (.t 56)), jg 58 53 false (.ld false 1 (.t 57)), jg 59 53 false (.bin .gtr (.t 58) (ci 50)), ji 60 (.pick (.t 53) (.c (.bool true)) (.t 59))])
 (.cond (.t 60) (.seq (.reg [ji 2 (.mv (.c (.bool true)))])
 .ret)
 .skip))))
 (.reg [ji 12 (.mv (.t 5)), ji 13 (.bin .add (.t 12) (ci 1)), ji 5 (.mv (.t 13))]))))))
 (.seq (.reg [ji 61 (.mv (.t 3)), ji 62 (.len false (.t 61)), ji 63 (.bin .geq (.t 62) (ci 3000)), ji 2 (.mv (.t 63))])
 .ret))))), [.tmp 2]⟩
theorem cF6 : cFn prog 6 = some F6 := by kernel_rfl
variable {G : Gl}
def LV (L : List (Nat × El)) (v : DV) : Prop := (L = [] ∧ v = .nils) ∨ (∃ tg, v = .lst (pairsC L) L.length 6 tg)
theorem LV.len {HX : Hp} {L : List (Nat × El)} {v : DV} {fr : Fr} {x : X} (h : LV L v) (hx : XV G fr x = v) : evP G fr HX (.len false x) = some (.int .i64 L.length) := by
 rcases h with ⟨rfl, rfl⟩ | ⟨b, rfl⟩ <;> simp [evP, hx, lenD]
theorem All_ok (e : El) (hfit : fits e) (most deepest : Nat) (hm : most ≤ 100000) (hdd : deepest ≤ 100000) (H : Hp) :
  CALL prog G 21 [.agg (elC e), .int .i64 most, .int .i64 deepest] H (fun r H' => LV (allF most deepest e 1 []) r ∧ H' = H) (fun _ _ => False) := by
 refine CALL.of cF21 (Nat.le_of_ble_eq_true rfl) ?_
 refine AC.seq (AC.reg ?_)
 refine RG.box (ys := elC e) .d rfl rfl fun be hbe => ?_
 refine go1 ?_
 refine RG.nilS (AC.seq (AC.reg ?_))
 refine RG.ld .d wh Hp.upd_same (d := .agg (elC e)) (ldEl e) ?_
 refine go1 ?_
 refine go1 ?_
 refine RG.call .d rfl (all_ok most deepest hm hdd (deepest + 1) e 1 [] .nils _ _ hfit (.inl ⟨rfl, rfl, rfl⟩) (by simp) (by omega) (by omega)) (fun r H' hL => ?_) (fun _ _ h => h.elim)
 refine go1 ?_
 refine RG.nilS (AC.ret (finD (H' := H) rfl ?_ ⟨?_, rfl⟩))
 · intro k o hk
   refine hL.look ?_
   rw [Hp.upd_ne (fun e => by subst e; rw [hbe] at hk; cases hk)]; exact hk
 · rcases hL with ⟨h1, h2, _⟩ | ⟨b, _, h2, _⟩
   · exact .inl ⟨h1, h2⟩
   · exact .inr ⟨_, h2⟩
theorem pairsC_drop : ∀ (L : List (Nat × El)) (i : Nat), (pairsC L).drop (i * 6) = pairsC (L.drop i)
 | [], i => by simp [pairsC]
 | q :: l, 0 => by simp
 | q :: l, i + 1 => by
   have h6 : (DV.int .i64 (q.1 : Nat) :: elC q.2).length = 6 := by simp [elC_length]
   have e : (i + 1) * 6 = (DV.int .i64 (q.1 : Nat) :: elC q.2).length + i * 6 := by rw [h6]; omega
   rw [pairsC, e, ← List.drop_drop, List.drop_left, List.drop_succ_cons]
   exact pairsC_drop l i
theorem evP_addW {fr : Fr} {H : Hp} {x y : X} {a b : Int} (hx : XV G fr x = .int .i64 a) (hy : XV G fr y = .int .i64 b) : evP G fr H (.bin .add x y) = some (.int .i64 (IntKind.wrap .i64 (a + b))) := by
 simp only [evP, hx, hy, binD, binI, if_true]
theorem Great_ok (e : El) (hfit : fits e) (H : Hp) : CALL prog G 6 [.agg (elC e)] H (fun r H' => (∃ b, r = .bool b) ∧ H' = H) (fun _ _ => False) := by
 refine CALL.of cF6 (Nat.le_of_ble_eq_true rfl) ?_
 refine AC.seq (AC.reg ?_)
 refine RG.box (ys := elC e) .d rfl rfl fun be hbe => ?_
 refine go1 ?_
 refine RG.nilS (AC.seq (AC.reg ?_))
 refine RG.ld .d wh Hp.upd_same (d := .agg (elC e)) (ldEl e) ?_
 refine RG.call .d rfl (All_ok e hfit 3000 60 (by omega) (by omega) _) (fun v H' ⟨hL, hH⟩ => ?_) (fun _ _ h => h.elim)
 subst hH
 have hlen := allF_len 3000 60 e 1 [] (by simp)
 generalize allF 3000 60 e 1 [] = L at hL hlen
 refine RG.drop (SubH.fresh hbe) ?_
 refine go1 ?_
 refine RG.nilS (AC.seq (AC.reg ?_))
 refine go1 ?_
 refine RG.nilS (AC.seq (AC.seq (AC.reg ?_)))
 refine go1 ?_
 refine RG.nilS ?_
 refine AC.bloopH (α := Nat × Int) (β := Unit) (fun a => L.length - a.1) (fun a => [(3, v), (4, .int .i64 a.2), (5, .int .i64 a.1)])
   (fun a H' => a.1 ≤ L.length ∧ H' = H) (fun _ => [(3, v)]) (fun _ H' => H' = H) ?_ ?_ (0, 0) _ ⟨Nat.zero_le _, rfl⟩ ⟨rfl, rfl, rfl, trivial⟩
 · intro _ He fr h1 hfr
   subst h1
   refine AC.to _ hfr (AC.seq (AC.reg ?_))
   refine go1 ?_
   refine RG.p (d := .int .i64 L.length) .d (hL.len rfl) ?_
   refine RG.p (d := .bool (decide ((L.length : Int) ≥ 3000))) .d rfl ?_
   refine go1 ?_
   exact RG.nilS (AC.ret (fin rfl ⟨⟨_, rfl⟩, rfl⟩))
 · rintro ⟨i, n⟩ H' ⟨h1, h2⟩ ih ex
   subst h2
   dsimp only at h1 ⊢
   refine AC.seq (AC.seq (AC.reg ?_))
   refine go1 ?_
   refine go1 ?_
   refine RG.p (d := .int .i64 L.length) .d (hL.len rfl) ?_
   refine RG.p (d := .bool (decide ((i : Int) < L.length))) .d rfl ?_
   cases c3 : decide ((i : Int) < L.length)
   · exact RG.nilS (AC.cond_f rfl (AC.exit (ex () _ _ rfl ⟨rfl, trivial⟩)))
   have hi' := of_decide_eq_true c3
   have hi : i < L.length := by omega
   obtain ⟨tg, rfl⟩ : ∃ tg, v = .lst (pairsC L) L.length 6 tg := by
    rcases hL with ⟨h, _⟩ | h
    · rw [h] at hi; simp at hi
    · exact h
   obtain ⟨dd, x, hx⟩ : ∃ dd x, L[i] = (dd, x) := ⟨_, _, rfl⟩
   obtain ⟨p, nm, t, o, ks⟩ := x
   have hat : (pairsC L).drop (i * 6) = .int .i64 (dd : Nat) :: .int .i64 p :: .str nm :: .str t :: .bool o :: .lst (elsC ks) ks.length 5 none :: pairsC (L.drop (i + 1)) := by
    rw [pairsC_drop, List.drop_eq_getElem_cons hi, hx, pairsC]
    show _ :: (elC _ ++ _) = _
    rw [elC]; rfl
   have hat' : ∀ (fr : Fr) (x y : X), XV G fr x = .lst (pairsC L) L.length 6 tg → XV G fr y = .int .i64 i → evP G fr H' (.iadr 6 x y) = some (.cptr (.int .i64 (dd : Nat) :: .int .i64 p :: .str nm :: .str t :: .bool o :: .lst (elsC ks) ks.length 5 none :: pairsC (L.drop (i + 1)))) := by
    intro fr x y h1 h2
    rw [evP_iadr h1 h2 (by omega), ← hat]; rfl
   refine RG.nilS (AC.cond_t rfl (AC.skip (AC.seq (AC.block (AC.seq (AC.drawV [17] rfl ?_))))))
   first|refine VD.z0 0 ?_|refine VD.z1 0 ?_|refine VD.z2 0 ?_|refine VD.z3 0 ?_|refine VD.z4 0 ?_|refine VD.z5 0 ?_
   first|refine VD.z0 1 ?_|refine VD.z1 1 ?_|refine VD.z2 1 ?_|refine VD.z3 1 ?_|refine VD.z4 1 ?_|refine VD.z5 1 ?_
   first|refine VD.z0 2 ?_|refine VD.z1 2 ?_|refine VD.z2 2 ?_|refine VD.z3 2 ?_|refine VD.z4 2 ?_|refine VD.z5 2 ?_
   refine VD.pv 3 rfl rfl (hat' _ _ _ rfl rfl) ?_
   first|refine VD.z0 4 ?_|refine VD.z1 4 ?_|refine VD.z2 4 ?_|refine VD.z3 4 ?_|refine VD.z4 4 ?_|refine VD.z5 4 ?_
   first|refine VD.z0 5 ?_|refine VD.z1 5 ?_|refine VD.z2 5 ?_|refine VD.z3 5 ?_|refine VD.z4 5 ?_|refine VD.z5 5 ?_
   first|refine VD.z0 6 ?_|refine VD.z1 6 ?_|refine VD.z2 6 ?_|refine VD.z3 6 ?_|refine VD.z4 6 ?_|refine VD.z5 6 ?_
   first|refine VD.z0 7 ?_|refine VD.z1 7 ?_|refine VD.z2 7 ?_|refine VD.z3 7 ?_|refine VD.z4 7 ?_|refine VD.z5 7 ?_
   refine VD.pv 8 rfl rfl (evP_addW (a := n) (b := t.length) rfl rfl) ?_
   first|refine VD.z0 9 ?_|refine VD.z1 9 ?_|refine VD.z2 9 ?_|refine VD.z3 9 ?_|refine VD.z4 9 ?_|refine VD.z5 9 ?_
   first|refine VD.z0 10 ?_|refine VD.z1 10 ?_|refine VD.z2 10 ?_|refine VD.z3 10 ?_|refine VD.z4 10 ?_|refine VD.z5 10 ?_
   refine VD.pv 11 rfl rfl (hat' _ _ _ rfl rfl) ?_
   first|refine VD.z0 12 ?_|refine VD.z1 12 ?_|refine VD.z2 12 ?_|refine VD.z3 12 ?_|refine VD.z4 12 ?_|refine VD.z5 12 ?_
   first|refine VD.z0 13 ?_|refine VD.z1 13 ?_|refine VD.z2 13 ?_|refine VD.z3 13 ?_|refine VD.z4 13 ?_|refine VD.z5 13 ?_
   first|refine VD.z0 14 ?_|refine VD.z1 14 ?_|refine VD.z2 14 ?_|refine VD.z3 14 ?_|refine VD.z4 14 ?_|refine VD.z5 14 ?_
   first|refine VD.z0 15 ?_|refine VD.z1 15 ?_|refine VD.z2 15 ?_|refine VD.z3 15 ?_|refine VD.z4 15 ?_|refine VD.z5 15 ?_
   refine VD.pv 16 rfl rfl (evP_addW (b := nm.length) rfl rfl) ?_
   generalize IntKind.wrap .i64 (IntKind.wrap .i64 (n + t.length) + nm.length) = n1
   refine VD.pe 17 rfl rfl (EF.of_evP (d := .int .i64 n1) rfl) (fun _ _ _ h => h.elim) (fun d H2 ⟨f1, f2⟩ => ⟨?_, ?_⟩)
   · subst f2; exact stb
   subst f1; subst f2
   refine VD.pd rfl ?_
   refine AC.seq (AC.reg ?_)
   refine go1 ?_
   refine RG.p (d := .bool (decide (n1 > 30000))) .d rfl ?_
   cases c4 : decide (n1 > 30000)
   case true =>
    refine go ?_
    refine RG.nilS (AC.cond_t rfl (AC.seq (AC.reg ?_)))
    refine go ?_
    exact RG.nilS (AC.ret (fin rfl ⟨⟨_, rfl⟩, rfl⟩))
   refine go1 ?_
   refine go1 ?_
   refine go1 ?_
   refine RG.p .d (hat' _ _ _ rfl rfl) ?_
   refine go1 ?_
   refine go1 ?_
   refine go1 ?_
   refine go1 ?_
   refine RG.p (d := .bool (decide ((t.length : Int) > 10000))) .d rfl ?_
   cases c5 : decide ((t.length : Int) > 10000)
   case true =>
    refine go ?_
    refine RG.nilS (AC.cond_t rfl (AC.seq (AC.reg ?_)))
    refine go ?_
    exact RG.nilS (AC.ret (fin rfl ⟨⟨_, rfl⟩, rfl⟩))
   refine go1 ?_
   refine go1 ?_
   refine go1 ?_
   refine go1 ?_
   refine RG.p .d (hat' _ _ _ rfl rfl) ?_
   refine go1 ?_
   refine go1 ?_
   refine go1 ?_
   refine go1 ?_
   refine RG.p (d := .bool (decide ((nm.length : Int) > 10000))) .d rfl ?_
   cases c6 : decide ((nm.length : Int) > 10000)
   case true =>
    refine go ?_
    refine RG.nilS (AC.cond_t rfl (AC.seq (AC.reg ?_)))
    refine go ?_
    exact RG.nilS (AC.ret (fin rfl ⟨⟨_, rfl⟩, rfl⟩))
   refine go1 ?_
   refine go1 ?_
   refine go1 ?_
   refine go1 ?_
   refine RG.p .d (hat' _ _ _ rfl rfl) ?_
   refine go1 ?_
   refine go1 ?_
   refine RG.p (d := .bool (decide ((dd : Int) > 50))) .d rfl ?_
   cases c7 : decide ((dd : Int) > 50)
   case true =>
    refine go ?_
    refine RG.nilS (AC.cond_t rfl (AC.seq (AC.reg ?_)))
    refine go ?_
    exact RG.nilS (AC.ret (fin rfl ⟨⟨_, rfl⟩, rfl⟩))
   refine go ?_
   refine RG.nilS (AC.cond_f rfl (AC.skip ?_))
   refine AC.reg ?_
   refine go1 ?_
   refine go1 ?_
   refine go1 ?_
   exact RG.nil (ih (i + 1, n1) _ ⟨by dsimp only; omega, rfl⟩ (by dsimp only; omega) _ ⟨rfl, rfl, rfl, trivial⟩)
open Go Go.Run Go.RowKit
open Go.Proofs.Tryz (prog)
def F65 : FN := ⟨75, (.seq (.reg [ji 3 (.box 24 (.t 0)), ji 4 (.box 24 (.t 1)), ji 6 (.mv (.c (.bool false)))])
 (.seq (.seq (.reg [ji 8 (.fadr 0 (.t 3)), ji 9 (.ld false 1 (.t 8)), ji 10 (.fadr 0 (.t 4)), ji 11 (.ld false 1 (.t 10)), ji 12 (.bin .neq (.t 9) (.t 11)), ji 13 (.mv (.t 12)), jg 14 13 false (.fadr 1 (.t 3)), jg 15 13 false (.ld false 1 (.t 14)), jg 16 13 false (.fadr 1 (.t 4)), jg 17 13 false (.ld false 1 (.t 16)), jg 18 13 false (.bin .neq (.t 15) (.t 17)), ji 19 (.pick (.t 13) (.c (.bool true)) (.t 18)), ji 20 (.mv (.t 19)), jg 21 20 false (.fadr 2 (.t 3)), jg 22 20 false (.ld false 1 (.t 21)), jg 23 20 false (.fadr 2 (.t 4)), jg 24 20 false (.ld false 1 (.t 23)), jg 25 20 false (.bin .neq (.t 22) (.t 24)), ji 26 (.pick (.t 20) (.c (.bool true)) (.t 25)), ji 27 (.mv (.t 26)), jg 28 27 false (.fadr 3 (.t 3)), jg 29 27 false (.ld false 1 (.t 28)), jg 30 27 false (.fadr 3 (.t 4)), jg 31 27 false (.ld false 1 (.t 30)), jg 32 27 false (.eqn true .bool (.t 29) (.t 31)), ji 33 (.pick (.t 27) (.c (.bool true)) (.t 32)), ji 34 (.mv (.t 33)), jg 35 34 false (.fadr 4 (.t 3)), jg 36 34 false (.ld false 1 (.t 35)), jg 37 34 false (.len false (.t 36)), jg 38 34 false (.fadr 4 (.t 4)), jg 39 34 false (.ld false 1 (.t 38)), jg 40 34 false (.len false (.t 39)), jg 41 34 false (.bin .neq (.t 37) (.t 40)), ji 42 (.pick (.t 34) (.c (.bool true)) (.t 41))])
 (.cond (.t 42) (.seq (.reg [ji 6 (.mv (.c (.bool false)))])
 .ret)
 .skip))
 (.seq (.seq (.reg [ji 7 (.mv (ci 0))])
 (.block 0 (.loop (.seq (.seq (.reg [ji 43 (.mv (.t 7)), ji 44 (.fadr 4 (.t 3)), ji 45 (.ld false 1 (.t 44)), ji 46 (.len false (.t 45)), ji 47 (.bin .lss (.t 43) (.t 46)), ji 48 (.mv (.t 47)), jg 49 48 true (.mv (.t 7)), jg 50 48 true (.fadr 4 (.t 4)), jg 51 48 true (.ld false 1 (.t 50)), jg 52 48 true (.len false (.t 51)), jg 53 48 true (.bin .lss (.t 49) (.t 52)), ji 54 (.pick (.t 48) (.t 53) (.c (.bool false))), ji 55 (.mv (.t 54)), jg 56 55 true (.mv (.t 2)), jg 57 55 true (.bin .gtr (.t 56) (ci 1)), ji 58 (.pick (.t 55) (.t 57) (.c (.bool false)))])
 (.cond (.t 58) .skip
 (.exit 0)))
 (.seq (.block 1 (.seq (.draw [ji 61 (.fadr 4 (.t 3)), ji 62 (.ld false 1 (.t 61)), ji 63 (.mv (.t 7)), ji 64 (.iadr 5 (.t 62) (.t 63)), ji 65 (.ld true 5 (.t 64)), ji 66 (.fadr 4 (.t 4)), ji 67 (.ld false 1 (.t 66)), ji 68 (.mv (.t 7)), ji 69 (.iadr 5 (.t 67) (.t 68)), ji 70 (.ld true 5 (.t 69)), ji 71 (.mv (.t 2)), ji 72 (.bin .sub (.t 71) (ci 1)), ji 73 (.call 65 [(.t 65), (.t 70), (.t 72)]), ji 74 (.un .not (.t 73))] [[], [0], [], [1, 2], [3], [], [5], [], [6, 7], [8], [], [10], [4, 9, 11], [12]])
 (.cond (.t 74) (.seq (.reg [ji 6 (.mv (.c (.bool false)))])
 .ret)
 .skip)))
 (.reg [ji 59 (.mv (.t 7)), ji 60 (.bin .add (.t 59) (ci 1)), ji 7 (.mv (.t 60))]))))))
 (.seq (.reg [ji 6 (.mv (.c (.bool true)))])
 .ret)))), [.tmp 6]⟩
theorem cF65 : cFn prog 65 = some F65 := by kernel_rfl
def F17 : FN := ⟨8, (.seq (.reg [ji 2 (.box 24 (.t 0)), ji 3 (.box 24 (.t 1)), ji 4 (.mv (.c (.bool false)))])
 (.seq (.reg [ji 5 (.ld true 5 (.t 2)), ji 6 (.ld true 5 (.t 3)), ji 7 (.call 65 [(.t 5), (.t 6), (ci 20)]), ji 4 (.mv (.t 7))])
 .ret)), [.tmp 4]⟩
theorem cF17 : cFn prog 17 = some F17 := by kernel_rfl
variable {G : Gl}
theorem len_bne (a b : Nat) : ((a : Int) != (b : Int)) = !(a == b) := by
 rw [Bool.eq_iff_iff]; simp; omega
theorem ev_sub {fr : Fr} {H : Hp} {x y : X} {a b : Int} (hx : XV G fr x = .int .i64 a) (hy : XV G fr y = .int .i64 b) (hr : -9223372036854775808 ≤ a - b ∧ a - b ≤ 9223372036854775807) : evP G fr H (.bin .sub x y) = some (.int .i64 (a - b)) := by
 simp only [evP, hx, hy, binD, binI, if_true, IntWalk.i64_in _ hr]
theorem same_step {d : Nat} (hd2 : d < 100) (ih : 1 < d → ∀ (e e' : El), fits e → fits e' → PF prog G 65 [.agg (elC e), .agg (elC e'), .int .i64 (d - 1 : Nat)] (.bool (sameF e e' (d - 1)))) (e e' : El) (hf : fits e) (hf' : fits e') :
  PF prog G 65 [.agg (elC e), .agg (elC e'), .int .i64 d] (.bool (sameF e e' d)) := by
 intro H
 obtain ⟨p, n, t, o, ks⟩ := e
 obtain ⟨p', n', t', o', ks'⟩ := e'
 obtain ⟨hkl, hks⟩ := hf
 obtain ⟨hkl', hks'⟩ := hf'
 have he : elC (.mk p n t o ks) = [.int .i64 p, .str n, .str t, .bool o, .lst (elsC ks) ks.length 5 none] := by rw [elC]
 have he' : elC (.mk p' n' t' o' ks') = [.int .i64 p', .str n', .str t', .bool o', .lst (elsC ks') ks'.length 5 none] := by rw [elC]
 have hS : sameF (.mk p n t o ks) (.mk p' n' t' o' ks') d = ((p == p' && (n == n' && (t == t' && (o == o' && ks.length == ks'.length)))) && (bif decide (1 < d) then samesF ks ks' (d - 1) else true)) := by rw [sameF]
 refine CALL.of cF65 (Nat.le_of_ble_eq_true rfl) ?_
 refine AC.seq (AC.reg ?_)
 refine RG.box (ys := elC (.mk p n t o ks)) .d rfl rfl fun b3 h3 => ?_
 refine RG.box (ys := elC (.mk p' n' t' o' ks')) .d rfl rfl fun b4 h4 => ?_
 have hne : b3 ≠ b4 := fun e => by rw [← e, Hp.upd_same] at h4; cases h4
 have h4' : H b4 = none := by rw [Hp.upd_ne (Ne.symm hne)] at h4; exact h4
 rw [he, he']
 have hb3 : ((H.upd b3 (some (.cells [.int .i64 p, .str n, .str t, .bool o, .lst (elsC ks) ks.length 5 none] 24))).upd b4 (some (.cells [.int .i64 p', .str n', .str t', .bool o', .lst (elsC ks') ks'.length 5 none] 24))) b3 = some (.cells [.int .i64 p, .str n, .str t, .bool o, .lst (elsC ks) ks.length 5 none] 24) := by rw [Hp.upd_ne hne]; exact Hp.upd_same
 have hb4 : ((H.upd b3 (some (.cells [.int .i64 p, .str n, .str t, .bool o, .lst (elsC ks) ks.length 5 none] 24))).upd b4 (some (.cells [.int .i64 p', .str n', .str t', .bool o', .lst (elsC ks') ks'.length 5 none] 24))) b4 = some (.cells [.int .i64 p', .str n', .str t', .bool o', .lst (elsC ks') ks'.length 5 none] 24) := Hp.upd_same
 have hsub : SubH H ((H.upd b3 (some (.cells [.int .i64 p, .str n, .str t, .bool o, .lst (elsC ks) ks.length 5 none] 24))).upd b4 (some (.cells [.int .i64 p', .str n', .str t', .bool o', .lst (elsC ks') ks'.length 5 none] 24))) := SubH.over (SubH.over (SubH.refl H) h3) h4'
 generalize (H.upd b3 (some (.cells [.int .i64 p, .str n, .str t, .bool o, .lst (elsC ks) ks.length 5 none] 24))).upd b4 (some (.cells [.int .i64 p', .str n', .str t', .bool o', .lst (elsC ks') ks'.length 5 none] 24)) = HH at hb3 hb4 hsub ⊢
 have no : ∀ {fr : Fr}, sameF (.mk p n t o ks) (.mk p' n' t' o' ks') d = false → fr 6 = .bool false → Fin F65.rs (fun d' H' => d' = .bool (sameF (.mk p n t o ks) (.mk p' n' t' o' ks') d) ∧ H' = H) (fun _ _ => False) .ret fr HH := by
  intro fr h1 h2
  refine finD (H' := H) (ds := [.bool false]) ?_ hsub ⟨by rw [h1]; rfl, rfl⟩
  show (some [fr 6] : Option (List DV)) = _
  rw [h2]
 refine go1 ?_
 refine RG.nilS (AC.seq (AC.seq (AC.reg ?_)))
 refine go1 ?_
 refine go1 ?_
 refine go1 ?_
 refine go1 ?_
 refine RG.p (d := .bool (!(p == p'))) .d rfl ?_
 cases c1 : p == p'
 case false =>
  rw [c1, Bool.false_and, Bool.false_and] at hS
  refine go ?_
  refine RG.nilS (AC.cond_t rfl (AC.seq (AC.reg ?_)))
  refine go ?_
  exact RG.nilS (AC.ret (no hS rfl))
 rw [c1, Bool.true_and] at hS
 refine go1 ?_
 refine go1 ?_
 refine go1 ?_
 refine go1 ?_
 refine go1 ?_
 refine RG.p (d := .bool (!(n == n'))) .d rfl ?_
 cases c2 : n == n'
 case false =>
  rw [c2, Bool.false_and, Bool.false_and] at hS
  refine go ?_
  refine RG.nilS (AC.cond_t rfl (AC.seq (AC.reg ?_)))
  refine go ?_
  exact RG.nilS (AC.ret (no hS rfl))
 rw [c2, Bool.true_and] at hS
 refine go1 ?_
 refine go1 ?_
 refine go1 ?_
 refine go1 ?_
 refine go1 ?_
 refine go1 ?_
 refine RG.p (d := .bool (!(t == t'))) .d rfl ?_
 cases c3 : t == t'
 case false =>
  rw [c3, Bool.false_and, Bool.false_and] at hS
  refine go ?_
  refine RG.nilS (AC.cond_t rfl (AC.seq (AC.reg ?_)))
  refine go ?_
  exact RG.nilS (AC.ret (no hS rfl))
 rw [c3, Bool.true_and] at hS
 refine go1 ?_
 refine go1 ?_
 refine go1 ?_
 refine go1 ?_
 refine go1 ?_
 refine go1 ?_
 refine RG.p (d := .bool (!(o == o'))) .d rfl ?_
 cases c4 : o == o'
 case false =>
  rw [c4, Bool.false_and, Bool.false_and] at hS
  refine go ?_
  refine RG.nilS (AC.cond_t rfl (AC.seq (AC.reg ?_)))
  refine go ?_
  exact RG.nilS (AC.ret (no hS rfl))
 rw [c4, Bool.true_and] at hS
 refine go1 ?_
 refine go1 ?_
 refine go1 ?_
 refine go1 ?_
 refine go1 ?_
 refine go1 ?_
 refine go1 ?_
 refine go1 ?_
 refine RG.p (d := .bool (!(ks.length == ks'.length))) .d (by
  show some (DV.bool ((ks.length : Int) != ks'.length)) = _
  rw [len_bne]) ?_
 cases c5 : ks.length == ks'.length
 case false =>
  rw [c5, Bool.false_and] at hS
  refine go ?_
  refine RG.nilS (AC.cond_t rfl (AC.seq (AC.reg ?_)))
  refine go ?_
  exact RG.nilS (AC.ret (no hS rfl))
 rw [c5, Bool.true_and] at hS
 have hlen : ks.length = ks'.length := by simpa using c5
 refine go ?_
 refine RG.nilS (AC.cond_f rfl (AC.skip (AC.seq (AC.seq (AC.reg ?_)))))
 refine go1 ?_
 refine RG.nilS ?_
 refine AC.bloopH (α := Nat) (β := Unit) (fun i => ks.length - i) (fun i => [(2, .int .i64 d), (3, .ptr b3 0), (4, .ptr b4 0), (7, .int .i64 i)])
   (fun i H' => i ≤ ks.length ∧ H' = HH ∧ (decide (1 < d) = true → samesF (ks.drop i) (ks'.drop i) (d - 1) = samesF ks ks' (d - 1))) (fun _ => []) (fun _ H' => H' = HH ∧ sameF (.mk p n t o ks) (.mk p' n' t' o' ks') d = true) ?_ ?_ 0 _ ⟨Nat.zero_le _, rfl, fun _ => rfl⟩ ⟨rfl, rfl, rfl, rfl, trivial⟩
 · intro _ He fr ⟨h1, h2⟩ hfr
   subst h1
   refine AC.to _ hfr (AC.seq (AC.reg ?_))
   refine go ?_
   exact RG.nilS (AC.ret (finD (H' := H) rfl hsub ⟨by rw [h2]; rfl, rfl⟩))
 · rintro i H' ⟨h1, h2, h5⟩ ih2 ex
   subst h2
   refine AC.seq (AC.seq (AC.reg ?_))
   refine go1 ?_
   refine go1 ?_
   refine go1 ?_
   refine go1 ?_
   refine RG.p (d := .bool (decide ((i : Int) < ks.length))) .d rfl ?_
   cases c6 : decide ((i : Int) < ks.length)
   case false =>
    have e := of_decide_eq_false c6
    refine go ?_
    refine RG.nilS (AC.cond_f rfl (AC.exit (ex () _ _ ⟨rfl, ?_⟩ trivial)))
    rw [hS]
    cases c7 : decide (1 < d)
    · rfl
    · rw [cond_true, ← h5 c7, List.drop_eq_nil_of_le (by omega), samesF]
   have hi' := of_decide_eq_true c6
   have hi : i < ks.length := by omega
   have hi2 : i < ks'.length := by omega
   refine go1 ?_
   refine go1 ?_
   refine go1 ?_
   refine go1 ?_
   refine go1 ?_
   refine RG.p (d := .bool true) .d (by
    show some (DV.bool (decide ((i : Int) < ks'.length))) = _
    congr 2
    simp; omega) ?_
   refine go1 ?_
   refine go1 ?_
   refine go1 ?_
   refine RG.p (d := .bool (decide (1 < d))) .d (by
    show some (DV.bool (decide ((d : Int) > 1))) = _
    congr 2
    rw [Bool.eq_iff_iff]; simp; omega) ?_
   cases c7 : decide (1 < d)
   case false =>
    refine go ?_
    refine RG.nilS (AC.cond_f rfl (AC.exit (ex () _ _ ⟨rfl, ?_⟩ trivial)))
    rw [hS, c7]; rfl
   have hd1 := of_decide_eq_true c7
   rw [c7, cond_true] at hS
   have h6 := h5 c7
   refine go ?_
   have hrow : ((elsC ks).drop (i * 5)).take 5 = elC ks[i] := elsC_at ks i _ (List.getElem?_eq_getElem hi)
   have hrow' : partD true 0 5 ((elsC ks).drop (((i : Nat) : Int).toNat * 5)) = some (.agg (elC ks[i])) := partD_row (i := i) (sz := 5) hrow (by rw [elsC_length]; omega)
   have grow : ((elsC ks').drop (i * 5)).take 5 = elC ks'[i] := elsC_at ks' i _ (List.getElem?_eq_getElem hi2)
   have grow' : partD true 0 5 ((elsC ks').drop (((i : Nat) : Int).toNat * 5)) = some (.agg (elC ks'[i])) := partD_row (i := i) (sz := 5) grow (by rw [elsC_length]; omega)
   refine RG.nilS (AC.cond_t rfl (AC.skip (AC.seq (AC.block (AC.seq (AC.drawV [12] rfl ?_))))))
   first|refine VD.z0 0 ?_|refine VD.z1 0 ?_|refine VD.z2 0 ?_|refine VD.z3 0 ?_|refine VD.z4 0 ?_|refine VD.z5 0 ?_
   first|refine VD.z0 1 ?_|refine VD.z1 1 ?_|refine VD.z2 1 ?_|refine VD.z3 1 ?_|refine VD.z4 1 ?_|refine VD.z5 1 ?_
   first|refine VD.z0 2 ?_|refine VD.z1 2 ?_|refine VD.z2 2 ?_|refine VD.z3 2 ?_|refine VD.z4 2 ?_|refine VD.z5 2 ?_
   refine VD.pv 3 rfl rfl (evP_iadr rfl rfl (by omega)) ?_
   refine VD.pv 4 rfl rfl (evP_ldc rfl hrow') ?_
   first|refine VD.z0 5 ?_|refine VD.z1 5 ?_|refine VD.z2 5 ?_|refine VD.z3 5 ?_|refine VD.z4 5 ?_|refine VD.z5 5 ?_
   first|refine VD.z0 6 ?_|refine VD.z1 6 ?_|refine VD.z2 6 ?_|refine VD.z3 6 ?_|refine VD.z4 6 ?_|refine VD.z5 6 ?_
   first|refine VD.z0 7 ?_|refine VD.z1 7 ?_|refine VD.z2 7 ?_|refine VD.z3 7 ?_|refine VD.z4 7 ?_|refine VD.z5 7 ?_
   refine VD.pv 8 rfl rfl (evP_iadr rfl rfl (by omega)) ?_
   refine VD.pv 9 rfl rfl (evP_ldc rfl grow') ?_
   first|refine VD.z0 10 ?_|refine VD.z1 10 ?_|refine VD.z2 10 ?_|refine VD.z3 10 ?_|refine VD.z4 10 ?_|refine VD.z5 10 ?_
   refine VD.pv 11 rfl rfl (d := .int .i64 (d - 1 : Nat)) (by
    rw [ev_sub (a := d) (b := 1) rfl rfl (by omega)]
    congr 2; omega) ?_
   have hc := ih hd1 ks[i] ks'[i] (fitss_mem ks hks _ (List.getElem_mem hi)) (fitss_mem ks' hks' _ (List.getElem_mem hi2))
   refine VD.pe (K := fun d' H2 => d' = .bool (sameF ks[i] ks'[i] (d - 1)) ∧ H2 = H') (Kp := fun _ _ => False) 12 rfl rfl (EF.call rfl (hc H')) (fun _ _ _ h => h.elim) (fun d' H2 ⟨f1, f2⟩ => ⟨?_, ?_⟩)
   · subst f2
     repeat (refine stabAll_cons rfl (by first | exact Stab.ld rfl hbb rfl rfl | exact Stab.of (evP_iadr rfl rfl (by omega)) rfl | exact Stab.of rfl rfl) ?_)
     exact stabAll_nil
   subst f1; subst f2
   refine VD.pv 13 rfl rfl (d := .bool (!(sameF ks[i] ks'[i] (d - 1)))) rfl ?_
   refine VD.pd rfl ?_
   rw [List.drop_eq_getElem_cons hi, List.drop_eq_getElem_cons hi2, samesF] at h6
   cases c8 : sameF ks[i] ks'[i] (d - 1)
   · refine AC.cond_t rfl (AC.seq (AC.reg ?_))
     refine go1 ?_
     refine RG.nilS (AC.ret (no ?_ rfl))
     rw [hS, ← h6, c8]; rfl
   · refine AC.cond_f rfl (AC.skip (AC.reg ?_))
     refine go1 ?_
     refine go1 ?_
     refine go1 ?_
     rw [c8, Bool.true_and] at h6
     exact RG.nil (ih2 (i + 1) _ ⟨by omega, rfl, fun _ => h6⟩ (by omega) _ ⟨rfl, rfl, rfl, rfl, trivial⟩)
theorem same_ok : ∀ (d : Nat), d < 100 → ∀ (e e' : El), fits e → fits e' → PF prog G 65 [.agg (elC e), .agg (elC e'), .int .i64 d] (.bool (sameF e e' d))
 | 0, h, e, e', hf, hf' => same_step h (fun h => by omega) e e' hf hf'
 | d + 1, h, e, e', hf, hf' => same_step h (fun _ => same_ok d (by omega)) e e' hf hf'
theorem Same_ok (e e' : El) (hf : fits e) (hf' : fits e') : PF prog G 17 [.agg (elC e), .agg (elC e')] (.bool (sameF e e' 20)) := by
 intro H
 refine CALL.of cF17 (Nat.le_of_ble_eq_true rfl) ?_
 refine AC.seq (AC.reg ?_)
 refine RG.box (ys := elC e) .d rfl rfl fun b3 h3 => ?_
 refine RG.box (ys := elC e') .d rfl rfl fun b4 h4 => ?_
 have hne : b3 ≠ b4 := fun e => by rw [← e, Hp.upd_same] at h4; cases h4
 have h4' : H b4 = none := by rw [Hp.upd_ne (Ne.symm hne)] at h4; exact h4
 refine go1 ?_
 refine RG.nilS (AC.seq (AC.reg ?_))
 refine RG.ld (cs := elC e) (ty := elT) .d wh (by rw [Hp.upd_ne hne]; exact Hp.upd_same) (ldEl e) ?_
 refine RG.ld (cs := elC e') (ty := elT) .d wh Hp.upd_same (ldEl e') ?_
 refine RG.callP .d rfl (same_ok 20 (by omega) e e' hf hf') ?_
 refine go1 ?_
 exact RG.nilS (AC.ret (finD (H' := H) rfl (SubH.over (SubH.over (SubH.refl H) h3) h4') ⟨rfl, rfl⟩))
open Go Go.Run Go.RowKit
open Go.Proofs.Tryz (prog)
def F12 : FN := ⟨53, (.seq (.reg [ji 0 (.mv (.c (.bool false)))])
 (.seq (.reg [ji 10 (.call 37 [(ci 0), (.c (.str [68, 97, 116, 97])), (.c (.str [97, 60, 98]))]), ji 11 (.call 13 [(.t 10)]), ji 9 (.mv (.t 11)), ji 12 (.ext (.t 9) 0), ji 13 (.ext (.t 9) 1), ji 1 (.mv (.t 12)), ji 2 (.mv (.t 13))])
 (.seq (.reg [ji 15 (.call 15 [(.c (.str [60, 65, 62, 60, 66, 32, 120, 109, 108, 110, 115, 61, 34, 115, 121, 110, 99, 109, 108, 58, 109, 101, 116, 105, 110, 102, 34, 62, 38, 35, 57, 55, 59, 60, 47, 66, 62, 10, 60, 47, 65, 62]))]), ji 14 (.mv (.t 15)), ji 16 (.ext (.t 14) 0), ji 17 (.ext (.t 14) 1), ji 18 (.ext (.t 14) 2), ji 3 (.alloc [(.int .i64 0), (.str []), (.str []), (.bool false), .nils] 24), jn (.st 5 (.t 3) (.t 16)), ji 4 (.mv (.t 17)), ji 5 (.mv (.t 18))])
 (.seq (.reg [ji 20 (.call 15 [(.c (.str [60, 65, 62]))]), ji 19 (.mv (.t 20)), ji 21 (.ext (.t 19) 0), ji 22 (.ext (.t 19) 1), ji 23 (.ext (.t 19) 2), ji 6 (.alloc [(.int .i64 0), (.str []), (.str []), (.bool false), .nils] 24), jn (.st 5 (.t 6) (.t 21)), ji 7 (.mv (.t 22)), ji 8 (.mv (.t 23))])
 (.seq (.reg [ji 24 (.mv (.t 2)), ji 25 (.bin .eql (.t 24) (ci 0)), ji 26 (.mv (.t 25)), jg 27 26 true (.mv (.t 1)), jg 28 26 true (.bin .eql (.t 27) (.c (.str [60, 63, 120, 109, 108, 32, 118, 101, 114, 115, 105, 111, 110, 61, 34, 49, 46, 48, 34, 63, 62, 60, 68, 97, 116, 97, 62, 97, 38, 108, 116, 59, 98, 60, 47, 68, 97, 116, 97, 62]))), ji 29 (.pick (.t 26) (.t 28) (.c (.bool false))), ji 30 (.mv (.t 29)), jg 31 30 true (.mv (.t 5)), jg 32 30 true (.bin .eql (.t 31) (ci 0)), ji 33 (.pick (.t 30) (.t 32) (.c (.bool false))), ji 34 (.mv (.t 33)), jg 35 34 true (.mv (.t 4)), jg 36 34 true (.bin .eql (.t 35) (ci 0)), ji 37 (.pick (.t 34) (.t 36) (.c (.bool false))), ji 38 (.mv (.t 37)), jg 39 38 true (.mv (.t 7)), jg 40 38 true (.bin .eql (.t 39) (ci 3)), ji 41 (.pick (.t 38) (.t 40) (.c (.bool false))), ji 42 (.mv (.t 41)), jg 43 42 true (.mv (.t 8)), jg 44 42 true (.bin .eql (.t 43) (ci 1)), ji 45 (.pick (.t 42) (.t 44) (.c (.bool false))), ji 46 (.mv (.t 45)), jg 47 46 true (.ld true 5 (.t 3)), jg 48 46 true (.bld [(.int .i64 0), (.str []), (.str []), (.bool false), .nils] [(0, 1, (ci 1)), (1, 1, (.c (.str [66]))), (2, 1, (.c (.str [97])))]), jg 49 46 true (.bsl 24 1 5 [(.int .i64 0), (.str []), (.str []), (.bool false), .nils] [(0, 5, (.t 48))]), jg 50 46 true (.bld [(.int .i64 0), (.str []), (.str []), (.bool false), .nils] [(1, 1, (.c (.str [65]))), (4, 1, (.t 49))]), jg 51 46 true (.call 17 [(.t 47), (.t 50)]), ji 52 (.pick (.t 46) (.t 51) (.c (.bool false))), ji 0 (.mv (.t 52))])
 .ret))))), [.tmp 0]⟩
theorem cF12 : cFn prog 12 = some F12 := by kernel_rfl
variable {G : Gl}
theorem DLe_lst {cs cs' : List DV} {n sz : Nat} {tag : Option (Nat × Nat)} (h : DLes cs cs') : DLe (.lst cs n sz tag) (.lst cs' n sz none) := by
 intro w H Z v hv
 cases hv with
 | lst A n c sz cs tag vs h1 h2 h3 ho h4 h5 =>
   refine .lst A n c sz cs' none vs (by rw [← h.len]; exact h1) h2 (fun j hj => h3 j (by rw [h.len]; exact hj)) (fun j hj => ho j (by rw [h.len]; exact hj)) (fun j d' hd' => ?_) (fun b off e => by cases e)
   have hj := (List.getElem?_eq_some_iff.1 hd').1
   have hj2 : j < cs.length := by rw [h.len]; exact hj
   exact h.at j _ d' (List.getElem?_eq_getElem hj2) hd' w H Z _ (h4 j _ (List.getElem?_eq_getElem hj2))
def W1 : El := .mk 0 [68, 97, 116, 97] [97, 60, 98] false []
def B1 : El := .mk 1 [66] [97] false []
def X1 : El := .mk 0 [65] [] false [B1]
def doc1 : List UInt8 := [60, 63, 120, 109, 108, 32, 118, 101, 114, 115, 105, 111, 110, 61, 34, 49, 46, 48, 34, 63, 62, 60, 68, 97, 116, 97, 62, 97, 38, 108, 116, 59, 98, 60, 47, 68, 97, 116, 97, 62]
def doc2 : List UInt8 := [60, 65, 62, 60, 66, 32, 120, 109, 108, 110, 115, 61, 34, 115, 121, 110, 99, 109, 108, 58, 109, 101, 116, 105, 110, 102, 34, 62, 38, 35, 57, 55, 59, 60, 47, 66, 62, 10, 60, 47, 65, 62]
theorem wr1 : writeF W1 = (doc1, 0) := by kernel_rfl
theorem rd1 : readF doc2 = (X1, 0, 0) := by kernel_rfl
theorem rd2 : readF [60, 65, 62] = (El0, 3, 1) := by kernel_rfl
theorem fitX1 : fits X1 := ⟨by decide, ⟨by decide, trivial⟩, trivial⟩
theorem fitW1 : fits W1 := ⟨by decide, trivial⟩
theorem eC1 : elC B1 = [.int .i64 1, .str [66], .str [97], .bool false, .lst [] 0 5 none] := by rw [B1, elC]; rfl
theorem eX1 : elC X1 = [.int .i64 0, .str [65], .str [], .bool false, .lst (elsC [B1]) 1 5 none] := by rw [X1, elC]; rfl
theorem splE (x : El) : spliceL 0 (elC x) Z5 = elC x := by
 obtain ⟨p, n, t, o, ks⟩ := x
 rw [elC]; rfl
theorem works_ok (hG : GOK G) : PF prog G 12 [] (.bool true) := by
 intro H
 have hW := Write_ok hG W1 fitW1
 rw [wr1] at hW
 have hR1 := Read_ok hG doc2
 rw [rd1] at hR1
 have hR2 := Read_ok hG [60, 65, 62]
 rw [rd2] at hR2
 have hL := Leaf_ok (G := G) 0 [68, 97, 116, 97] [97, 60, 98]
 have hS := Same_ok (G := G) X1 X1 fitX1 fitX1
 rw [sameF_refl] at hS
 refine CALL.of cF12 (Nat.le_of_ble_eq_true rfl) ?_
 refine AC.seq (AC.reg ?_)
 refine go1 ?_
 refine RG.nilS (AC.seq (AC.reg ?_))
 refine RG.callP .d rfl hL ?_
 refine RG.callP .d rfl hW ?_
 refine go1 ?_
 refine go1 ?_
 refine go1 ?_
 refine go1 ?_
 refine go1 ?_
 refine RG.nilS (AC.seq (AC.reg ?_))
 refine RG.callP .d rfl hR1 ?_
 refine go1 ?_
 refine go1 ?_
 refine go1 ?_
 refine go1 ?_
 refine RG.alloc .d fun b3 h3 => ?_
 refine RG.sto (d := .agg (elC X1)) (cs := Z5) (ty := elT) .d rfl Hp.upd_same rfl rfl (elC_length X1) (by exact Nat.le_refl _) ?_
 rw [Hp.upd_upd, splE]
 refine go1 ?_
 refine go1 ?_
 refine RG.nilS (AC.seq (AC.reg ?_))
 refine RG.callP .d rfl hR2 ?_
 refine go1 ?_
 refine go1 ?_
 refine go1 ?_
 refine go1 ?_
 refine RG.alloc .d fun b6 h6 => ?_
 have hne : b3 ≠ b6 := fun e => by rw [← e, Hp.upd_same] at h6; cases h6
 have h6' : H b6 = none := by rw [Hp.upd_ne (Ne.symm hne)] at h6; exact h6
 refine RG.sto (d := .agg (elC El0)) (cs := Z5) (ty := elT) .d rfl Hp.upd_same rfl rfl (elC_length El0) (by exact Nat.le_refl _) ?_
 rw [Hp.upd_upd, splE]
 refine go1 ?_
 refine go1 ?_
 have hb3 : ((H.upd b3 (some (.cells (elC X1) elT))).upd b6 (some (.cells (elC El0) elT))) b3 = some (.cells (elC X1) elT) := by rw [Hp.upd_ne hne]; exact Hp.upd_same
 have hsub : SubH H ((H.upd b3 (some (.cells (elC X1) elT))).upd b6 (some (.cells (elC El0) elT))) := SubH.over (SubH.over (SubH.refl H) h3) h6'
 generalize (H.upd b3 (some (.cells (elC X1) elT))).upd b6 (some (.cells (elC El0) elT)) = HH at hb3 hsub ⊢
 refine RG.nilS (AC.seq (AC.reg ?_))
 refine go1 ?_
 refine RG.p (d := .bool true) .d (by kernel_rfl) ?_
 refine go1 ?_
 refine go1 ?_
 refine RG.p (d := .bool true) .d (by kernel_rfl) ?_
 refine go1 ?_
 refine go1 ?_
 refine go1 ?_
 refine RG.p (d := .bool true) .d (by kernel_rfl) ?_
 refine go1 ?_
 refine go1 ?_
 refine go1 ?_
 refine RG.p (d := .bool true) .d (by kernel_rfl) ?_
 refine go1 ?_
 refine go1 ?_
 refine go1 ?_
 refine RG.p (d := .bool true) .d (by kernel_rfl) ?_
 refine go1 ?_
 refine go1 ?_
 refine go1 ?_
 refine RG.p (d := .bool true) .d (by kernel_rfl) ?_
 refine go1 ?_
 refine go1 ?_
 refine RG.ld (cs := elC X1) (ty := elT) .d rfl hb3 (ldEl X1) ?_
 refine RG.p (d := .agg [.int .i64 1, .str [66], .str [97], .bool false, .nils]) .d (by kernel_rfl) ?_
 refine RG.s .d (ST.bsl (cs := [.int .i64 1, .str [66], .str [97], .bool false, .nils]) rfl fun g hg => RG.drop (SubH.fresh hg) ?_)
 refine RG.leSet (d' := .lst (elsC [B1]) 1 5 none) (DLe_lst ?_) ?_
 · have e1 : elsC [B1] = [.int .i64 1, .str [66], .str [97], .bool false, .lst [] 0 5 none] := by rw [elsC, elsC, List.append_nil, eC1]
   rw [e1]
   exact .cons (DLe.refl _) (.cons (DLe.refl _) (.cons (DLe.refl _) (.cons (DLe.refl _) (.cons DLe.nils .nil))))
 refine RG.p (d := .agg (elC X1)) .d (by rw [eX1]; rfl) ?_
 refine RG.callP .d rfl hS ?_
 refine go1 ?_
 refine go1 ?_
 exact RG.nilS (AC.ret (finD (H' := H) rfl hsub ⟨rfl, rfl⟩))
open Go Go.Run Go.RowKit
open Go.Proofs.Tryz (prog)
variable {G : Gl}
theorem eta_el (e : El) : elC e = [.int .i64 e.page, .str e.name, .str e.text, .bool e.op, .lst (elsC e.kids) e.kids.length 5 none] := by
 obtain ⟨p, n, t, o, ks⟩ := e
 rw [elC]; rfl
theorem spl_el (e : El) : spliceL 0 (elC e) [.int .i64 0, .str [], .str [], .bool false, .nils] = elC e := by rw [eta_el]; rfl
theorem row_el {ks : List El} {i : Nat} (hi : i < ks.length) : partD true 0 5 ((elsC ks).drop (((i : Nat) : Int).toNat * 5)) = some (.agg (elC ks[i])) := by
 have hrow : ((elsC ks).drop (i * 5)).take 5 = elC ks[i] := elsC_at ks i _ (List.getElem?_eq_getElem hi)
 exact partD_row (i := i) (sz := 5) hrow (by rw [elsC_length]; omega)
open Go Go.Run Go.RowKit
open Go.Proofs.Tryz (prog)
variable {G : Gl}
open Go Go.Run Go.RowKit
open Go.Proofs.Tryz (prog)
variable {G : Gl}
open Go Go.Run Go.RowKit
open Go.Proofs.Tryz (prog)
variable {G : Gl}
open Go Go.Run Go.RowKit
open Go.Proofs.Tryz (prog)
variable {G : Gl}
open Go Go.Run Go.RowKit
open Go.Proofs.Tryz (prog)
variable {G : Gl}
open Go Go.Run Go.RowKit
open Go.Proofs.Tryz (prog)
variable {G : Gl}
open Go Go.Run Go.RowKit
open Go.Proofs.Tryz (prog)
def F185 : FN := ⟨4, (.seq (.reg [ji 1 (.box 9 (.t 0)), ji 2 (.mv (.c .nilfn))])
 (.seq (.reg [ji 3 (.mkfn (.func 219) [] [(.t 1)]), ji 2 (.mv (.t 3))])
 .ret)), [.tmp 2]⟩
theorem cF185 : cFn prog 185 = some F185 := by kernel_rfl
def F219 : FN := ⟨56, (.seq (.reg [ji 3 (.mv (.c (.int .i64 (-1))))])
 (.seq (.seq (.reg [ji 4 (.mv (ci 0))])
 (.block 0 (.loop (.seq (.seq (.reg [ji 8 (.mv (.t 4)), ji 9 (.ld false 1 (.t 1)), ji 10 (.len true (.t 9)), ji 11 (.bin .lss (.t 8) (.t 10))])
 (.cond (.t 11) .skip
 (.exit 0)))
 (.block 1 (.seq (.reg [ji 5 (.mv (ci 1))])
 (.seq (.reg [ji 12 (.ld false 1 (.t 1)), ji 13 (.mv (.t 4)), ji 14 (.idx (.t 12) (.t 13)), ji 15 (.conv .i32 (.t 14)), ji 6 (.mv (.t 15))])
 (.seq (.reg [ji 16 (.ld false 1 (.t 1)), ji 17 (.mv (.t 4)), ji 18 (.idx (.t 16) (.t 17)), ji 19 (.iadrA 256 1 (.g 3) (.t 18)), ji 20 (.ld false 1 (.t 19)), ji 21 (.bin .neq (.t 20) (.c (.int .u8 0))), ji 7 (.mv (.t 21))])
 (.seq (.seq (.reg [ji 22 (.mv (.t 6)), ji 23 (.bin .geq (.t 22) (.c (.int .i32 128)))])
 (.cond (.t 23) (.seq (.reg [ji 25 (.ld false 1 (.t 1)), ji 26 (.mv (.t 4)), ji 27 (.slcS (.t 25) (some (.t 26)) none), ji 28 (.call 207 [(.t 27)]), ji 24 (.mv (.t 28)), ji 29 (.ext (.t 24) 0), ji 30 (.ext (.t 24) 1), ji 6 (.mv (.t 29)), ji 5 (.mv (.t 30))])
 (.reg [ji 31 (.mv (.t 6)), ji 32 (.call 220 [(.t 31)]), ji 7 (.mv (.t 32))]))
 .skip))
 (.seq (.seq (.reg [ji 33 (.mv (.t 7))])
 (.cond (.t 33) (.seq (.reg [ji 34 (.mv (.t 3)), ji 35 (.bin .geq (.t 34) (ci 0))])
 (.cond (.t 35) (.seq (.seq (.reg [ji 36 (.mv (.t 0)), ji 37 (.ld false 1 (.t 1)), ji 38 (.mv (.t 3)), ji 39 (.mv (.t 4)), ji 40 (.slcS (.t 37) (some (.t 38)) (some (.t 39))), ji 41 (.calv (.t 36) [(.t 40)]), ji 42 (.un .not (.t 41))])
 (.cond (.t 42) .ret
 .skip))
 (.reg [ji 3 (.mv (.c (.int .i64 (-1))))]))
 .skip))
 (.seq (.reg [ji 43 (.mv (.t 3)), ji 44 (.bin .lss (.t 43) (ci 0))])
 (.cond (.t 44) (.reg [ji 45 (.mv (.t 4)), ji 3 (.mv (.t 45))])
 .skip))))
 (.reg [ji 46 (.mv (.t 4)), ji 47 (.mv (.t 5)), ji 48 (.bin .add (.t 46) (.t 47)), ji 4 (.mv (.t 48))])))))))))))
 (.seq (.reg [ji 49 (.mv (.t 3)), ji 50 (.bin .geq (.t 49) (ci 0))])
 (.cond (.t 50) (.reg [ji 51 (.mv (.t 0)), ji 52 (.ld false 1 (.t 1)), ji 53 (.mv (.t 3)), ji 54 (.slcS (.t 52) (some (.t 53)) none), ji 55 (.calv (.t 51) [(.t 54)])])
 .skip)))), []⟩
theorem cF219 : cFn prog 219 = some F219 := by kernel_rfl
variable {G : Gl}
def spT : List DV := (List.range 256).map fun c => .int .u8 (bif isSp (UInt8.ofNat c) then 1 else 0)
structure GOS (G : Gl) : Prop where
 ok : GOK G
 sp : G 3 = some spT
theorem spT_at (c : UInt8) : partD false 0 1 (spT.drop (((c.toNat : Nat) : Int).toNat * 1)) = some (.int .u8 (bif isSp c then 1 else 0)) := by
 have hc : c.toNat < 256 := c.toNat_lt
 rw [Int.toNat_natCast]
 refine partD_one ?_
 simp [spT, hc]
theorem evP_iadrAC {fr : Fr} {H : Hp} {x y : X} {cs : List DV} {len sz : Nat} {k : IntKind} {i : Int} (hx : XV G fr x = .cptr cs) (hy : XV G fr y = .int k i) (hr : 0 ≤ i ∧ i < len) : evP G fr H (.iadrA len sz x y) = some (.cptr (cs.drop (i.toNat * sz))) := by
 show iadrAD len sz (XV G fr x) (XV G fr y) = _
 rw [hx, hy]
 simp only [iadrAD, if_pos hr]
theorem evP_slc2 {fr : Fr} {H : Hp} {x l h : X} {s : List UInt8} {lo hi : Int} (hx : XV G fr x = .str s) (hl : XV G fr l = .int .i64 lo) (hh : XV G fr h = .int .i64 hi) (hr : 0 ≤ lo ∧ lo ≤ hi ∧ hi ≤ s.length) : evP G fr H (.slcS x (some l) (some h)) = some (.str ((s.take hi.toNat).drop lo.toNat)) := by
 show slcSD (some (XV G fr l)) (some (XV G fr h)) (XV G fr x) = _
 rw [hx, hl, hh]
 have h1 : (0 : Int) ≤ hi ∧ hi ≤ (s.length : Nat) := by omega
 have h2 : (0 : Int) ≤ lo ∧ lo ≤ ((hi.toNat : Nat) : Int) := by omega
 simp only [slcSD, bndD, if_pos h1, Option.bind_some, if_pos h2]
def strB (b : Nat) (s : List UInt8) : List (Nat × DO) := [(b, .cells [.str s] 9)]
theorem FieldsSeq_ok (s : List UInt8) (H : Hp) : CALL prog G 185 [.str s] H (fun r H' => ∃ b, r = .func (.func 219) [] [.ptr b 0] ∧ H b = none ∧ H' = addB (strB b s) H) (fun _ _ => False) := by
 refine CALL.of cF185 (Nat.le_of_ble_eq_true rfl) ?_
 refine AC.seq (AC.reg ?_)
 refine RG.box .d rfl rfl fun b hb => ?_
 refine au ?_
 exact AC.ret (fin rfl ⟨b, rfl, hb, rfl⟩)
def wordAt (s : List UInt8) (st : Int) (i : Nat) : List UInt8 := bif decide (st < 0) then [] else (s.drop st.toNat).take (i - st.toNat)
theorem wordAt_step {s : List UInt8} {st : Int} {i : Nat} (hi : i < s.length) (h : st < 0 ∨ (0 ≤ st ∧ st < i)) : wordAt s st i ++ [s[i]] = wordAt s (bif decide (st < 0) then (i : Nat) else st) (i + 1) := by
 rcases h with h | ⟨h, h2⟩
 · have e1 : decide (st < 0) = true := by simp [h]
   have e2 : decide (((i : Nat) : Int) < 0) = false := by simp
   simp only [wordAt, e1, e2, cond_true, cond_false, Int.toNat_natCast, List.nil_append]
   rw [List.drop_eq_getElem_cons hi, show i + 1 - i = 1 by omega]; rfl
 · have e1 : decide (st < 0) = false := by simp; omega
   simp only [wordAt, e1, cond_false]
   obtain ⟨k, rfl⟩ : ∃ k : Nat, st = (k : Nat) := ⟨st.toNat, by omega⟩
   rw [Int.toNat_natCast, show i + 1 - k = (i - k) + 1 by omega, List.take_succ_eq_append_getElem (by rw [List.length_drop]; omega)]
   congr 2
   rw [List.getElem_drop]
   congr 1; omega
theorem wordAt_nil {s : List UInt8} {st : Int} {i : Nat} (hi : i ≤ s.length) (h : st < 0 ∨ (0 ≤ st ∧ st < i)) : (wordAt s st i == []) = decide (st < 0) := by
 rcases h with h | ⟨h, h2⟩
 · have e1 : decide (st < 0) = true := by simp [h]
   rw [wordAt, e1]; rfl
 · have e1 : decide (st < 0) = false := by simp; omega
   rw [wordAt, e1, cond_false, beq_eq_false_iff_ne]
   intro hc
   have := congrArg List.length hc
   rw [List.length_take, List.length_drop, List.length_nil] at this
   omega
theorem Fields1_ok (hG : GOS G) {b : Nat} {s : List UInt8} (hl : s.length ≤ 1000000) (ha : ∀ c ∈ s, c.toNat < 128) : ITER prog G 219 [] [.ptr b 0] (fun w => [.str w]) (wordsF s) (strB b s) := by
 intro σ yv step R J E s0 A0 hy hyv hR hJ hB
 have hbA : ∀ A, addB (strB b s) A b = some (.cells [.str s] 9) := fun A => Hp.upd_same
 refine CALL.of cF219 (Nat.le_of_ble_eq_true rfl) ?_
 refine al ?_
 have post : ∀ (q : σ) (A : Hp), runG step s0 (wordsF s) = (q, true) → J q A → freeB (strB b s) A → ∃ A', ((runG step s0 (wordsF s)).2 = true → J (runG step s0 (wordsF s)).1 A') ∧ ((runG step s0 (wordsF s)).2 = false → E (runG step s0 (wordsF s)).1 A') ∧ freeB (strB b s) A' ∧ addB (strB b s) A = addB (strB b s) A' :=
  fun q A h1 h2 h3 => ⟨A, by rw [h1]; exact fun _ => h2, by rw [h1]; exact fun h => (by cases h), h3, rfl⟩
 have postE : ∀ (q : σ) (A : Hp), runG step s0 (wordsF s) = (q, false) → E q A → freeB (strB b s) A → ∃ A', ((runG step s0 (wordsF s)).2 = true → J (runG step s0 (wordsF s)).1 A') ∧ ((runG step s0 (wordsF s)).2 = false → E (runG step s0 (wordsF s)).1 A') ∧ freeB (strB b s) A' ∧ addB (strB b s) A = addB (strB b s) A' :=
  fun q A h1 h2 h3 => ⟨A, by rw [h1]; exact fun h => (by cases h), by rw [h1]; exact fun _ => h2, h3, rfl⟩
 have w0 : wordsGo (s.drop 0) (wordAt s (-1) 0) = wordsF s := rfl
 refine AC.bloopH (α := Nat × Int × σ) (β := Int) (fun a => s.length - a.1) (fun a => [(0, yv), (1, .ptr b 0), (3, .int .i64 a.2.1), (4, .int .i64 a.1)])
  (fun a H' => ∃ A, J a.2.2 A ∧ freeB (strB b s) A ∧ H' = addB (strB b s) A ∧ a.1 ≤ s.length ∧ (a.2.1 < 0 ∨ (0 ≤ a.2.1 ∧ a.2.1 < a.1)) ∧ runG step s0 (wordsF s) = runG step a.2.2 (wordsGo (s.drop a.1) (wordAt s a.2.1 a.1)) ∧ okR R step a.2.2 (wordsGo (s.drop a.1) (wordAt s a.2.1 a.1)))
  (fun st => [(0, yv), (1, .ptr b 0), (3, .int .i64 st)])
  (fun st H' => ∃ A q, J q A ∧ freeB (strB b s) A ∧ H' = addB (strB b s) A ∧ (st < 0 ∨ (0 ≤ st ∧ st < s.length)) ∧ runG step s0 (wordsF s) = runG step q (wordsGo [] (wordAt s st s.length)) ∧ okR R step q (wordsGo [] (wordAt s st s.length))) ?_ ?_ (0, -1, s0) _ ⟨A0, hJ, hB, rfl, Nat.zero_le _, .inl (show (-1 : Int) < 0 by decide), by dsimp only; rw [w0], by dsimp only; rw [w0]; exact hR⟩ ⟨rfl, rfl, rfl, rfl, trivial⟩
 · rintro st He fr ⟨A, q, h1, h2, rfl, h4, h5, h6⟩ hfr
   refine AC.to _ hfr ?_
   show AC _ _ _ _ _ _ _ _
   have hn := wordAt_nil (s := s) (st := st) (i := s.length) (Nat.le_refl _) h4
   refine au ?_
   have e1 : decide (st ≥ 0) = !(decide (st < 0)) := by rw [Bool.eq_iff_iff]; simp
   rw [e1]
   rw [wordsGo, hn] at h5 h6
   cases c1 : decide (st < 0)
   · rw [c1, cond_false] at h5 h6
     have hs0 := of_decide_eq_false c1
     have hc := CALV.frameB h2 (hy q (wordAt s st s.length) A h6.1 h1)
     refine AC.cond_t rfl (AC.reg ?_)
     refine go1 ?_
     refine RG.ld .d rfl (hbA A) rfl ?_
     refine go1 ?_
     refine RG.from .d wh wh (by omega) ?_
     have hw : s.drop st.toNat = wordAt s st s.length := by
      rw [wordAt, c1, cond_false, List.take_of_length_le (by rw [List.length_drop]; omega)]
     rw [hw]
     refine RG.calV .d rfl rfl hc (fun r H' ⟨A', ⟨k1, k2, k3⟩, k4, k5⟩ => ?_) (fun r H' ⟨_, k, _⟩ => k.elim)
     subst k5
     rw [runG] at h5
     refine RG.nil (fin rfl ?_)
     cases c2 : (step q (wordAt s st s.length)).2
     · rw [c2, cond_false] at h5
       exact postE _ _ h5 (k3 c2) k4
     · rw [c2, cond_true] at h5
       exact post _ _ h5 (k2 c2) k4
   · rw [c1, cond_true] at h5
     refine AC.cond_f rfl ?_
     refine AC.skip (fin rfl ?_)
     exact post q A h5 h1 h2
 · rintro ⟨i, st, q⟩ H' ⟨A, h1, h2, rfl, h4, h5, h6, h7⟩ ih ex
   dsimp only at h1 h4 h5 h6 h7 ih ⊢
   refine AC.seq (AC.seq (AC.reg ?_))
   refine go1 ?_
   refine RG.ld .d rfl (hbA A) rfl ?_
   refine go ?_
   cases e1 : decide ((i : Int) < s.length)
   · have e := of_decide_eq_false e1
     have hil : i = s.length := by omega
     subst hil
     rw [List.drop_length] at h6 h7
     refine RG.nilS (AC.cond_f rfl (AC.exit (ex st _ _ ⟨A, q, h1, h2, rfl, h5, h6, h7⟩ ⟨rfl, rfl, rfl, trivial⟩)))
   have e0 := of_decide_eq_true e1
   have hi : i < s.length := by omega
   have hcl := ha _ (List.getElem_mem hi)
   have hwn := wordAt_nil (s := s) (st := st) (i := i) (by omega) h5
   have hws := wordAt_step (s := s) (st := st) (i := i) hi h5
   rw [List.drop_eq_getElem_cons hi, wordsGo, hwn] at h6 h7
   have hat : s[(((i : Nat) : Int)).toNat]? = some s[i] := by rw [Int.toNat_natCast]; exact List.getElem?_eq_getElem hi
   generalize hcc : s[i] = c at h6 h7 hcl hws hat
   refine RG.nilS (AC.cond_t rfl ?_)
   refine AC.skip ?_
   refine AC.block ?_
   refine AC.seq (AC.reg ?_)
   refine go ?_
   refine RG.nilS (AC.seq (AC.reg ?_))
   refine RG.ld .d rfl (hbA A) rfl ?_
   refine go1 ?_
   refine RG.at .d wh wh (by omega) hat ?_
   refine RG.p (d := .int .i32 (c.toNat : Nat)) .d (by
    show some (DV.int .i32 (IntKind.wrap .i32 ((c.toNat : Nat) : Int))) = _
    rw [IntWalk.i32_in _ (by omega)]) ?_
   refine go ?_
   refine RG.nilS (AC.seq (AC.reg ?_))
   refine RG.ld .d rfl (hbA A) rfl ?_
   refine go1 ?_
   refine RG.at .d wh wh (by omega) hat ?_
   refine RG.p .d (evP_iadrAC (cs := spT) (by show (match G 3 with | some cs => DV.cptr cs | none => _) = _; rw [hG.sp]) rfl (by omega)) ?_
   refine RG.p .d (evP_ldc rfl (spT_at c)) ?_
   refine RG.p (d := .bool (isSp c)) .d (by
    show some (DV.bool ((bif isSp c then (1 : Int) else 0) != 0)) = _
    cases isSp c <;> rfl) ?_
   refine go ?_
   refine RG.nilS ?_
   have h128 : decide (((c.toNat : Nat) : Int) ≥ 128) = false := by simp; omega
   refine au ?_
   rw [h128]
   refine au ?_
   have e2 : decide (st ≥ 0) = !(decide (st < 0)) := by rw [Bool.eq_iff_iff]; simp
   cases c1 : isSp c
   case false =>
    rw [c1, cond_false, hws] at h6 h7
    refine au ?_
    cases c2 : decide (st < 0)
    · have g := of_decide_eq_false c2
      rw [c2, cond_false] at h6 h7
      refine au ?_
      exact RG.nil (ih (i + 1, st, q) _ ⟨A, h1, h2, rfl, by dsimp only; omega, by dsimp only; omega, h6, h7⟩ (by dsimp only; omega) _ ⟨rfl, rfl, rfl, rfl, trivial⟩)
    · rw [c2, cond_true] at h6 h7
      refine au ?_
      exact RG.nil (ih (i + 1, ((i : Nat) : Int), q) _ ⟨A, h1, h2, rfl, by dsimp only; omega, by dsimp only; omega, h6, h7⟩ (by dsimp only; omega) _ ⟨rfl, rfl, rfl, rfl, trivial⟩)
   case true =>
    rw [c1, cond_true] at h6 h7
    refine au ?_
    rw [e2]
    cases c2 : decide (st < 0)
    · have g := of_decide_eq_false c2
      rw [c2, cond_false] at h6 h7
      have hc := CALV.frameB h2 (hy q (wordAt s st i) A h7.1 h1)
      have hsl : (s.take i).drop st.toNat = wordAt s st i := by
       rw [wordAt, c2, cond_false, List.drop_take]
      refine AC.cond_t rfl ?_
      refine AC.seq ?_
      refine AC.seq (AC.reg ?_)
      refine go1 ?_
      refine RG.ld .d rfl (hbA A) rfl ?_
      refine go1 ?_
      refine go1 ?_
      have hsl' : (s.take (((i : Nat) : Int)).toNat).drop st.toNat = wordAt s st i := by rw [Int.toNat_natCast]; exact hsl
      refine RG.p (d := .str (wordAt s st i)) .d (by rw [← hsl']; exact evP_slc2 (s := s) (lo := st) (hi := (i : Nat)) rfl rfl rfl (by omega)) ?_
      refine RG.calV .d rfl rfl hc (fun r H' ⟨A', ⟨k1, k2, k3⟩, k4, k5⟩ => ?_) (fun r H' ⟨_, k, _⟩ => k.elim)
      subst k1; subst k5
      rw [runG] at h6
      refine go ?_
      cases c3 : (step q (wordAt s st i)).2
      · rw [c3, cond_false] at h6
        refine au ?_
        exact AC.ret (fin rfl (postE _ _ h6 (k3 c3) k4))
      · rw [c3, cond_true] at h6
        have h8 := h7.2 c3
        have hwn1 : wordAt s (-1) (i + 1) = [] := rfl
        refine au ?_
        exact RG.nil (ih (i + 1, -1, (step q (wordAt s st i)).1) _ ⟨A', k2 c3, k4, rfl, by dsimp only; omega, .inl (show (-1 : Int) < 0 by decide), by dsimp only; rw [hwn1]; exact h6, by dsimp only; rw [hwn1]; exact h8⟩ (by dsimp only; omega) _ ⟨rfl, rfl, rfl, rfl, trivial⟩)
    · have g := of_decide_eq_true c2
      rw [c2, cond_true] at h6 h7
      have hwn1 : wordAt s st (i + 1) = [] := by rw [wordAt, c2]; rfl
      refine au ?_
      exact RG.nil (ih (i + 1, st, q) _ ⟨A, h1, h2, rfl, by dsimp only; omega, .inl g, by dsimp only; rw [hwn1]; exact h6, by dsimp only; rw [hwn1]; exact h7⟩ (by dsimp only; omega) _ ⟨rfl, rfl, rfl, rfl, trivial⟩)
open Go Go.Run Go.RowKit
open Go.Proofs.Tryz (prog)
def F106 : FN := ⟨19, (.seq (.reg [ji 4 (.mv (ci 0)), ji 5 (.mv (.c .nilif))])
 (.seq (.reg [ji 6 (.mv (.t 0)), ji 7 (.call 99 [(.t 6)])])
 (.seq (.reg [ji 8 (.mv (.t 0)), ji 9 (.mv (.t 0)), ji 10 (.nilc (.t 9)), ji 11 (.fadr 1 (.t 10)), ji 12 (.ld false 1 (.t 11)), ji 13 (.mv (.t 1)), ji 14 (.app 5 1 1 (.t 12) (.t 13)), ji 15 (.nilc (.t 8)), ji 16 (.fadr 1 (.t 15)), jn (.st 1 (.t 16) (.t 14))])
 (.seq (.reg [ji 17 (.mv (.t 1)), ji 18 (.len false (.t 17)), ji 4 (.mv (.t 18)), ji 5 (.mv (.c .nilif))])
 .ret)))), [.tmp 4, .tmp 5]⟩
theorem cF106 : cFn prog 106 = some F106 := by kernel_rfl
variable {G : Gl} {m p : DV}
def wAddr (u : Bool) (b : Nat) : DV := bif u then .ptr b 2 else .nilp
inductive WB (H0 : Hp) (b : Nat) (m p : DV) : Bool → List UInt8 → Hp → Prop
 | mt (u : Bool) : H0 b = none → WB H0 b m p u [] (H0.upd b (some (.cells [m, p, wAddr u b, .nils] 78)))
 | on (u : Bool) (g : Nat) (bs : List UInt8) : H0 b = none → H0 g = none → g ≠ b → bs ≠ [] →
   WB H0 b m p u bs ((H0.upd b (some (.cells [m, p, wAddr u b, .lst (bs.map B8) bs.length 1 (some (g, 0))] 78))).upd g (some (.front bs.length 1 5)))
theorem WB.sub {H0 H : Hp} {b : Nat} {u : Bool} {bs : List UInt8} (h : WB H0 b m p u bs H) : SubH H0 H := by
 cases h with
 | mt h => exact SubH.fresh h
 | on g bs h1 h2 h3 h4 =>
   refine (SubH.fresh h1).trans (SubH.fresh ?_)
   rw [Hp.upd_ne h3]; exact h2
theorem WB.cell {H0 H : Hp} {b : Nat} {u : Bool} {bs : List UInt8} (h : WB H0 b m p u bs H) : ∃ buf, H b = some (.cells [m, p, wAddr u b, buf] 78) := by
 cases h with
 | mt h => exact ⟨_, Hp.upd_same⟩
 | on g bs h1 h2 h3 h4 => exact ⟨_, by rw [Hp.upd_ne (Ne.symm h3)]; exact Hp.upd_same⟩
theorem WB.use {H0 H : Hp} {b : Nat} {u : Bool} {bs : List UInt8} {buf : DV} (h : WB H0 b m p u bs H) (hb : H b = some (.cells [m, p, wAddr u b, buf] 78)) : WB H0 b m p true bs (H.upd b (some (.cells [m, p, .ptr b 2, buf] 78))) := by
 cases h with
 | mt h =>
   rw [Hp.upd_same] at hb
   cases hb
   rw [Hp.upd_upd]
   exact .mt true h
 | on g bs h1 h2 h3 h4 =>
   rw [Hp.upd_ne (Ne.symm h3), Hp.upd_same] at hb
   cases hb
   rw [Hp.upd_comm h3, Hp.upd_upd]
   exact .on true g bs h1 h2 h3 h4
theorem WcopyCheck_ok {H0 H : Hp} {b : Nat} {u : Bool} {bs : List UInt8} (h : WB H0 b m p u bs H) :
  CALL prog G 99 [.ptr b 2] H (fun d H' => d = .tup [] ∧ WB H0 b m p true bs H') (fun _ _ => False) := by
 obtain ⟨buf, hb⟩ := h.cell
 refine CALL.of cF99 (Nat.le_of_ble_eq_true rfl) ?_
 refine AC.seq (AC.reg ?_)
 cases u
 · refine go ?_
   refine RG.nilS (AC.cond_t rfl (AC.reg ?_))
   refine go ?_
   refine RG.s .d (ST.p2u (P := prog) (u := 67) (j := Go.Proofs.Tryz.t67) (by kernel_rfl) (by kernel_rfl) (by kernel_rfl) (fun h => by cases (show (2 : Nat) = 0 from h)) rfl hb (by simp) ?_)
   refine RG.s .d (ST.noEscape Go.Proofs.Tryz.func158 rfl rfl (by kernel_rfl) (by kernel_rfl) rfl ?_)
   refine RG.s .d (ST.u2p (P := prog) (u := 67) (j := Go.Proofs.Tryz.t67) (by kernel_rfl) (by kernel_rfl) (by kernel_rfl) rfl hb (by kernel_rfl) ?_)
   refine go ?_
   exact RG.nil (fin rfl ⟨rfl, h.use hb⟩)
 · refine go ?_
   refine RG.nilS (AC.cond_f rfl (AC.seq (AC.reg ?_)))
   refine go ?_
   refine RG.p .d (evP_eqptr (b := b) (o := 2) (o' := 2) rfl rfl) ?_
   refine RG.nilS (AC.cond_f rfl (AC.skip (fin rfl ⟨rfl, h⟩)))
theorem WB.app {H0 H : Hp} {b : Nat} {u : Bool} {bs ys : List UInt8} {N : Nat} {x y : X} {dst : Option Nat} {l : List Ins} {Q : EX → Fr → Hp → Prop} {fr : Fr} (h : WB H0 b m p u bs H) (hlen : bs.length + ys.length ≤ 140737488355328)
  (hx : ∀ buf, H b = some (.cells [m, p, wAddr u b, buf] 78) → XV G fr x = buf) (hy : srcD H 1 (XV G fr y) = some (ys.map B8, ys.length))
  (k : ∀ buf H', cellsD buf = some [buf] → H' b = some (.cells [m, p, wAddr u b, (XV G fr x)] 78) → WB H0 b m p u (bs ++ ys) (H'.upd b (some (.cells [m, p, wAddr u b, buf] 78))) → RG prog G none N l Q (fr.put dst buf) H') :
  RG prog G none N (⟨dst, none, .app 5 1 1 x y⟩ :: l) Q fr H := by
 cases h with
 | mt h =>
   have hxv := hx _ Hp.upd_same
   by_cases hys : ys = []
   · subst hys
     refine RG.st (ST.app_nothing (.inl hxv) hy ?_)
     rw [hxv]
     refine k _ _ rfl (by rw [hxv]; exact Hp.upd_same) ?_
     rw [Hp.upd_upd]
     exact .mt u h
   · have hpos : 0 < ys.length := List.length_pos_iff.2 hys
     refine RG.st (ST.app_new (.inl hxv) hy hpos (by simp at hlen; omega) fun g hg => ?_)
     have hgb : g ≠ b := fun e => by rw [e, Hp.upd_same] at hg; cases hg
     rw [Hp.upd_ne hgb] at hg
     refine k _ _ rfl (by rw [Hp.upd_ne (Ne.symm hgb), hxv]; exact Hp.upd_same) ?_
     rw [Hp.upd_comm hgb, Hp.upd_upd, List.nil_append]
     exact .on u g ys h hg hgb hys
 | on g _ h1 h2 h3 h4 =>
   have hb : ((H0.upd b (some (.cells [m, p, wAddr u b, .lst (bs.map B8) bs.length 1 (some (g, 0))] 78))).upd g (some (.front bs.length 1 5))) b = some (.cells [m, p, wAddr u b, .lst (bs.map B8) bs.length 1 (some (g, 0))] 78) := by
    rw [Hp.upd_ne (Ne.symm h3)]; exact Hp.upd_same
   have hxv := hx _ hb
   refine RG.st (ST.app_own hxv Hp.upd_same hy (by omega) fun g' hg' => ?_)
   have hg2 : g' ≠ b ∧ H0 g' = none := by
    rcases hg' with rfl | hg'
    · exact ⟨h3, h2⟩
    · have e1 : g' ≠ g := fun e => by rw [e, Hp.upd_same] at hg'; cases hg'
      rw [Hp.upd_ne e1] at hg'
      have e2 : g' ≠ b := fun e => by rw [e, Hp.upd_same] at hg'; cases hg'
      rw [Hp.upd_ne e2] at hg'
      exact ⟨e2, hg'⟩
   rw [Hp.upd_upd]
   have hz : (H0.upd b (some (.cells [m, p, wAddr u b, .lst (bs.map B8) bs.length 1 (some (g, 0))] 78))).upd g none = H0.upd b (some (.cells [m, p, wAddr u b, .lst (bs.map B8) bs.length 1 (some (g, 0))] 78)) :=
    Hp.upd_id (by rw [Hp.upd_ne h3]; exact h2)
   rw [hz]
   refine k _ _ rfl (by rw [Hp.upd_ne (Ne.symm hg2.1), hxv]; exact Hp.upd_same) ?_
   rw [Hp.upd_comm hg2.1, Hp.upd_upd, ← List.map_append, ← List.length_append]
   exact .on u g' (bs ++ ys) h1 hg2.2 hg2.1 (by simp [h4])
theorem WWriteString_ok {H0 H : Hp} {b : Nat} {u : Bool} {bs s : List UInt8} (h : WB H0 b m p u bs H) (hlen : bs.length + s.length ≤ 140737488355328) :
  CALL prog G 39 [.ptr b 2, .str s] H (fun d H' => d = .tup [.int .i64 s.length, .nilif] ∧ WB H0 b m p true (bs ++ s) H') (fun _ _ => False) := by
 refine CALL.of cF39 (Nat.le_of_ble_eq_true rfl) ?_
 refine AC.seq (AC.reg ?_)
 refine go ?_
 refine RG.nilS (AC.seq (AC.reg ?_))
 refine go ?_
 refine RG.call .d rfl (WcopyCheck_ok h) (fun d H' ⟨e1, h'⟩ => ?_) (fun _ _ h => h.elim)
 subst e1
 refine RG.nilS (AC.seq (AC.reg ?_))
 obtain ⟨buf, hb⟩ := h'.cell
 refine go ?_
 refine h'.app hlen (fun buf' hb' => ?_) rfl (fun buf' H2 hcd hb2 h2 => ?_)
 · rw [hb] at hb'; cases hb'; rfl
 · refine go1 ?_
   refine go1 ?_
   refine RG.sto .d wh hb2 wh hcd rfl (by simp) ?_
   refine RG.nilS (AC.seq (AC.reg ?_))
   refine go ?_
   exact RG.nilS (AC.ret (fin rfl ⟨rfl, h2⟩))
theorem BWrite_ok {H0 H : Hp} {b : Nat} {u : Bool} {bs s : List UInt8} {tag : Option (Nat × Nat)} (h : WB H0 b m p u bs H) (hlen : bs.length + s.length ≤ 140737488355328) :
  CALL prog G 106 [.ptr b 2, .lst (s.map B8) s.length 1 tag] H (fun d H' => d = .tup [.int .i64 s.length, .nilif] ∧ WB H0 b m p true (bs ++ s) H') (fun _ _ => False) := by
 refine CALL.of cF106 (Nat.le_of_ble_eq_true rfl) ?_
 refine AC.seq (AC.reg ?_)
 refine go ?_
 refine RG.nilS (AC.seq (AC.reg ?_))
 refine go ?_
 refine RG.call .d rfl (WcopyCheck_ok h) (fun d H' ⟨e1, h'⟩ => ?_) (fun _ _ h => h.elim)
 subst e1
 refine RG.nilS (AC.seq (AC.reg ?_))
 obtain ⟨buf, hb⟩ := h'.cell
 refine go ?_
 refine h'.app hlen (fun buf' hb' => ?_) rfl (fun buf' H2 hcd hb2 h2 => ?_)
 · rw [hb] at hb'; cases hb'; rfl
 · refine go1 ?_
   refine go1 ?_
   refine RG.sto .d wh hb2 wh hcd rfl (by simp) ?_
   refine RG.nilS (AC.seq (AC.reg ?_))
   refine go ?_
   exact RG.nilS (AC.ret (fin rfl ⟨rfl, h2⟩))
theorem WLen_ok {H0 H : Hp} {b : Nat} {u : Bool} {bs : List UInt8} (h : WB H0 b m p u bs H) :
  CALL prog G 41 [.ptr b 2] H (fun d H' => d = .int .i64 bs.length ∧ H' = H) (fun _ _ => False) := by
 refine CALL.of cF41 (Nat.le_of_ble_eq_true rfl) ?_
 refine AC.seq (AC.reg ?_)
 refine go ?_
 refine RG.nilS (AC.seq (AC.reg ?_))
 cases h with
 | mt h =>
   refine go ?_
   exact RG.nilS (AC.ret (fin rfl ⟨rfl, rfl⟩))
 | on g _ h1 h2 h3 h4 =>
   have hb : ((H0.upd b (some (.cells [m, p, wAddr u b, .lst (bs.map B8) bs.length 1 (some (g, 0))] 78))).upd g (some (.front bs.length 1 5))) b = some (.cells [m, p, wAddr u b, .lst (bs.map B8) bs.length 1 (some (g, 0))] 78) := by
    rw [Hp.upd_ne (Ne.symm h3)]; exact Hp.upd_same
   refine go ?_
   exact RG.nilS (AC.ret (fin rfl ⟨rfl, rfl⟩))
theorem WString_ok {H0 H : Hp} {b : Nat} {u : Bool} {bs : List UInt8} (h : WB H0 b m p u bs H) (hlen : bs.length ≤ 9223372036854775807) :
  CALL prog G 42 [.ptr b 2] H (fun d H' => d = .str bs ∧ H' = H0) (fun _ _ => False) := by
 refine CALL.of cF42 (Nat.le_of_ble_eq_true rfl) ?_
 refine AC.seq (AC.reg ?_)
 refine go ?_
 cases h with
 | mt h =>
   refine RG.nilS (AC.seq (AC.drawV [4, 10] rfl ?_))
   first|refine VD.z0 0 ?_|refine VD.z1 0 ?_|refine VD.z2 0 ?_|refine VD.z3 0 ?_|refine VD.z4 0 ?_|refine VD.z5 0 ?_
   first|refine VD.z0 1 ?_|refine VD.z1 1 ?_|refine VD.z2 1 ?_|refine VD.z3 1 ?_|refine VD.z4 1 ?_|refine VD.z5 1 ?_
   first|refine VD.z0 2 ?_|refine VD.z1 2 ?_|refine VD.z2 2 ?_|refine VD.z3 2 ?_|refine VD.z4 2 ?_|refine VD.z5 2 ?_
   first|refine VD.z0 3 ?_|refine VD.z1 3 ?_|refine VD.z2 3 ?_|refine VD.z3 3 ?_|refine VD.z4 3 ?_|refine VD.z5 3 ?_
   first|refine VD.z0 5 ?_|refine VD.z1 5 ?_|refine VD.z2 5 ?_|refine VD.z3 5 ?_|refine VD.z4 5 ?_|refine VD.z5 5 ?_
   first|refine VD.z0 6 ?_|refine VD.z1 6 ?_|refine VD.z2 6 ?_|refine VD.z3 6 ?_|refine VD.z4 6 ?_|refine VD.z5 6 ?_
   first|refine VD.z0 7 ?_|refine VD.z1 7 ?_|refine VD.z2 7 ?_|refine VD.z3 7 ?_|refine VD.z4 7 ?_|refine VD.z5 7 ?_
   first|refine VD.z0 8 ?_|refine VD.z1 8 ?_|refine VD.z2 8 ?_|refine VD.z3 8 ?_|refine VD.z4 8 ?_|refine VD.z5 8 ?_
   first|refine VD.z0 9 ?_|refine VD.z1 9 ?_|refine VD.z2 9 ?_|refine VD.z3 9 ?_|refine VD.z4 9 ?_|refine VD.z5 9 ?_
   refine VD.pe (K := fun d H' => d = .nilp ∧ H' = H0.upd b (some (.cells [m, p, wAddr u b, .nils] 78))) (Kp := fun _ _ => False) 4 rfl rfl (fun fr1 l Q hs k _ => RG.st (ST.sdata_nil ((hs 6 (by decide)).trans rfl) (k _ _ ⟨rfl, rfl⟩))) (fun _ _ _ h => h.elim) (fun d H' ⟨e1, e2⟩ => ?_)
   subst e1; subst e2
   refine ⟨stb, ?_⟩
   refine VD.pe (K := fun d H' => d = .str [] ∧ H' = H0.upd b (some (.cells [m, p, wAddr u b, .nils] 78))) (Kp := fun _ _ => False) 10 rfl rfl (fun fr1 l Q hs k _ => RG.st (ST.ustr_nil ((hs 7 (by decide)).trans rfl) ((hs 12 (by decide)).trans rfl) (k _ _ ⟨rfl, rfl⟩))) (fun _ _ _ h => h.elim) (fun d H' ⟨e1, e2⟩ => ?_)
   subst e1; subst e2
   refine ⟨stb, ?_⟩
   first|refine VD.z0 11 ?_|refine VD.z1 11 ?_|refine VD.z2 11 ?_|refine VD.z3 11 ?_|refine VD.z4 11 ?_|refine VD.z5 11 ?_
   refine VD.pd rfl ?_
   exact AC.ret (finD rfl (SubH.fresh h) ⟨rfl, rfl⟩)
 | on g _ h1 h2 h3 h4 =>
   have hb : ((H0.upd b (some (.cells [m, p, wAddr u b, .lst (bs.map B8) bs.length 1 (some (g, 0))] 78))).upd g (some (.front bs.length 1 5))) b = some (.cells [m, p, wAddr u b, .lst (bs.map B8) bs.length 1 (some (g, 0))] 78) := by
    rw [Hp.upd_ne (Ne.symm h3)]; exact Hp.upd_same
   obtain ⟨c, cs, rfl⟩ : ∃ c cs, bs = c :: cs := by
    cases bs with
    | nil => exact absurd rfl h4
    | cons c cs => exact ⟨c, cs, rfl⟩
   refine RG.nilS (AC.seq (AC.drawV [4, 10] rfl ?_))
   first|refine VD.z0 0 ?_|refine VD.z1 0 ?_|refine VD.z2 0 ?_|refine VD.z3 0 ?_|refine VD.z4 0 ?_|refine VD.z5 0 ?_
   first|refine VD.z0 1 ?_|refine VD.z1 1 ?_|refine VD.z2 1 ?_|refine VD.z3 1 ?_|refine VD.z4 1 ?_|refine VD.z5 1 ?_
   first|refine VD.z0 2 ?_|refine VD.z1 2 ?_|refine VD.z2 2 ?_|refine VD.z3 2 ?_|refine VD.z4 2 ?_|refine VD.z5 2 ?_
   first|refine VD.z0 3 ?_|refine VD.z1 3 ?_|refine VD.z2 3 ?_|refine VD.z3 3 ?_|refine VD.z4 3 ?_|refine VD.z5 3 ?_
   first|refine VD.z0 5 ?_|refine VD.z1 5 ?_|refine VD.z2 5 ?_|refine VD.z3 5 ?_|refine VD.z4 5 ?_|refine VD.z5 5 ?_
   first|refine VD.z0 6 ?_|refine VD.z1 6 ?_|refine VD.z2 6 ?_|refine VD.z3 6 ?_|refine VD.z4 6 ?_|refine VD.z5 6 ?_
   first|refine VD.z0 7 ?_|refine VD.z1 7 ?_|refine VD.z2 7 ?_|refine VD.z3 7 ?_|refine VD.z4 7 ?_|refine VD.z5 7 ?_
   first|refine VD.z0 8 ?_|refine VD.z1 8 ?_|refine VD.z2 8 ?_|refine VD.z3 8 ?_|refine VD.z4 8 ?_|refine VD.z5 8 ?_
   first|refine VD.z0 9 ?_|refine VD.z1 9 ?_|refine VD.z2 9 ?_|refine VD.z3 9 ?_|refine VD.z4 9 ?_|refine VD.z5 9 ?_
   refine VD.pe (K := fun d H' => d = .ptr g 0 ∧ H' = (H0.upd b (some (.cells [m, p, wAddr u b, .lst ((c :: cs).map B8) (c :: cs).length 1 (some (g, 0))] 78))).upd g (some (.front (c :: cs).length 1 5))) (Kp := fun _ _ => False) 4 rfl rfl
    (fun fr1 l Q hs k _ => RG.st (ST.sdata (c := B8 c) (cs := cs.map B8) ((hs 6 (by decide)).trans rfl) Hp.upd_same (k _ _ ⟨rfl, rfl⟩))) (fun _ _ _ h => h.elim) (fun d H' ⟨e1, e2⟩ => ?_)
   subst e1; subst e2
   refine ⟨stb, ?_⟩
   refine VD.pe (K := fun d H' => d = .str (c :: cs) ∧ H' = ((H0.upd b (some (.cells [m, p, wAddr u b, .lst ((c :: cs).map B8) (c :: cs).length 1 (some (g, 0))] 78))).upd g (some (.front (c :: cs).length 1 5))).upd g none) (Kp := fun _ _ => False) 10 rfl rfl
    (fun fr1 l Q hs k _ => RG.st (ST.ustr (P := prog) (ty := 5) (k := 3) (by kernel_rfl) (by kernel_rfl) h4 hlen ((hs 7 (by decide)).trans rfl) ((hs 12 (by decide)).trans rfl) Hp.upd_same hb rfl (k _ _ ⟨rfl, rfl⟩))) (fun _ _ _ h => h.elim) (fun d H' ⟨e1, e2⟩ => ?_)
   subst e1; subst e2
   refine ⟨stb, ?_⟩
   first|refine VD.z0 11 ?_|refine VD.z1 11 ?_|refine VD.z2 11 ?_|refine VD.z3 11 ?_|refine VD.z4 11 ?_|refine VD.z5 11 ?_
   refine VD.pd rfl ?_
   rw [Hp.upd_upd]
   have hz : (H0.upd b (some (.cells [m, p, wAddr u b, .lst ((c :: cs).map B8) (c :: cs).length 1 (some (g, 0))] 78))).upd g none = H0.upd b (some (.cells [m, p, wAddr u b, .lst ((c :: cs).map B8) (c :: cs).length 1 (some (g, 0))] 78)) :=
    Hp.upd_id (by rw [Hp.upd_ne h3]; exact h2)
   rw [hz]
   exact AC.ret (finD rfl (SubH.fresh h1) ⟨rfl, rfl⟩)
open Go Go.Run Go.RowKit
open Go.Proofs.Tryz (prog)
def F107 : FN := ⟨25, (.seq (.reg [ji 2 (.mv (.c (.str [])))])
 (.seq (.reg [ji 4 (.mv (.t 0)), ji 5 (.bin .and (.t 4) (.c (.int .u32 127))), ji 6 (.conv .u8 (.t 5)), ji 7 (.bsl 5 1 1 [(.int .u8 0)] [(0, 1, (.t 6))]), ji 3 (.mv (.t 7))])
 (.seq (.seq (.reg [ji 8 (.mv (.t 0)), ji 9 (.bin .shr (.t 8) (.c (.int .u64 7))), ji 0 (.mv (.t 9))])
 (.block 0 (.loop (.seq (.seq (.reg [ji 10 (.mv (.t 0)), ji 11 (.bin .gtr (.t 10) (.c (.int .u32 0)))])
 (.cond (.t 11) .skip
 (.exit 0)))
 (.seq (.block 1 (.reg [ji 14 (.mv (.t 3)), ji 15 (.mv (.t 0)), ji 16 (.bin .and (.t 15) (.c (.int .u32 127))), ji 17 (.conv .u8 (.t 16)), ji 18 (.bin .or (.t 17) (.c (.int .u8 128))), ji 19 (.bsl 5 1 1 [(.int .u8 0)] [(0, 1, (.t 18))]), ji 20 (.app 5 1 1 (.t 14) (.t 19)), ji 3 (.mv (.t 20))]))
 (.reg [ji 12 (.mv (.t 0)), ji 13 (.bin .shr (.t 12) (.c (.int .u64 7))), ji 0 (.mv (.t 13))]))))))
 (.seq (.reg [ji 21 (.mv (.t 3)), ji 22 (.call 162 [(.t 21)])])
 (.seq (.reg [ji 23 (.mv (.t 3)), ji 24 (.b2s (.t 23)), ji 2 (.mv (.t 24))])
 .ret))))), [.tmp 2]⟩
theorem cF107 : cFn prog 107 = some F107 := by kernel_rfl
def F45 : FN := ⟨9, (.reg [ji 4 (.mv (.t 0)), ji 5 (.nilc (.t 4)), ji 6 (.fadr 2 (.t 5)), ji 7 (.mv (.t 1)), ji 8 (.call 106 [(.t 6), (.t 7)])]), []⟩
theorem cF45 : cFn prog 45 = some F45 := by kernel_rfl
def F46 : FN := ⟨11, (.draw [ji 4 (.mv (.t 0)), ji 5 (.nilc (.t 4)), ji 6 (.fadr 2 (.t 5)), ji 7 (.mv (.t 1)), ji 8 (.conv .u32 (.t 7)), ji 9 (.call 107 [(.t 8)]), ji 10 (.call 39 [(.t 6), (.t 9)])] [[], [0], [1], [], [3], [4], [2, 5, 5]]), []⟩
theorem cF46 : cFn prog 46 = some F46 := by kernel_rfl
variable {G : Gl} {m p : DV}
def mbGo : Nat → Nat → List UInt8
 | 0, _ => []
 | f + 1, n => bif n == 0 then [] else mbGo f (n / 128) ++ [UInt8.ofNat (n % 128 + 128)]
def mbF (n : Nat) : List UInt8 := mbGo 5 (n / 128) ++ [UInt8.ofNat (n % 128)]
theorem mbGo_len : ∀ (f n : Nat), (mbGo f n).length ≤ f
 | 0, _ => Nat.le_refl _
 | f + 1, n => by
   rw [mbGo]
   cases n == 0
   · have := mbGo_len f (n / 128)
     rw [cond_false, List.length_append, List.length_singleton]; omega
   · simp
theorem mbF_len (n : Nat) : (mbF n).length ≤ 6 := by
 have := mbGo_len 5 (n / 128)
 rw [mbF, List.length_append, List.length_singleton]; omega
theorem low7 (n : Nat) : n &&& 127 = n % 128 := Nat.and_two_pow_sub_one_eq_mod n 7
theorem or_u8 (a b : Nat) (ha : a < 256) (hb : b < 256) : binI .or .u8 (a : Int) (b : Int) = some (.int .u8 ((a ||| b : Nat) : Int)) := by
 have h2 : a ||| b < 256 := Nat.or_lt_two_pow (n := 8) ha hb
 have e : ∀ n : Nat, BitVec.ofInt IntKind.u8.bits (n : Int) = BitVec.ofNat 8 n := fun n => BitVec.ofInt_natCast 8 n
 simp only [binI, e]
 have h1 : (BitVec.ofNat 8 a ||| BitVec.ofNat 8 b).toNat = a ||| b := by
  rw [BitVec.toNat_or, BitVec.toNat_ofNat, BitVec.toNat_ofNat, Nat.mod_eq_of_lt ha, Nat.mod_eq_of_lt hb]
 show some (DV.int .u8 (IntKind.u8.wrap (((BitVec.ofNat 8 a ||| BitVec.ofNat 8 b).toNat : Nat) : Int))) = _
 rw [h1, IntWalk.u8_in _ (by omega)]
theorem and_u8 (a b : Nat) (ha : a < 256) (hb : b < 256) : binI .and .u8 (a : Int) (b : Int) = some (.int .u8 ((a &&& b : Nat) : Int)) := by
 have h2 : a &&& b < 256 := Nat.and_lt_two_pow (n := 8) a hb
 have e : ∀ n : Nat, BitVec.ofInt IntKind.u8.bits (n : Int) = BitVec.ofNat 8 n := fun n => BitVec.ofInt_natCast 8 n
 simp only [binI, e]
 have h1 : (BitVec.ofNat 8 a &&& BitVec.ofNat 8 b).toNat = a &&& b := by
  rw [BitVec.toNat_and, BitVec.toNat_ofNat, BitVec.toNat_ofNat, Nat.mod_eq_of_lt ha, Nat.mod_eq_of_lt hb]
 show some (DV.int .u8 (IntKind.u8.wrap (((BitVec.ofNat 8 a &&& BitVec.ofNat 8 b).toNat : Nat) : Int))) = _
 rw [h1, IntWalk.u8_in _ (by omega)]
theorem or128 (a : Nat) (h : a < 128) : a ||| 128 = a + 128 := by
 have := Nat.two_pow_add_eq_or_of_lt (i := 7) h 1
 rw [Nat.or_comm, ← this]; omega
theorem B8_of (n : Nat) (h : n < 256) : DV.int .u8 ((n : Nat) : Int) = B8 (UInt8.ofNat n) := by
 rw [B8, UInt8.toNat_ofNat', Nat.mod_eq_of_lt (show n < 2 ^ 8 from h)]
theorem mbWrite_ok (n : Nat) (hn : n < 4294967296) : PF prog G 107 [.int .u32 n] (.str (mbF n)) := by
 intro H
 refine CALL.of cF107 (Nat.le_of_ble_eq_true rfl) ?_
 refine AC.seq (AC.reg ?_)
 refine go ?_
 refine RG.nilS (AC.seq (AC.reg ?_))
 refine go1 ?_
 refine RG.p (d := .int .u32 ((n % 128 : Nat) : Int)) .d (by
  show binI .and .u32 ((n : Nat) : Int) ((127 : Nat) : Int) = _
  rw [and_u32 n 127 hn (by decide), low7]) ?_
 refine RG.p (d := B8 (UInt8.ofNat (n % 128))) .d (by
  show some (DV.int .u8 (IntKind.u8.wrap ((n % 128 : Nat) : Int))) = _
  rw [IntWalk.u8_in _ (by omega), B8_of _ (by omega)]) ?_
 refine RG.st (ST.bslW (cs := [B8 (UInt8.ofNat (n % 128))]) rfl fun g hg => ?_)
 have hw0 : GW 5 1 H ([UInt8.ofNat (n % 128)].map B8) 1 (.win g 0 1 1) (H.upd g (some (.cells [B8 (UInt8.ofNat (n % 128))] 5))) := .inr ⟨g, 1, [], hg, rfl, rfl, rfl, rfl⟩
 refine go1 ?_
 refine RG.nilS (AC.seq (AC.seq (AC.reg ?_)))
 refine go1 ?_
 refine RG.p (d := .int .u32 ((n / 128 : Nat) : Int)) .d (by
  show shI .shr .u32 ((n : Nat) : Int) ((7 : Nat) : Int) = _
  rw [shr_u32 n 7 (by decide)]) ?_
 refine go1 ?_
 refine RG.nilS ?_
 generalize H.upd g (some (.cells [B8 (UInt8.ofNat (n % 128))] 5)) = Hg at hw0 ⊢
 refine AC.bloopH (α := Nat × Nat × List UInt8 × DV) (β := DV) (fun a => a.1) (fun a => [(0, .int .u32 (a.2.1 : Nat)), (3, a.2.2.2)])
  (fun a H' => GW 5 1 H (a.2.2.1.map B8) a.2.2.1.length a.2.2.2 H' ∧ a.2.1 < 128 ^ a.1 ∧ a.2.2.1.length + a.1 = 6 ∧ 0 < a.2.2.1.length ∧ mbF n = mbGo a.1 a.2.1 ++ a.2.2.1.reverse ∧ a.2.1 < 4294967296) (fun v => [(3, v)])
  (fun v H' => GW 5 1 H ((mbF n).reverse.map B8) (mbF n).length v H') ?_ ?_ (5, n / 128, [UInt8.ofNat (n % 128)], .win g 0 1 1) _ ⟨hw0, by dsimp only; omega, rfl, Nat.one_pos, rfl, by dsimp only; omega⟩ ⟨rfl, rfl, trivial⟩
 · rintro v He fr hv hfr
   refine AC.to _ hfr (AC.seq (AC.reg ?_))
   rcases hv with ⟨h0, _, _, _⟩ | ⟨g2, cap, rest, hg2, rfl, h3, h4, rfl⟩
   · rw [mbF, List.length_append] at h0; simp at h0
   refine go1 ?_
   have hlr : (mbF n).length = (mbF n).reverse.length := (List.length_reverse).symm
   rw [hlr]
   refine RG.call .d rfl (reverse_ok (l := (mbF n).reverse) (rest := rest) (by have := mbF_len n; rw [List.length_reverse]; omega) Hp.upd_same) (fun d H2 hH2 => ?_) (fun _ _ h => h.elim)
   subst hH2
   rw [Hp.upd_upd, List.reverse_reverse]
   refine RG.nilS (AC.seq (AC.reg ?_))
   refine RG.frz (t := 3) (n := (mbF n).reverse.length) (sz := 1) (ls := (mbF n).map B8) (rest := rest) rfl Hp.upd_same (by simp) ?_
   rw [Hp.upd_upd, Hp.upd_id hg2, List.length_reverse]
   refine go1 ?_
   refine RG.st (ST.b2s rfl ?_)
   refine go ?_
   exact RG.nilS (AC.ret (fin rfl ⟨rfl, rfl⟩))
 · rintro ⟨f, k, acc, v⟩ H' ⟨h1, h2, h3, h5, h4, hk32⟩ ih ex
   dsimp only at h1 h2 h3 h4 h5 hk32 ih ⊢
   refine AC.seq (AC.seq (AC.reg ?_))
   refine go1 ?_
   refine RG.p (d := .bool (!(k == 0))) .d (by
    show some (DV.bool (decide (((k : Nat) : Int) > 0))) = _
    congr 2
    rw [Bool.eq_iff_iff]; simp; omega) ?_
   cases c : k == 0
   · have hk0 : k ≠ 0 := by simpa using c
     obtain ⟨f, rfl⟩ : ∃ f', f = f' + 1 := ⟨f - 1, by
      cases f with
      | zero => simp at h2; omega
      | succ f => rfl⟩
     rw [mbGo, c, cond_false] at h4
     refine RG.nilS (AC.cond_t rfl (AC.skip (AC.seq (AC.block (AC.reg ?_)))))
     refine go1 ?_
     refine go1 ?_
     refine RG.p (d := .int .u32 ((k % 128 : Nat) : Int)) .d (by
      show binI .and .u32 ((k : Nat) : Int) ((127 : Nat) : Int) = _
      rw [and_u32 k 127 hk32 (by decide), low7]) ?_
     refine RG.p (d := .int .u8 ((k % 128 : Nat) : Int)) .d (by
      show some (DV.int .u8 (IntKind.u8.wrap ((k % 128 : Nat) : Int))) = _
      rw [IntWalk.u8_in _ (by omega)]) ?_
     refine RG.p (d := B8 (UInt8.ofNat (k % 128 + 128))) .d (by
      show binI .or .u8 ((k % 128 : Nat) : Int) ((128 : Nat) : Int) = _
      rw [or_u8 _ _ (by omega) (by decide), or128 _ (by omega), B8_of _ (by omega)]) ?_
     refine RG.zD ?_
     refine GW.app (ys := [B8 (UInt8.ofNat (k % 128 + 128))]) (m := 1) .d h1 rfl rfl rfl (by omega) (by decide) (fun v' H2 h1' => ?_)
     refine go ?_
     refine RG.nil (AC.reg ?_)
     refine go1 ?_
     refine RG.p (d := .int .u32 ((k / 128 : Nat) : Int)) .d (by
      show shI .shr .u32 ((k : Nat) : Int) ((7 : Nat) : Int) = _
      rw [shr_u32 k 7 (by decide)]) ?_
     refine go ?_
     refine RG.nil (ih (f, k / 128, acc ++ [UInt8.ofNat (k % 128 + 128)], v') _ ⟨?_, ?_, ?_, ?_, ?_, by dsimp only; omega⟩ (by dsimp only; omega) _ ⟨rfl, rfl, trivial⟩)
     · dsimp only
       rw [List.map_append, List.length_append]; exact h1'
     · dsimp only
       rw [Nat.pow_succ] at h2; omega
     · dsimp only
       rw [List.length_append, List.length_singleton]; omega
     · dsimp only
       rw [List.length_append, List.length_singleton]; omega
     · dsimp only
       rw [h4, List.reverse_append, List.append_assoc]; rfl
   · have hk0 : k = 0 := by simpa using c
     subst hk0
     have hz : mbGo f 0 = [] := by cases f <;> rfl
     rw [hz, List.nil_append] at h4
     have hl : (mbF n).length = acc.length := by rw [h4, List.length_reverse]
     refine RG.nilS (AC.cond_f rfl (AC.exit (ex v _ _ ?_ ⟨rfl, trivial⟩)))
     rw [hl, h4, List.reverse_reverse]; exact h1
theorem bytes_ok {H0 H : Hp} {b : Nat} {u : Bool} {bs s : List UInt8} {tag : Option (Nat × Nat)} (h : WB H0 b m p u bs H) (hlen : bs.length + s.length ≤ 140737488355328) :
  CALL prog G 45 [.ptr b 0, .lst (s.map B8) s.length 1 tag] H (fun _ H' => WB H0 b m p true (bs ++ s) H') (fun _ _ => False) := by
 refine CALL.of cF45 (Nat.le_of_ble_eq_true rfl) ?_
 refine AC.reg ?_
 refine go ?_
 refine RG.call .d rfl (BWrite_ok h hlen) (fun d H' ⟨_, h'⟩ => ?_) (fun _ _ h => h.elim)
 exact RG.nil (fin rfl h')
theorem number_ok {H0 H : Hp} {b n : Nat} {u : Bool} {bs : List UInt8} (h : WB H0 b m p u bs H) (hn : n < 4294967296) (hlen : bs.length + 6 ≤ 140737488355328) :
  CALL prog G 46 [.ptr b 0, .int .i64 n] H (fun _ H' => WB H0 b m p true (bs ++ mbF n) H') (fun _ _ => False) := by
 refine CALL.of cF46 (Nat.le_of_ble_eq_true rfl) ?_
 refine AC.drawP [6] rfl ?_
 first|refine VP.z0 0 ?_|refine VP.z1 0 ?_|refine VP.z2 0 ?_|refine VP.z3 0 ?_|refine VP.z4 0 ?_|refine VP.z5 0 ?_|refine VP.z6 0 ?_|refine VP.z7 0 ?_|refine VP.z8 0 ?_
 first|refine VP.z0 1 ?_|refine VP.z1 1 ?_|refine VP.z2 1 ?_|refine VP.z3 1 ?_|refine VP.z4 1 ?_|refine VP.z5 1 ?_|refine VP.z6 1 ?_|refine VP.z7 1 ?_|refine VP.z8 1 ?_
 first|refine VP.z0 2 ?_|refine VP.z1 2 ?_|refine VP.z2 2 ?_|refine VP.z3 2 ?_|refine VP.z4 2 ?_|refine VP.z5 2 ?_|refine VP.z6 2 ?_|refine VP.z7 2 ?_|refine VP.z8 2 ?_
 first|refine VP.z0 3 ?_|refine VP.z1 3 ?_|refine VP.z2 3 ?_|refine VP.z3 3 ?_|refine VP.z4 3 ?_|refine VP.z5 3 ?_|refine VP.z6 3 ?_|refine VP.z7 3 ?_|refine VP.z8 3 ?_
 refine VP.v (d := .int .u32 n) 4 rfl (by
  show some (DV.int .u32 (IntKind.u32.wrap ((n : Nat) : Int))) = _
  rw [u32_wrap n hn]) ?_
 refine VP.c 5 (mbWrite_ok n hn) ?_
 have := mbF_len n
 refine VP.pe 6 rfl rfl (EF.callg trivial rfl (WWriteString_ok h (by omega))) (fun _ _ _ h => h.elim) (fun d H2 ⟨_, h2⟩ => ⟨(by (repeat (refine stabP_cons rfl (by first | exact StabP.of (QV.evP trivial rfl) rfl | exact StabP.of (QV.bsl trivial rfl) rfl | exact StabP.of (QV.evP trivial (congrArg (fun x => some (DV.int .u32 x)) (u32_wrap n hn))) rfl) ?_)); exact stabP_nil), ?_⟩)
 exact VP.pd (fin rfl h2)
open Go Go.Run Go.RowKit
open Go.Proofs.Tryz (prog)
def F205 : FN := ⟨10, (.seq (.reg [ji 2 (.mv (.c (.str [])))])
 (.seq (.seq (.reg [ji 3 (.mv (.t 0))])
 (.block 0 (.seq (.reg [ji 5 (.bin .eql (.t 3) (ci 0)), ji 4 (.mv (.t 5))])
 (.cond (.t 4) (.seq (.reg [ji 2 (.mv (.c (.str [65, 100, 100, 32, 65, 108, 101, 114, 116, 32, 65, 114, 99, 104, 105, 118, 101, 32, 65, 116, 111, 109, 105, 99, 32, 67, 104, 97, 108, 32, 67, 109, 100, 32, 67, 109, 100, 73, 68, 32, 67, 109, 100, 82, 101, 102, 32, 67, 111, 112, 121, 32, 67, 114, 101, 100, 32, 68, 97, 116, 97, 32, 68, 101, 108, 101, 116, 101, 32, 69, 120, 101, 99, 32, 70, 105, 110, 97, 108, 32, 71, 101, 116, 32, 73, 116, 101, 109, 32, 76, 97, 110, 103, 32, 76, 111, 99, 78, 97, 109, 101, 32, 76, 111, 99, 85, 82, 73, 32, 77, 97, 112, 32, 77, 97, 112, 73, 116, 101, 109, 32, 77, 101, 116, 97, 32, 77, 115, 103, 73, 68, 32, 77, 115, 103, 82, 101, 102, 32, 78, 111, 82, 101, 115, 112, 32, 78, 111, 82, 101, 115, 117, 108, 116, 115, 32, 80, 117, 116, 32, 82, 101, 112, 108, 97, 99, 101, 32, 82, 101, 115, 112, 85, 82, 73, 32, 82, 101, 115, 117, 108, 116, 115, 32, 83, 101, 97, 114, 99, 104, 32, 83, 101, 113, 117, 101, 110, 99, 101, 32, 83, 101, 115, 115, 105, 111, 110, 73, 68, 32, 83, 102, 116, 68, 101, 108, 32, 83, 111, 117, 114, 99, 101, 32, 83, 111, 117, 114, 99, 101, 82, 101, 102, 32, 83, 116, 97, 116, 117, 115, 32, 83, 121, 110, 99, 32, 83, 121, 110, 99, 66, 111, 100, 121, 32, 83, 121, 110, 99, 72, 100, 114, 32, 83, 121, 110, 99, 77, 76, 32, 84, 97, 114, 103, 101, 116, 32, 84, 97, 114, 103, 101, 116, 82, 101, 102, 32, 45, 32, 86, 101, 114, 68, 84, 68, 32, 86, 101, 114, 80, 114, 111, 116, 111, 32, 78, 117, 109, 98, 101, 114, 79, 102, 67, 104, 97, 110, 103, 101, 115, 32, 77, 111, 114, 101, 68, 97, 116, 97])))])
 .ret)
 (.seq (.reg [ji 7 (.bin .eql (.t 3) (ci 1)), ji 6 (.mv (.t 7))])
 (.cond (.t 6) (.seq (.reg [ji 2 (.mv (.c (.str [65, 110, 99, 104, 111, 114, 32, 69, 77, 73, 32, 70, 111, 114, 109, 97, 116, 32, 70, 114, 101, 101, 73, 68, 32, 70, 114, 101, 101, 77, 101, 109, 32, 76, 97, 115, 116, 32, 77, 97, 114, 107, 32, 77, 97, 120, 77, 115, 103, 83, 105, 122, 101, 32, 77, 101, 109, 32, 77, 101, 116, 73, 110, 102, 32, 78, 101, 120, 116, 32, 78, 101, 120, 116, 78, 111, 110, 99, 101, 32, 83, 104, 97, 114, 101, 100, 77, 101, 109, 32, 83, 105, 122, 101, 32, 84, 121, 112, 101, 32, 86, 101, 114, 115, 105, 111, 110, 32, 77, 97, 120, 79, 98, 106, 83, 105, 122, 101])))])
 .ret)
 (.seq (.reg [ji 9 (.bin .eql (.t 3) (ci 2)), ji 8 (.mv (.t 9))])
 (.cond (.t 8) (.seq (.reg [ji 2 (.mv (.c (.str [67, 84, 67, 97, 112, 32, 67, 84, 84, 121, 112, 101, 32, 68, 97, 116, 97, 83, 116, 111, 114, 101, 32, 68, 97, 116, 97, 84, 121, 112, 101, 32, 68, 101, 118, 73, 68, 32, 68, 101, 118, 73, 110, 102, 32, 68, 101, 118, 84, 121, 112, 32, 68, 105, 115, 112, 108, 97, 121, 78, 97, 109, 101, 32, 68, 83, 77, 101, 109, 32, 69, 120, 116, 32, 70, 119, 86, 32, 72, 119, 86, 32, 77, 97, 110, 32, 77, 97, 120, 71, 85, 73, 68, 83, 105, 122, 101, 32, 77, 97, 120, 73, 68, 32, 77, 97, 120, 77, 101, 109, 32, 77, 111, 100, 32, 79, 69, 77, 32, 80, 97, 114, 97, 109, 78, 97, 109, 101, 32, 80, 114, 111, 112, 78, 97, 109, 101, 32, 82, 120, 32, 82, 120, 80, 114, 101, 102, 32, 83, 104, 97, 114, 101, 100, 77, 101, 109, 32, 83, 105, 122, 101, 32, 83, 111, 117, 114, 99, 101, 82, 101, 102, 32, 83, 119, 86, 32, 83, 121, 110, 99, 67, 97, 112, 32, 83, 121, 110, 99, 84, 121, 112, 101, 32, 84, 120, 32, 84, 120, 80, 114, 101, 102, 32, 86, 97, 108, 69, 110, 117, 109, 32, 86, 101, 114, 67, 84, 32, 86, 101, 114, 68, 84, 68, 32, 88, 78, 97, 109, 32, 88, 86, 97, 108, 32, 85, 84, 67, 32, 83, 117, 112, 112, 111, 114, 116, 78, 117, 109, 98, 101, 114, 79, 102, 67, 104, 97, 110, 103, 101, 115, 32, 83, 117, 112, 112, 111, 114, 116, 76, 97, 114, 103, 101, 79, 98, 106, 115])))])
 .ret)
 .skip))))))))
 (.seq (.reg [ji 2 (.mv (.c (.str [])))])
 .ret))), [.tmp 2]⟩
theorem cF205 : cFn prog 205 = some F205 := by kernel_rfl
def F161 : FN := ⟨4, (.seq (.reg [ji 1 (.box 3 (.t 0)), ji 2 (.mv (.c .nilfn))])
 (.seq (.reg [ji 3 (.mkfn (.func 204) [] [(.t 1)]), ji 2 (.mv (.t 3))])
 .ret)), [.tmp 2]⟩
theorem cF161 : cFn prog 161 = some F161 := by kernel_rfl
def F204 : FN := ⟨20, (.seq (.reg [ji 2 (.box 205 (.t 0))])
 (.seq (.reg [ji 3 (.alloc [(.int .u8 0)] 5), jn (.st 1 (.t 3) (.c (.int .u8 5)))])
 (.seq (.reg [ji 5 (.ld false 1 (.t 1)), ji 6 (.call 205 [(.t 5)]), ji 7 (.call 185 [(.t 6)])])
 (.block 0 (.rng (.t 7) [8] (.reg [ji 4 (.mv (.t 8))])
 (.block 1 (.seq (.seq (.reg [ji 9 (.mv (.t 4)), ji 10 (.bin .neq (.t 9) (.c (.str [45]))), ji 11 (.mv (.t 10)), jg 12 11 true (.ld false 1 (.t 2)), jg 13 11 true (.ld false 1 (.t 3)), jg 14 11 true (.mv (.t 4)), jg 15 11 true (.calv (.t 12) [(.t 13), (.t 14)]), jg 16 11 true (.un .not (.t 15)), ji 17 (.pick (.t 11) (.t 16) (.c (.bool false)))])
 (.cond (.t 17) .ret
 .skip))
 (.reg [ji 18 (.ld false 1 (.t 3)), ji 19 (.bin .add (.t 18) (.c (.int .u8 1))), jn (.st 1 (.t 3) (.t 19))])))))))), []⟩
theorem cF204 : cFn prog 204 = some F204 := by kernel_rfl
def F105 : FN := ⟨15, (.seq (.reg [ji 3 (.box 9 (.t 1)), ji 4 (.alloc [(.int .u8 0)] 5)])
 (.seq (.seq (.reg [ji 7 (.mv (.t 0)), ji 8 (.call 161 [(.t 7)])])
 (.block 0 (.rng (.t 8) [9, 10] (.seq (.reg [ji 5 (.mv (.t 9))])
 (.reg [ji 6 (.mv (.t 10))]))
 (.block 1 (.seq (.reg [ji 11 (.mv (.t 6)), ji 12 (.ld false 1 (.t 3)), ji 13 (.bin .eql (.t 11) (.t 12))])
 (.cond (.t 13) (.seq (.reg [ji 14 (.mv (.t 5)), jn (.st 1 (.t 4) (.t 14))])
 .ret)
 .skip))))))
 (.seq (.reg [jn (.st 1 (.t 4) (.c (.int .u8 0)))])
 .ret))), [.cell 4 false 1]⟩
theorem cF105 : cFn prog 105 = some F105 := by kernel_rfl
def F125 : FN := ⟨15, (.seq (.reg [ji 3 (.box 5 (.t 1)), ji 4 (.alloc [(.str [])] 9)])
 (.seq (.seq (.reg [ji 7 (.mv (.t 0)), ji 8 (.call 161 [(.t 7)])])
 (.block 0 (.rng (.t 8) [9, 10] (.seq (.reg [ji 5 (.mv (.t 9))])
 (.reg [ji 6 (.mv (.t 10))]))
 (.block 1 (.seq (.reg [ji 11 (.mv (.t 5)), ji 12 (.ld false 1 (.t 3)), ji 13 (.bin .eql (.t 11) (.t 12))])
 (.cond (.t 13) (.seq (.reg [ji 14 (.mv (.t 6)), jn (.st 1 (.t 4) (.t 14))])
 .ret)
 .skip))))))
 (.seq (.reg [jn (.st 1 (.t 4) (.c (.str [])))])
 .ret))), [.cell 4 false 1]⟩
theorem cF125 : cFn prog 125 = some F125 := by kernel_rfl
variable {G : Gl}
def voc0 : List UInt8 := [65, 100, 100, 32, 65, 108, 101, 114, 116, 32, 65, 114, 99, 104, 105, 118, 101, 32, 65, 116, 111, 109, 105, 99, 32, 67, 104, 97, 108, 32, 67, 109, 100, 32, 67, 109, 100, 73, 68, 32, 67, 109, 100, 82, 101, 102, 32, 67, 111, 112, 121, 32, 67, 114, 101, 100, 32, 68, 97, 116, 97, 32, 68, 101, 108, 101, 116, 101, 32, 69, 120, 101, 99, 32, 70, 105, 110, 97, 108, 32, 71, 101, 116, 32, 73, 116, 101, 109, 32, 76, 97, 110, 103, 32, 76, 111, 99, 78, 97, 109, 101, 32, 76, 111, 99, 85, 82, 73, 32, 77, 97, 112, 32, 77, 97, 112, 73, 116, 101, 109, 32, 77, 101, 116, 97, 32, 77, 115, 103, 73, 68, 32, 77, 115, 103, 82, 101, 102, 32, 78, 111, 82, 101, 115, 112, 32, 78, 111, 82, 101, 115, 117, 108, 116, 115, 32, 80, 117, 116, 32, 82, 101, 112, 108, 97, 99, 101, 32, 82, 101, 115, 112, 85, 82, 73, 32, 82, 101, 115, 117, 108, 116, 115, 32, 83, 101, 97, 114, 99, 104, 32, 83, 101, 113, 117, 101, 110, 99, 101, 32, 83, 101, 115, 115, 105, 111, 110, 73, 68, 32, 83, 102, 116, 68, 101, 108, 32, 83, 111, 117, 114, 99, 101, 32, 83, 111, 117, 114, 99, 101, 82, 101, 102, 32, 83, 116, 97, 116, 117, 115, 32, 83, 121, 110, 99, 32, 83, 121, 110, 99, 66, 111, 100, 121, 32, 83, 121, 110, 99, 72, 100, 114, 32, 83, 121, 110, 99, 77, 76, 32, 84, 97, 114, 103, 101, 116, 32, 84, 97, 114, 103, 101, 116, 82, 101, 102, 32, 45, 32, 86, 101, 114, 68, 84, 68, 32, 86, 101, 114, 80, 114, 111, 116, 111, 32, 78, 117, 109, 98, 101, 114, 79, 102, 67, 104, 97, 110, 103, 101, 115, 32, 77, 111, 114, 101, 68, 97, 116, 97]
def voc1 : List UInt8 := [65, 110, 99, 104, 111, 114, 32, 69, 77, 73, 32, 70, 111, 114, 109, 97, 116, 32, 70, 114, 101, 101, 73, 68, 32, 70, 114, 101, 101, 77, 101, 109, 32, 76, 97, 115, 116, 32, 77, 97, 114, 107, 32, 77, 97, 120, 77, 115, 103, 83, 105, 122, 101, 32, 77, 101, 109, 32, 77, 101, 116, 73, 110, 102, 32, 78, 101, 120, 116, 32, 78, 101, 120, 116, 78, 111, 110, 99, 101, 32, 83, 104, 97, 114, 101, 100, 77, 101, 109, 32, 83, 105, 122, 101, 32, 84, 121, 112, 101, 32, 86, 101, 114, 115, 105, 111, 110, 32, 77, 97, 120, 79, 98, 106, 83, 105, 122, 101]
def voc2 : List UInt8 := [67, 84, 67, 97, 112, 32, 67, 84, 84, 121, 112, 101, 32, 68, 97, 116, 97, 83, 116, 111, 114, 101, 32, 68, 97, 116, 97, 84, 121, 112, 101, 32, 68, 101, 118, 73, 68, 32, 68, 101, 118, 73, 110, 102, 32, 68, 101, 118, 84, 121, 112, 32, 68, 105, 115, 112, 108, 97, 121, 78, 97, 109, 101, 32, 68, 83, 77, 101, 109, 32, 69, 120, 116, 32, 70, 119, 86, 32, 72, 119, 86, 32, 77, 97, 110, 32, 77, 97, 120, 71, 85, 73, 68, 83, 105, 122, 101, 32, 77, 97, 120, 73, 68, 32, 77, 97, 120, 77, 101, 109, 32, 77, 111, 100, 32, 79, 69, 77, 32, 80, 97, 114, 97, 109, 78, 97, 109, 101, 32, 80, 114, 111, 112, 78, 97, 109, 101, 32, 82, 120, 32, 82, 120, 80, 114, 101, 102, 32, 83, 104, 97, 114, 101, 100, 77, 101, 109, 32, 83, 105, 122, 101, 32, 83, 111, 117, 114, 99, 101, 82, 101, 102, 32, 83, 119, 86, 32, 83, 121, 110, 99, 67, 97, 112, 32, 83, 121, 110, 99, 84, 121, 112, 101, 32, 84, 120, 32, 84, 120, 80, 114, 101, 102, 32, 86, 97, 108, 69, 110, 117, 109, 32, 86, 101, 114, 67, 84, 32, 86, 101, 114, 68, 84, 68, 32, 88, 78, 97, 109, 32, 88, 86, 97, 108, 32, 85, 84, 67, 32, 83, 117, 112, 112, 111, 114, 116, 78, 117, 109, 98, 101, 114, 79, 102, 67, 104, 97, 110, 103, 101, 115, 32, 83, 117, 112, 112, 111, 114, 116, 76, 97, 114, 103, 101, 79, 98, 106, 115]
def pageF (p : Int) : List UInt8 := bif p == 0 then voc0 else bif p == 1 then voc1 else bif p == 2 then voc2 else []
theorem names_ok (q : Int) : PF prog G 205 [.int .i64 q] (.str (pageF q)) := by
 intro H
 refine CALL.of cF205 (Nat.le_of_ble_eq_true rfl) ?_
 unfold pageF
 refine au ?_
 refine AC.cond_s (b := q == 0) rfl (fun c => ?_) (fun c => ?_)
 · rw [c]
   refine au ?_
   exact AC.ret (fin rfl ⟨rfl, rfl⟩)
 rw [c]
 refine au ?_
 refine AC.cond_s (b := q == 1) rfl (fun c => ?_) (fun c => ?_)
 · rw [c]
   refine au ?_
   exact AC.ret (fin rfl ⟨rfl, rfl⟩)
 rw [c]
 refine au ?_
 refine AC.cond_s (b := q == 2) rfl (fun c => ?_) (fun c => ?_)
 · rw [c]
   refine au ?_
   exact AC.ret (fin rfl ⟨rfl, rfl⟩)
 rw [c]
 refine au ?_
 exact AC.ret (fin rfl ⟨rfl, rfl⟩)
theorem page_of {P : List UInt8 → Prop} (q : Int) (h0 : P voc0) (h1 : P voc1) (h2 : P voc2) (h3 : P []) : P (pageF q) := by
 unfold pageF
 cases q == 0
 · cases q == 1
   · cases q == 2
     · exact h3
     · exact h2
   · exact h1
 · exact h0
theorem names_ascii (q : Int) : ∀ c ∈ pageF q, c.toNat < 128 := by
 have h : ∀ l : List UInt8, l.all (fun c => decide (c.toNat < 128)) = true → ∀ c ∈ l, c.toNat < 128 := fun l h c hc => of_decide_eq_true (List.all_eq_true.1 h c hc)
 exact page_of (P := fun l => ∀ c ∈ l, c.toNat < 128) q (h _ (by kernel_rfl)) (h _ (by kernel_rfl)) (h _ (by kernel_rfl)) (h _ (by kernel_rfl))
theorem names_len (q : Int) : (pageF q).length ≤ 1000 ∧ (wordsF (pageF q)).length ≤ 50 := by
 have h : ∀ l : List UInt8, (Nat.ble l.length 1000 && Nat.ble (wordsF l).length 50) = true → l.length ≤ 1000 ∧ (wordsF l).length ≤ 50 := fun l h => by simpa only [Bool.and_eq_true, Nat.ble_eq] using h
 exact page_of (P := fun l => l.length ≤ 1000 ∧ (wordsF l).length ≤ 50) q (h _ (by kernel_rfl)) (h _ (by kernel_rfl)) (h _ (by kernel_rfl)) (h _ (by kernel_rfl))
def eachF : Nat → List (List UInt8) → List (Nat × List UInt8)
 | _, [] => []
 | t, w :: ws => bif w == [45] then eachF (t + 1) ws else (t, w) :: eachF (t + 1) ws
def vocF (q : Int) : List (Nat × List UInt8) := eachF 5 (wordsF (pageF q))
def tokD (a : Nat × List UInt8) : List DV := [.int .u8 a.1, .str a.2]
def tokF (q : Int) (n : List UInt8) : Nat := (((vocF q).find? fun a => a.2 == n).map (·.1)).getD 0
def nameF (q : Int) (t : Nat) : List UInt8 := (((vocF q).find? fun a => Nat.beq a.1 t).map (·.2)).getD []
def pgB (b : Nat) (q : Int) : List (Nat × DO) := [(b, .cells [.int .i64 q] 3)]
theorem Each_ok (q : Int) (H : Hp) : CALL prog G 161 [.int .i64 q] H (fun r H' => ∃ b, r = .func (.func 204) [] [.ptr b 0] ∧ H b = none ∧ H' = addB (pgB b q) H) (fun _ _ => False) := by
 refine CALL.of cF161 (Nat.le_of_ble_eq_true rfl) ?_
 refine AC.seq (AC.reg ?_)
 refine RG.box .d rfl rfl fun b hb => ?_
 refine au ?_
 exact AC.ret (fin rfl ⟨b, rfl, hb, rfl⟩)
def stepT {σ : Type} (step : σ → Nat × List UInt8 → σ × Bool) (s : σ × Nat) (w : List UInt8) : (σ × Nat) × Bool :=
 bif w == [45] then ((s.1, s.2 + 1), true) else bif (step s.1 (s.2, w)).2 then (((step s.1 (s.2, w)).1, s.2 + 1), true) else (((step s.1 (s.2, w)).1, s.2), false)
theorem runT {σ : Type} (step : σ → Nat × List UInt8 → σ × Bool) : ∀ (ws : List (List UInt8)) (s : σ) (t : Nat), ((runG (stepT step) (s, t) ws).1.1, (runG (stepT step) (s, t) ws).2) = runG step s (eachF t ws)
 | [], s, t => rfl
 | w :: ws, s, t => by
   rw [runG, eachF]
   cases c : w == [45]
   · have e1 : stepT step (s, t) w = bif (step s (t, w)).2 then (((step s (t, w)).1, t + 1), true) else (((step s (t, w)).1, t), false) := by rw [stepT, c, cond_false]
     rw [e1, cond_false, runG]
     cases c2 : (step s (t, w)).2
     · rfl
     · exact runT step ws _ (t + 1)
   · have e1 : stepT step (s, t) w = ((s, t + 1), true) := by rw [stepT, c, cond_true]
     rw [e1]
     exact runT step ws _ (t + 1)
theorem okT {σ : Type} {R : σ → Nat × List UInt8 → Prop} (step : σ → Nat × List UInt8 → σ × Bool) : ∀ (ws : List (List UInt8)) (s : σ) (t : Nat), okR R step s (eachF t ws) → t + ws.length ≤ 200 → okR (fun (s : σ × Nat) w => s.2 < 200 ∧ (w ≠ [45] → R s.1 (s.2, w))) (stepT step) (s, t) ws
 | [], s, t, _, _ => trivial
 | w :: ws, s, t, h, hl => by
   simp only [List.length_cons] at hl
   rw [eachF] at h
   cases c : w == [45]
   · rw [c, cond_false] at h
     have e1 : stepT step (s, t) w = bif (step s (t, w)).2 then (((step s (t, w)).1, t + 1), true) else (((step s (t, w)).1, t), false) := by rw [stepT, c, cond_false]
     refine ⟨⟨by dsimp only; omega, fun _ => h.1⟩, fun h2 => ?_⟩
     rw [e1] at h2 ⊢
     cases c2 : (step s (t, w)).2
     · rw [c2] at h2; cases h2
     · exact okT step ws _ (t + 1) (h.2 c2) (by omega)
   · rw [c, cond_true] at h
     have e1 : stepT step (s, t) w = ((s, t + 1), true) := by rw [stepT, c, cond_true]
     refine ⟨⟨by dsimp only; omega, fun hw => absurd (eq_of_beq c) hw⟩, fun _ => ?_⟩
     rw [e1]
     exact okT step ws _ (t + 1) h (by omega)
theorem Each1_ok (hG : GOS G) {b : Nat} {q : Int} : ITER prog G 204 [] [.ptr b 0] tokD (vocF q) (pgB b q) := by
 intro σ yv step R J E s0 A0 hy hyv hR hJ hB
 have hbA : ∀ A, addB (pgB b q) A b = some (.cells [.int .i64 q] 3) := fun A => Hp.upd_same
 refine CALL.of cF204 (Nat.le_of_ble_eq_true rfl) ?_
 refine AC.seq (AC.reg ?_)
 refine RG.box (d := yv) (ys := [yv]) .d rfl hyv fun y hyb => ?_
 have hbq : y ≠ b := fun e => by rw [e, hbA] at hyb; cases hyb
 refine RG.nilS (AC.seq (AC.reg ?_))
 refine RG.alloc .d fun tb htb => ?_
 have hty : tb ≠ y := fun e => by rw [e, Hp.upd_same] at htb; cases htb
 have htb' : addB (pgB b q) A0 tb = none := by rw [Hp.upd_ne hty] at htb; exact htb
 have htbb : tb ≠ b := fun e => by rw [e, hbA] at htb'; cases htb'
 refine go1 ?_
 rw [show spliceL 0 [DV.int .u8 5] [DV.int .u8 0] = [.int .u8 ((5 : Nat) : Int)] from rfl, Hp.upd_upd]
 -- what is told beside
 generalize hB2 : (y, DO.cells [yv] 205) :: pgB b q = B2
 have hB2f : freeB B2 A0 := by rw [← hB2]; exact ⟨hyb, notF_cells, hB⟩
 have hAA : (addB (pgB b q) A0).upd y (some (.cells [yv] 205)) = addB B2 A0 := by rw [← hB2]; rfl
 rw [hAA] at htb ⊢
 have hyB : ∀ A, addB B2 A y = some (.cells [yv] 205) := fun A => by rw [← hB2]; exact Hp.upd_same
 have hbB : ∀ A, addB B2 A b = some (.cells [.int .i64 q] 3) := fun A => by rw [← hB2, addB, Hp.upd_ne (Ne.symm hbq)]; exact hbA A
 have hsubB : ∀ A, freeB B2 A → freeB (pgB b q) A ∧ SubH (addB (pgB b q) A) (addB B2 A) := fun A h => by
  rw [← hB2] at h ⊢
  exact ⟨h.2.2, SubH.fresh h.1⟩
 refine RG.nilS (AC.seq (AC.reg ?_))
 refine RG.ld .d rfl (by rw [Hp.upd_ne (Ne.symm htbb)]; exact hbB _) rfl ?_
 refine RG.callP .d rfl (names_ok q) ?_
 refine RG.call .d rfl (FieldsSeq_ok (pageF q) _) (fun r H1 ⟨b2, k1, k2, k3⟩ => ?_) (fun _ _ h => h.elim)
 subst k1; subst k3
 refine RG.nilS (AC.block ?_)
 generalize hfr : Fr.put _ (some 7) _ = fr
 have f2 : fr 2 = .ptr y 0 := by rw [← hfr]; rfl
 have f3 : fr 3 = .ptr tb 0 := by rw [← hfr]; rfl
 have f7 : fr 7 = .func (.func 219) [] [.ptr b2 0] := by rw [← hfr]; rfl
 clear hfr
 obtain ⟨hnl, hwl⟩ := names_len q
 have hrun := runT step (wordsF (pageF q)) s0 5
 have hok := okT step (wordsF (pageF q)) s0 5 hR (by omega)
 have hrun1 : (runG step s0 (vocF q)).1 = (runG (stepT step) (s0, 5) (wordsF (pageF q))).1.1 := by rw [vocF, ← hrun]
 have hrun2 : (runG step s0 (vocF q)).2 = (runG (stepT step) (s0, 5) (wordsF (pageF q))).2 := by rw [vocF, ← hrun]
 rw [hrun1, hrun2]
 refine AC.rngJ (x := .t 7) (step := stepT step) f7 (Fields1_ok hG (by omega) (names_ascii q)) (fun _ => rfl) (fun (s : σ × Nat) w => s.2 < 200 ∧ (w ≠ [45] → R s.1 (s.2, w)))
  (fun st A' => ∃ A1, J st.1 A1 ∧ freeB B2 A1 ∧ addB B2 A1 tb = none ∧ A' = (addB B2 A1).upd tb (some (.cells [.int .u8 (st.2 : Nat)] 5)))
  (fun st pend A' => pend = some .ret ∧ ∃ A1, E st.1 A1 ∧ freeB B2 A1 ∧ addB B2 A1 tb = none ∧ A' = (addB B2 A1).upd tb (some (.cells [.int .u8 (st.2 : Nat)] 5))) ?_ (s0, 5) _ hok ⟨A0, hJ, hB2f, htb, rfl⟩ ⟨k2, notF_cells, trivial⟩ ?_ ?_
 · rintro ⟨st, t⟩ w A lp L hL ⟨ht2, hRa⟩ ⟨A1, j1, j2, j3, rfl⟩ hA
   dsimp only at ht2 hRa j1
   refine AC.reg ?_
   refine go ?_
   refine RG.nil ⟨rfl, _, hA, rfl, fun L' hL' => ?_⟩
   refine AC.to [(2, .ptr y 0), (3, .ptr tb 0), (4, .str w)] ⟨f2, f3, rfl, trivial⟩ ?_
   have hlt : lp ≠ tb := fun e => by rw [e, Hp.upd_same] at hA; cases hA
   rw [Hp.upd_ne hlt] at hA
   have hly : y ≠ lp := fun e => by rw [← e, hyB] at hA; cases hA
   have hyt : y ≠ tb := fun e => by rw [e] at hyB; rw [hyB] at j3; cases j3
   rw [Hp.upd_comm (Ne.symm hlt)]
   have hF : freeB ((lp, L') :: B2) A1 := ⟨hA, hL', j2⟩
   have hlast : addB B2 A1 tb = none := j3
   refine AC.block (AC.seq (AC.seq (AC.reg ?_)))
   refine go1 ?_
   refine RG.p (d := .bool (!(w == [45]))) .d rfl ?_
   refine go1 ?_
   have inc : ∀ (fr' : Fr) (s2 : σ) (A2 : Hp), fr' 3 = .ptr tb 0 → J s2 A2 → freeB ((lp, L') :: B2) A2 → addB B2 A2 tb = none →
     AC prog G (some lp) F204.N (.reg [ji 18 (.ld false 1 (.t 3)), ji 19 (.bin .add (.t 18) (.c (.int .u8 1))), jn (.st 1 (.t 3) (.t 19))])
      (Bk 1 (RndJ lp L' ((s2, t + 1), true) (fun st A' => ∃ A1, J st.1 A1 ∧ freeB B2 A1 ∧ addB B2 A1 tb = none ∧ A' = (addB B2 A1).upd tb (some (.cells [.int .u8 (st.2 : Nat)] 5)))
       (fun st pend A' => pend = some .ret ∧ ∃ A1, E st.1 A1 ∧ freeB B2 A1 ∧ addB B2 A1 tb = none ∧ A' = (addB B2 A1).upd tb (some (.cells [.int .u8 (st.2 : Nat)] 5))))) fr' ((addB ((lp, L') :: B2) A2).upd tb (some (.cells [.int .u8 (t : Nat)] 5))) := by
    intro fr' s2 A2 g1 g2 g3 g4
    refine AC.reg ?_
    refine RG.ld .d g1 Hp.upd_same (d := .int .u8 (t : Nat)) rfl ?_
    refine RG.p (d := .int .u8 ((t + 1 : Nat) : Int)) .d (by
     show some (DV.int .u8 (IntKind.u8.wrap (((t : Nat) : Int) + 1))) = _
     rw [IntWalk.u8_in _ (by omega)]; rfl) ?_
    refine RG.sto1 .d g1 Hp.upd_same rfl rfl ?_
    rw [Hp.upd_upd]
    refine RG.nil ⟨(addB B2 A2).upd tb (some (.cells [.int .u8 ((t + 1 : Nat) : Int)] 5)), rfl, ⟨A2, g2, g3.2.2, g4, rfl⟩, ?_, ?_⟩
    · rw [Hp.upd_ne hlt]; exact g3.1
    · rw [Hp.upd_comm (Ne.symm hlt)]
      exact SubH.refl _
   have e1 : stepT step (st, t) w = bif w == [45] then ((st, t + 1), true) else bif (step st (t, w)).2 then (((step st (t, w)).1, t + 1), true) else (((step st (t, w)).1, t), false) := rfl
   rw [e1]
   have hAe : (addB B2 A1).upd lp (some L') = addB ((lp, L') :: B2) A1 := rfl
   rw [hAe]
   cases c1 : w == [45]
   · rw [cond_false]
     have hc := hy st (t, w) A1 (hRa (by simpa using c1)) j1
     have hc2 := (CALV.frameB hF hc).frame (b := tb) (o := .cells [.int .u8 (t : Nat)] 5) (by rw [addB, Hp.upd_ne (Ne.symm hlt)]; exact j3) notF_cells
     refine RG.ld .d rfl (by rw [Hp.upd_ne hyt, addB, Hp.upd_ne hly]; exact hyB _) rfl ?_
     refine RG.ld .d rfl Hp.upd_same (d := .int .u8 (t : Nat)) rfl ?_
     refine go1 ?_
     refine RG.calV .d rfl rfl hc2 (fun r H2 ⟨A3, ⟨A2, ⟨k1, k2, k3⟩, k4, k5⟩, k6, k7⟩ => ?_) (fun r H' ⟨_, ⟨_, k, _⟩, _⟩ => k.elim)
     subst k1; subst k5; subst k7
     have k6' : addB B2 A2 tb = none := by rw [addB, Hp.upd_ne (Ne.symm hlt)] at k6; exact k6
     cases c2 : (step st (t, w)).2
     · refine go ?_
       refine RG.nilS (AC.cond_t rfl (AC.ret ?_))
       refine ⟨(addB B2 A2).upd tb (some (.cells [.int .u8 (t : Nat)] 5)), rfl, ⟨rfl, A2, k3 c2, k4.2.2, k6', rfl⟩, ?_, ?_⟩
       · rw [Hp.upd_ne hlt]; exact k4.1
       · rw [Hp.upd_comm (Ne.symm hlt)]
         exact SubH.refl _
     · refine go ?_
       refine RG.nilS (AC.cond_f rfl (AC.skip ?_))
       refine inc _ _ _ ?_ (k2 c2) k4 k6'
       rfl
   · rw [cond_true]
     refine go ?_
     refine RG.nilS (AC.cond_f rfl (AC.skip ?_))
     refine inc _ st A1 ?_ j1 hF j3
     rfl
 · rintro A' hr ⟨A1, j1, j2, j3, rfl⟩ hF
   refine finD rfl (H' := addB (pgB b q) A1) ?_ ⟨A1, fun _ => j1, fun h => (by rw [hr] at h; cases h), (hsubB A1 j2).1, rfl⟩
   exact ((hsubB A1 j2).2.trans (SubH.fresh j3)).trans (freeB_sub hF)
 · rintro A' p hr ⟨rfl, A1, j1, j2, j3, rfl⟩ hF
   refine finD rfl (H' := addB (pgB b q) A1) ?_ ⟨A1, fun h => (by rw [hr] at h; cases h), fun _ => j1, (hsubB A1 j2).1, rfl⟩
   exact ((hsubB A1 j2).2.trans (SubH.fresh j3)).trans (freeB_sub hF)
open Go Go.Run Go.RowKit
open Go.Proofs.Tryz (prog)
variable {G : Gl}
theorem runTok (n : List UInt8) : ∀ (l : List (Nat × List UInt8)) (v : Nat), runG (fun (v : Nat) (a : Nat × List UInt8) => bif a.2 == n then (a.1, false) else (v, true)) v l = match l.find? (fun a => a.2 == n) with | some a => (a.1, false) | none => (v, true)
 | [], v => rfl
 | a :: l, v => by
   rw [runG, List.find?_cons]
   cases c : a.2 == n
   · exact runTok n l v
   · rfl
theorem runNam (t : Nat) : ∀ (l : List (Nat × List UInt8)) (v : List UInt8), runG (fun (v : List UInt8) (a : Nat × List UInt8) => bif Nat.beq a.1 t then (a.2, false) else (v, true)) v l = match l.find? (fun a => Nat.beq a.1 t) with | some a => (a.2, false) | none => (v, true)
 | [], v => rfl
 | a :: l, v => by
   rw [runG, List.find?_cons]
   cases c : Nat.beq a.1 t
   · exact runNam t l v
   · rfl
theorem Token_ok (hG : GOS G) (q : Int) (n : List UInt8) : PF prog G 105 [.int .i64 q, .str n] (.int .u8 (tokF q n)) := by
 intro H
 refine CALL.of cF105 (Nat.le_of_ble_eq_true rfl) ?_
 refine AC.seq (AC.reg ?_)
 refine RG.box .d rfl rfl fun b3 h3 => ?_
 refine RG.alloc .d fun b4 h4 => ?_
 have hne : b3 ≠ b4 := fun e => by rw [← e, Hp.upd_same] at h4; cases h4
 have h4' : H b4 = none := by rw [Hp.upd_ne (Ne.symm hne)] at h4; exact h4
 refine RG.nilS (AC.seq (AC.seq (AC.reg ?_)))
 refine go1 ?_
 refine RG.call .d rfl (Each_ok q _) (fun r H1 ⟨b, k1, k2, k3⟩ => ?_) (fun _ _ h => h.elim)
 subst k1; subst k3
 refine RG.nilS (AC.block ?_)
 generalize hfr : Fr.put _ (some 8) _ = fr
 have f3 : fr 3 = .ptr b3 0 := by rw [← hfr]; rfl
 have f4 : fr 4 = .ptr b4 0 := by rw [← hfr]; rfl
 have f8 : fr 8 = .func (.func 204) [] [.ptr b 0] := by rw [← hfr]; rfl
 clear hfr
 have hsub : ∀ v A, A = (H.upd b3 (some (.cells [.str n] 9))).upd b4 (some (.cells [.int .u8 v] 5)) → SubH H A := fun v A e => by
  rw [e]; exact (SubH.fresh h3).trans (SubH.fresh h4)
 have hr := runTok n (vocF q) 0
 refine AC.rngJ (x := .t 8) (σ := Nat) (step := fun v a => bif a.2 == n then (a.1, false) else (v, true)) f8 (Each1_ok hG) (fun _ => rfl) (fun _ _ => True)
  (fun v A => A = (H.upd b3 (some (.cells [.str n] 9))).upd b4 (some (.cells [.int .u8 (v : Nat)] 5)))
  (fun v p A => p = some .ret ∧ A = (H.upd b3 (some (.cells [.str n] 9))).upd b4 (some (.cells [.int .u8 (v : Nat)] 5))) ?_ 0 _ (okR_true _ _ _) rfl ⟨k2, notF_cells, trivial⟩ ?_ ?_
 · rintro v ⟨t, w⟩ A lp L hL _ rfl hA
   have hl4 : lp ≠ b4 := fun e => by rw [e, Hp.upd_same] at hA; cases hA
   rw [Hp.upd_ne hl4] at hA
   have hl3 : lp ≠ b3 := fun e => by rw [e, Hp.upd_same] at hA; cases hA
   refine AC.seq (AC.reg ?_)
   refine go ?_
   refine RG.nilS (AC.reg ?_)
   refine go ?_
   refine RG.nil ⟨rfl, _, by rw [Hp.upd_ne hl4]; exact hA, rfl, fun L' hL' => ?_⟩
   refine AC.to [(3, .ptr b3 0), (4, .ptr b4 0), (5, .int .u8 t), (6, .str w)] ⟨f3, f4, rfl, rfl, trivial⟩ ?_
   refine AC.block (AC.seq (AC.reg ?_))
   refine go1 ?_
   refine RG.ld .d rfl (by rw [Hp.upd_ne (Ne.symm hl3), Hp.upd_ne hne]; exact Hp.upd_same) rfl ?_
   refine RG.p (d := .bool (w == n)) .d rfl ?_
   cases c : w == n
   · refine RG.nilS (AC.cond_f rfl (AC.skip ⟨_, rfl, rfl, by rw [Hp.upd_ne hl4]; exact hA, SubH.refl _⟩))
   · refine RG.nilS (AC.cond_t rfl (AC.seq (AC.reg ?_)))
     refine go1 ?_
     refine RG.sto1 .d rfl (by rw [Hp.upd_ne (Ne.symm hl4)]; exact Hp.upd_same) rfl rfl ?_
     refine RG.nilS (AC.ret ⟨(H.upd b3 (some (.cells [.str n] 9))).upd b4 (some (.cells [.int .u8 (t : Nat)] 5)), rfl, ⟨rfl, rfl⟩, by rw [Hp.upd_ne hl4]; exact hA, ?_⟩)
     rw [Hp.upd_comm hl4, Hp.upd_upd]
     exact SubH.refl _
 · rintro A' hr2 hA hF
   rw [hr] at hr2 hA
   have hf : (vocF q).find? (fun a => a.2 == n) = none := by
    cases e : (vocF q).find? (fun a => a.2 == n) with
    | none => rfl
    | some a => rw [e] at hr2; cases hr2
   rw [hf] at hA
   have hbn : A' b = none := hF.1
   have hbb : b ≠ b4 := fun e => by
    rw [e, hA, Hp.upd_same] at hbn; cases hbn
   rw [hA, Hp.upd_ne hbb] at hbn
   refine AC.seq (AC.reg ?_)
   refine RG.sto1 .d f4 (freeB_sub hF b4 _ (by rw [hA]; exact Hp.upd_same)) rfl rfl ?_
   refine RG.nilS (AC.ret (finD (H' := H) (ds := [.int .u8 0]) ?_ ?_ ⟨?_, rfl⟩))
   · have : (Fr.put fr none DV.junk) 4 = .ptr b4 0 := f4
     simp only [F105, evRes, this, ldD, Hp.upd_same]; rfl
   · show SubH H ((A'.upd b _).upd b4 _)
     rw [Hp.upd_comm hbb, hA, Hp.upd_upd]
     exact (hsub _ _ rfl).trans (SubH.fresh (by rw [Hp.upd_ne hbb]; exact hbn))
   · rw [tokF, hf]; rfl
 · rintro A' p hr2 ⟨rfl, hA⟩ hF
   rw [hr] at hr2 hA
   obtain ⟨a, hf⟩ : ∃ a, (vocF q).find? (fun a => a.2 == n) = some a := by
    cases e : (vocF q).find? (fun a => a.2 == n) with
    | none => rw [e] at hr2; cases hr2
    | some a => exact ⟨a, rfl⟩
   rw [hf] at hA
   dsimp only at hA
   refine finD (H' := H) (ds := [.int .u8 a.1]) ?_ ?_ ⟨?_, rfl⟩
   · have h4 : addB (pgB b q) A' b4 = some (.cells [.int .u8 a.1] 5) := freeB_sub hF b4 _ (by rw [hA]; exact Hp.upd_same)
     simp only [F105, evRes, f4, ldD, h4]; rfl
   · exact (hsub _ A' hA).trans (freeB_sub hF)
   · rw [tokF, hf]; rfl
theorem VName_ok (hG : GOS G) (q : Int) (n : Nat) (hn : n < 256) : PF prog G 125 [.int .i64 q, .int .u8 n] (.str (nameF q n)) := by
 intro H
 refine CALL.of cF125 (Nat.le_of_ble_eq_true rfl) ?_
 refine AC.seq (AC.reg ?_)
 refine RG.box .d rfl rfl fun b3 h3 => ?_
 refine RG.alloc .d fun b4 h4 => ?_
 have hne : b3 ≠ b4 := fun e => by rw [← e, Hp.upd_same] at h4; cases h4
 have h4' : H b4 = none := by rw [Hp.upd_ne (Ne.symm hne)] at h4; exact h4
 refine RG.nilS (AC.seq (AC.seq (AC.reg ?_)))
 refine go1 ?_
 refine RG.call .d rfl (Each_ok q _) (fun r H1 ⟨b, k1, k2, k3⟩ => ?_) (fun _ _ h => h.elim)
 subst k1; subst k3
 refine RG.nilS (AC.block ?_)
 generalize hfr : Fr.put _ (some 8) _ = fr
 have f3 : fr 3 = .ptr b3 0 := by rw [← hfr]; rfl
 have f4 : fr 4 = .ptr b4 0 := by rw [← hfr]; rfl
 have f8 : fr 8 = .func (.func 204) [] [.ptr b 0] := by rw [← hfr]; rfl
 clear hfr
 have hsub : ∀ v A, A = (H.upd b3 (some (.cells [.int .u8 n] 5))).upd b4 (some (.cells [.str v] 9)) → SubH H A := fun v A e => by
  rw [e]; exact (SubH.fresh h3).trans (SubH.fresh h4)
 have hr := runNam n (vocF q) []
 refine AC.rngJ (x := .t 8) (σ := List UInt8) (step := fun v a => bif Nat.beq a.1 n then (a.2, false) else (v, true)) f8 (Each1_ok hG) (fun _ => rfl) (fun _ _ => True)
  (fun v A => A = (H.upd b3 (some (.cells [.int .u8 n] 5))).upd b4 (some (.cells [.str v] 9)))
  (fun v p A => p = some .ret ∧ A = (H.upd b3 (some (.cells [.int .u8 n] 5))).upd b4 (some (.cells [.str v] 9))) ?_ [] _ (okR_true _ _ _) rfl ⟨k2, notF_cells, trivial⟩ ?_ ?_
 · rintro v ⟨t, w⟩ A lp L hL _ rfl hA
   have hl4 : lp ≠ b4 := fun e => by rw [e, Hp.upd_same] at hA; cases hA
   rw [Hp.upd_ne hl4] at hA
   have hl3 : lp ≠ b3 := fun e => by rw [e, Hp.upd_same] at hA; cases hA
   refine AC.seq (AC.reg ?_)
   refine go ?_
   refine RG.nilS (AC.reg ?_)
   refine go ?_
   refine RG.nil ⟨rfl, _, by rw [Hp.upd_ne hl4]; exact hA, rfl, fun L' hL' => ?_⟩
   refine AC.to [(3, .ptr b3 0), (4, .ptr b4 0), (5, .int .u8 t), (6, .str w)] ⟨f3, f4, rfl, rfl, trivial⟩ ?_
   refine AC.block (AC.seq (AC.reg ?_))
   refine go1 ?_
   refine RG.ld .d rfl (by rw [Hp.upd_ne (Ne.symm hl3), Hp.upd_ne hne]; exact Hp.upd_same) rfl ?_
   refine RG.p (d := .bool (Nat.beq t n)) .d (by
    show some (DV.bool (((t : Nat) : Int) == ((n : Nat) : Int))) = _
    congr 2
    rw [Bool.eq_iff_iff, beq_iff_eq, Nat.beq_eq]; omega) ?_
   cases c : Nat.beq t n
   · refine RG.nilS (AC.cond_f rfl (AC.skip ⟨_, rfl, rfl, by rw [Hp.upd_ne hl4]; exact hA, SubH.refl _⟩))
   · refine RG.nilS (AC.cond_t rfl (AC.seq (AC.reg ?_)))
     refine go1 ?_
     refine RG.sto1 .d rfl (by rw [Hp.upd_ne (Ne.symm hl4)]; exact Hp.upd_same) rfl rfl ?_
     refine RG.nilS (AC.ret ⟨(H.upd b3 (some (.cells [.int .u8 n] 5))).upd b4 (some (.cells [.str w] 9)), rfl, ⟨rfl, rfl⟩, by rw [Hp.upd_ne hl4]; exact hA, ?_⟩)
     rw [Hp.upd_comm hl4, Hp.upd_upd]
     exact SubH.refl _
 · rintro A' hr2 hA hF
   rw [hr] at hr2 hA
   have hf : (vocF q).find? (fun a => Nat.beq a.1 n) = none := by
    cases e : (vocF q).find? (fun a => Nat.beq a.1 n) with
    | none => rfl
    | some a => rw [e] at hr2; cases hr2
   rw [hf] at hA
   have hbn : A' b = none := hF.1
   have hbb : b ≠ b4 := fun e => by
    rw [e, hA, Hp.upd_same] at hbn; cases hbn
   rw [hA, Hp.upd_ne hbb] at hbn
   refine AC.seq (AC.reg ?_)
   refine RG.sto1 .d f4 (freeB_sub hF b4 _ (by rw [hA]; exact Hp.upd_same)) rfl rfl ?_
   refine RG.nilS (AC.ret (finD (H' := H) (ds := [.str []]) ?_ ?_ ⟨?_, rfl⟩))
   · have : (Fr.put fr none DV.junk) 4 = .ptr b4 0 := f4
     simp only [F125, evRes, this, ldD, Hp.upd_same]; rfl
   · show SubH H ((A'.upd b _).upd b4 _)
     rw [Hp.upd_comm hbb, hA, Hp.upd_upd]
     exact (hsub _ _ rfl).trans (SubH.fresh (by rw [Hp.upd_ne hbb]; exact hbn))
   · rw [nameF, hf]; rfl
 · rintro A' p hr2 ⟨rfl, hA⟩ hF
   rw [hr] at hr2 hA
   obtain ⟨a, hf⟩ : ∃ a, (vocF q).find? (fun a => Nat.beq a.1 n) = some a := by
    cases e : (vocF q).find? (fun a => Nat.beq a.1 n) with
    | none => rw [e] at hr2; cases hr2
    | some a => exact ⟨a, rfl⟩
   rw [hf] at hA
   dsimp only at hA
   refine finD (H' := H) (ds := [.str a.2]) ?_ ?_ ⟨?_, rfl⟩
   · have h4 : addB (pgB b q) A' b4 = some (.cells [.str a.2] 9) := freeB_sub hF b4 _ (by rw [hA]; exact Hp.upd_same)
     simp only [F125, evRes, f4, ldD, h4]; rfl
   · exact (hsub _ A' hA).trans (freeB_sub hF)
   · rw [nameF, hf]; rfl
end Go.Run.Tryz
