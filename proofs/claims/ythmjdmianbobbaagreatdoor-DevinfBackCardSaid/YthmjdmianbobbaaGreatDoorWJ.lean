/- Part 10 of a proof: texts E6 E7 E8 E9 H2 H3 H4 H5. -/
import Derived.Test.YthmjdmianbobbaaGreatDoorWI
namespace Go.Run.Tryz
open Go Go.Run Go.RowKit
open Go.Proofs.Tryz (prog)
def F78 : FN := ⟨12, (.seq (.reg [ji 6 (.alloc [(.int .i64 0), (.str []), (.str []), (.bool false), .nils] 24)])
 (.seq (.reg [ji 7 (.mv (.t 0)), ji 8 (.mv (.t 1)), ji 9 (.mv (.t 2)), ji 10 (.call 138 [(.t 9)]), ji 11 (.bld [(.int .i64 0), (.str []), (.str []), (.bool false), .nils] [(0, 1, (.t 7)), (1, 1, (.t 8)), (4, 1, (.t 10))]), jn (.st 5 (.t 6) (.t 11))])
 .ret)), [.cell 6 true 5]⟩
theorem cF78 : cFn prog 78 = some F78 := by kernel_rfl
def F138 : FN := ⟨8, (.seq (.reg [ji 2 (.mv (.c .nils))])
 (.seq (.seq (.reg [ji 3 (.mv (.t 0)), ji 4 (.eqn false .slice (.t 3) (.c .nils))])
 (.cond (.t 4) (.seq (.reg [ji 2 (.mv (.c .nils))])
 .ret)
 .skip))
 (.seq (.reg [ji 5 (.bsl 24 0 5 [] []), ji 6 (.mv (.t 0)), ji 7 (.app 24 5 72 (.t 5) (.t 6)), ji 2 (.mv (.t 7))])
 .ret))), [.tmp 2]⟩
theorem cF138 : cFn prog 138 = some F138 := by kernel_rfl
def F24 : FN := ⟨25, (.seq (.reg [ji 2 (.box 24 (.t 0)), ji 4 (.mv (.c .nils))])
 (.seq (.reg [ji 5 (.mv (.c .nils))])
 (.seq (.seq (.reg [ji 8 (.fadr 4 (.t 2)), ji 9 (.ld false 1 (.t 8)), ji 10 (.len false (.t 9)), ji 11 (.mv (ci 0))])
 (.block 0 (.loop (.seq (.reg [ji 12 (.bin .lss (.t 11) (.t 10))])
 (.seq (.cond (.t 12) .skip
 (.exit 0))
 (.seq (.block 1 (.seq (.reg [ji 13 (.iadr 5 (.t 9) (.t 11)), ji 14 (.ld true 5 (.t 13)), ji 7 (.alloc [(.int .i64 0), (.str []), (.str []), (.bool false), .nils] 24), jn (.st 5 (.t 7) (.t 14))])
 (.seq (.reg [ji 15 (.fadr 1 (.t 7)), ji 16 (.ld false 1 (.t 15)), ji 17 (.mv (.t 1)), ji 18 (.bin .eql (.t 16) (.t 17))])
 (.cond (.t 18) (.reg [ji 19 (.mv (.t 5)), ji 20 (.ld true 5 (.t 7)), ji 21 (.bsl 24 1 5 [(.int .i64 0), (.str []), (.str []), (.bool false), .nils] [(0, 5, (.t 20))]), ji 22 (.app 24 5 72 (.t 19) (.t 21)), ji 5 (.mv (.t 22))])
 .skip))))
 (.reg [ji 23 (.bin .add (.t 11) (ci 1)), ji 11 (.mv (.t 23))])))))))
 (.seq (.reg [ji 24 (.mv (.t 5)), ji 4 (.mv (.t 24))])
 .ret)))), [.tmp 4]⟩
theorem cF24 : cFn prog 24 = some F24 := by kernel_rfl
def F75 : FN := ⟨17, (.seq (.reg [ji 2 (.box 24 (.t 0)), ji 4 (.mv (.c (.str []))), ji 5 (.mv (.c (.bool false)))])
 (.seq (.seq (.reg [ji 7 (.ld true 5 (.t 2)), ji 8 (.mv (.t 1)), ji 9 (.call 24 [(.t 7), (.t 8)]), ji 6 (.mv (.t 9))])
 (.seq (.reg [ji 10 (.mv (.t 6)), ji 11 (.len false (.t 10)), ji 12 (.bin .gtr (.t 11) (ci 0))])
 (.cond (.t 12) (.seq (.reg [ji 13 (.mv (.t 6)), ji 14 (.iadr 5 (.t 13) (ci 0)), ji 15 (.fadr 2 (.t 14)), ji 16 (.ld false 1 (.t 15)), ji 4 (.mv (.t 16)), ji 5 (.mv (.c (.bool true)))])
 .ret)
 .skip)))
 (.seq (.reg [ji 4 (.mv (.c (.str []))), ji 5 (.mv (.c (.bool false)))])
 .ret))), [.tmp 4, .tmp 5]⟩
theorem cF75 : cFn prog 75 = some F75 := by kernel_rfl
def F28 : FN := ⟨8, (.seq (.reg [ji 2 (.box 24 (.t 0)), ji 3 (.box 24 (.t 1)), ji 4 (.mv (.c (.bool false)))])
 (.seq (.reg [ji 5 (.ld true 5 (.t 2)), ji 6 (.ld true 5 (.t 3)), ji 7 (.call 80 [(.t 5), (.t 6), (ci 20)]), ji 4 (.mv (.t 7))])
 .ret)), [.tmp 4]⟩
theorem cF28 : cFn prog 28 = some F28 := by kernel_rfl
def F80 : FN := ⟨52, (.seq (.reg [ji 3 (.box 24 (.t 0)), ji 4 (.box 24 (.t 1)), ji 5 (.box 3 (.t 2)), ji 6 (.mv (.c (.bool false)))])
 (.seq (.seq (.reg [ji 7 (.fadr 0 (.t 3)), ji 8 (.ld false 1 (.t 7)), ji 9 (.fadr 0 (.t 4)), ji 10 (.ld false 1 (.t 9)), ji 11 (.bin .neq (.t 8) (.t 10)), ji 12 (.mv (.t 11)), jg 13 12 false (.fadr 1 (.t 3)), jg 14 12 false (.ld false 1 (.t 13)), jg 15 12 false (.fadr 1 (.t 4)), jg 16 12 false (.ld false 1 (.t 15)), jg 17 12 false (.bin .neq (.t 14) (.t 16)), ji 18 (.pick (.t 12) (.c (.bool true)) (.t 17)), ji 19 (.mv (.t 18)), jg 20 19 false (.fadr 2 (.t 3)), jg 21 19 false (.ld false 1 (.t 20)), jg 22 19 false (.fadr 2 (.t 4)), jg 23 19 false (.ld false 1 (.t 22)), jg 24 19 false (.bin .neq (.t 21) (.t 23)), ji 25 (.pick (.t 19) (.c (.bool true)) (.t 24)), ji 26 (.mv (.t 25)), jg 27 26 false (.fadr 3 (.t 3)), jg 28 26 false (.ld false 1 (.t 27)), jg 29 26 false (.fadr 3 (.t 4)), jg 30 26 false (.ld false 1 (.t 29)), jg 31 26 false (.eqn true .bool (.t 28) (.t 30)), ji 32 (.pick (.t 26) (.c (.bool true)) (.t 31)), ji 33 (.mv (.t 32)), jg 34 33 false (.fadr 4 (.t 3)), jg 35 33 false (.ld false 1 (.t 34)), jg 36 33 false (.len false (.t 35)), jg 37 33 false (.fadr 4 (.t 4)), jg 38 33 false (.ld false 1 (.t 37)), jg 39 33 false (.len false (.t 38)), jg 40 33 false (.bin .neq (.t 36) (.t 39)), ji 41 (.pick (.t 33) (.c (.bool true)) (.t 40))])
 (.cond (.t 41) (.seq (.reg [ji 6 (.mv (.c (.bool false)))])
 .ret)
 .skip))
 (.seq (.reg [ji 42 (.ld false 1 (.t 5)), ji 43 (.bin .leq (.t 42) (ci 1)), ji 44 (.mv (.t 43)), jg 45 44 false (.fadr 4 (.t 3)), jg 46 44 false (.ld false 1 (.t 45)), jg 47 44 false (.fadr 4 (.t 4)), jg 48 44 false (.ld false 1 (.t 47)), jg 49 44 false (.mkfn (.func 143) [] [(.t 5)]), jg 50 44 false (.call 142 [(.t 46), (.t 48), (.t 49)]), ji 51 (.pick (.t 44) (.c (.bool true)) (.t 50)), ji 6 (.mv (.t 51))])
 .ret))), [.tmp 6]⟩
theorem cF80 : cFn prog 80 = some F80 := by kernel_rfl
def F143 : FN := ⟨11, (.seq (.reg [ji 3 (.box 24 (.t 0)), ji 4 (.box 24 (.t 1)), ji 5 (.mv (.c (.bool false)))])
 (.seq (.reg [ji 6 (.ld true 5 (.t 3)), ji 7 (.ld true 5 (.t 4)), ji 8 (.ld false 1 (.t 2)), ji 9 (.bin .sub (.t 8) (ci 1)), ji 10 (.call 80 [(.t 6), (.t 7), (.t 9)]), ji 5 (.mv (.t 10))])
 .ret)), [.tmp 5]⟩
theorem cF143 : cFn prog 143 = some F143 := by kernel_rfl
def F142 : FN := ⟨32, (.seq (.reg [ji 6 (.mv (.c (.bool false)))])
 (.seq (.seq (.reg [ji 10 (.mv (.t 0)), ji 11 (.len false (.t 10)), ji 12 (.mv (.t 1)), ji 13 (.len false (.t 12)), ji 14 (.bin .neq (.t 11) (.t 13))])
 (.cond (.t 14) (.seq (.reg [ji 6 (.mv (.c (.bool false)))])
 .ret)
 .skip))
 (.seq (.seq (.reg [ji 15 (.mv (.t 0)), ji 16 (.len false (.t 15)), ji 17 (.mv (ci 0))])
 (.block 0 (.loop (.seq (.reg [ji 18 (.bin .lss (.t 17) (.t 16))])
 (.seq (.cond (.t 18) .skip
 (.exit 0))
 (.seq (.block 1 (.seq (.reg [ji 19 (.mv (.t 17)), ji 20 (.iadr 5 (.t 15) (.t 17)), ji 21 (.ld true 5 (.t 20)), ji 8 (.alloc [(.int .i64 0), (.str []), (.str []), (.bool false), .nils] 24), ji 7 (.mv (.t 19)), jn (.st 5 (.t 8) (.t 21))])
 (.seq (.reg [ji 22 (.mv (.t 1)), ji 23 (.mv (.t 7)), ji 24 (.iadr 5 (.t 22) (.t 23)), ji 25 (.ld true 5 (.t 24)), ji 9 (.alloc [(.int .i64 0), (.str []), (.str []), (.bool false), .nils] 24), jn (.st 5 (.t 9) (.t 25))])
 (.seq (.reg [ji 26 (.mv (.t 2)), ji 27 (.ld true 5 (.t 8)), ji 28 (.ld true 5 (.t 9)), ji 29 (.calv (.t 26) [(.t 27), (.t 28)]), ji 30 (.un .not (.t 29))])
 (.cond (.t 30) (.seq (.reg [ji 6 (.mv (.c (.bool false)))])
 .ret)
 .skip)))))
 (.reg [ji 31 (.bin .add (.t 17) (ci 1)), ji 17 (.mv (.t 31))])))))))
 (.seq (.reg [ji 6 (.mv (.c (.bool true)))])
 .ret)))), [.tmp 6]⟩
theorem cF142 : cFn prog 142 = some F142 := by kernel_rfl
variable {G : Gl}
def KV (ks : List El) (v : DV) : Prop := (ks = [] ∧ v = .nils) ∨ (ks ≠ [] ∧ ∃ tag, v = .lst (elsC ks) ks.length 5 tag)
theorem KV.of {ty : TypeId} {H H' : Hp} {ks : List El} {v : DV} (h : GR ty 5 H (elsC ks) ks.length v H') : KV ks v := by
 rcases h with ⟨h0, _, h2, _⟩ | ⟨b, _, h2, _, hn⟩
 · exact .inl ⟨List.length_eq_zero_iff.1 h0, h2⟩
 · exact .inr ⟨fun e => by subst e; simp at hn, _, h2⟩
theorem elsC_cons {ks : List El} (h : ks ≠ []) : ∃ d cs, elsC ks = d :: cs := by
 cases ks with
 | nil => exact absurd rfl h
 | cons k ks =>
   obtain ⟨p, n, t, o, l⟩ := k
   exact ⟨.int .i64 p, _, by rw [elsC, elC]; rfl⟩
theorem Clone_ok {ks : List El} {v : DV} (h : KV ks v) (hl : ks.length ≤ 1000000000) : PF prog G 138 [v] (.lst (elsC ks) ks.length 5 none) := by
 intro H
 refine CALL.of cF138 (Nat.le_of_ble_eq_true rfl) ?_
 rcases h with ⟨rfl, rfl⟩ | ⟨hne, tag, rfl⟩
 · refine au ?_
   exact AC.ret (finL (H' := H) rfl DLe.nils (SubH.refl _) ⟨rfl, rfl⟩)
 · obtain ⟨d, cs, hcs⟩ := elsC_cons hne
   refine AC.seq (AC.reg ?_)
   refine go ?_
   refine RG.nilS (AC.seq (AC.seq (AC.reg ?_)))
   refine go1 ?_
   refine RG.p (d := .bool false) .d (by
    show (eqD .slice (.lst (elsC ks) ks.length 5 tag) .nils).map _ = _
    rw [hcs]; rfl) ?_
   refine RG.nilS (AC.cond_f rfl ?_)
   refine AC.skip ?_
   refine AC.seq (AC.reg ?_)
   refine RG.s .d (ST.bsl rfl fun b hb => ?_)
   refine go1 ?_
   have h0 : GR 24 5 H [] 0 .nils H := GR.nil
   refine RG.s .d (ST.app_own (m := ks.length) (ys := elsC ks) (cs := []) (n := 0) rfl Hp.upd_same (by
    show srcD _ 5 (.lst (elsC ks) ks.length 5 tag) = _
    simp [srcD]) (by omega) fun b' hb' => ?_)
   rw [Hp.upd_upd, Hp.upd_id hb, List.nil_append, Nat.zero_add]
   have hb2 : H b' = none := by
    rcases hb' with rfl | hb'
    · exact hb
    · have hne : b' ≠ b := fun e => by rw [e, Hp.upd_same] at hb'; cases hb'
      rw [Hp.upd_ne hne] at hb'; exact hb'
   refine go ?_
   exact RG.nilS (AC.ret (finL (H' := H) rfl DLe.tag (SubH.fresh hb2) ⟨rfl, rfl⟩))
theorem Node_ok {ks : List El} {v : DV} (h : KV ks v) (hl : ks.length ≤ 1000000000) (p : Int) (n : List UInt8) : PF prog G 78 [.int .i64 p, .str n, v] (.agg (elC (.mk p n [] false ks))) := by
 intro H
 refine CALL.of cF78 (Nat.le_of_ble_eq_true rfl) ?_
 refine AC.seq (AC.reg ?_)
 refine RG.alloc .d fun q hq => ?_
 refine RG.nilS (AC.seq (AC.reg ?_))
 refine go1 ?_
 refine go1 ?_
 refine go1 ?_
 refine RG.callP .d rfl (Clone_ok h hl) ?_
 have hE : elC (.mk p n [] false ks) = [.int .i64 p, .str n, .str [], .bool false, .lst (elsC ks) ks.length 5 none] := by rw [elC]
 refine RG.p (d := .agg (elC (.mk p n [] false ks))) .d (by rw [hE]; rfl) ?_
 refine RG.sto (cs := [.int .i64 0, .str [], .str [], .bool false, .nils]) (ty := elT) (d := .agg (elC (.mk p n [] false ks))) (ys := elC (.mk p n [] false ks)) .d wh Hp.upd_same (by exact rfl) rfl rfl (by exact Nat.le_refl _) ?_
 rw [Hp.upd_upd]
 have hsp : spliceL 0 (elC (.mk p n [] false ks)) [.int .i64 0, .str [], .str [], .bool false, .nils] = elC (.mk p n [] false ks) := by rw [hE]; rfl
 rw [hsp]
 refine RG.nilS (AC.ret (finD (ds := [.agg (elC (.mk p n [] false ks))]) (H' := H) ?_ (SubH.fresh hq) ⟨rfl, rfl⟩))
 show (ldD _ true 5 (.ptr q 0)).bind _ = _
 simp only [ldD, Hp.upd_same, ldEl]; rfl
theorem eta_el (e : El) : elC e = [.int .i64 e.page, .str e.name, .str e.text, .bool e.op, .lst (elsC e.kids) e.kids.length 5 none] := by
 obtain ⟨p, n, t, o, ks⟩ := e
 rw [elC]; rfl
theorem spl_el (e : El) : spliceL 0 (elC e) [.int .i64 0, .str [], .str [], .bool false, .nils] = elC e := by rw [eta_el]; rfl
theorem row_el {ks : List El} {i : Nat} (hi : i < ks.length) : partD true 0 5 ((elsC ks).drop (((i : Nat) : Int).toNat * 5)) = some (.agg (elC ks[i])) := by
 have hrow : ((elsC ks).drop (i * 5)).take 5 = elC ks[i] := elsC_at ks i _ (List.getElem?_eq_getElem hi)
 exact partD_row (i := i) (sz := 5) hrow (by rw [elsC_length]; omega)
theorem kidsF_take (l : List El) (n : List UInt8) (i : Nat) (hi : i < l.length) : kidsF (l.take (i + 1)) n = kidsF (l.take i) n ++ bif l[i].name == n then [l[i]] else [] := by
 rw [List.take_succ_eq_append_getElem hi, kids_app]
 congr 1
theorem kidsF_len (l : List El) (n : List UInt8) : (kidsF l n).length ≤ l.length := List.length_filter_le _ _
theorem Kids_ok (e : El) (n : List UInt8) (hl : e.kids.length ≤ 1000000000) : PF prog G 24 [.agg (elC e), .str n] (.lst (elsC (kidsF e.kids n)) (kidsF e.kids n).length 5 none) := by
 intro H
 refine CALL.of cF24 (Nat.le_of_ble_eq_true rfl) ?_
 refine AC.seq (AC.reg ?_)
 refine RG.box (d := .agg (elC e)) (ys := elC e) .d rfl rfl fun b hb => ?_
 rw [eta_el]
 generalize hHH : H.upd b (some (.cells [.int .i64 e.page, .str e.name, .str e.text, .bool e.op, .lst (elsC e.kids) e.kids.length 5 none] 24)) = HH
 have hHb : HH b = some (.cells [.int .i64 e.page, .str e.name, .str e.text, .bool e.op, .lst (elsC e.kids) e.kids.length 5 none] 24) := by rw [← hHH]; exact Hp.upd_same
 have hsub : SubH H HH := by rw [← hHH]; exact SubH.fresh hb
 refine al ?_
 generalize e.kids = ks at hl hHb hHH
 refine AC.bloopH (α := Nat × DV) (β := DV) (fun a => ks.length - a.1) (fun a => [(1, .str n), (5, a.2), (9, .lst (elsC ks) ks.length 5 none), (10, .int .i64 ks.length), (11, .int .i64 a.1)])
  (fun a H' => a.1 ≤ ks.length ∧ GR 24 5 HH (elsC (kidsF (ks.take a.1) n)) (kidsF (ks.take a.1) n).length a.2 H') (fun v => [(5, v)])
  (fun v H' => GR 24 5 HH (elsC (kidsF ks n)) (kidsF ks n).length v H') ?_ ?_ (0, .nils) _ ⟨Nat.zero_le _, GR.nil⟩ ⟨rfl, rfl, rfl, rfl, rfl, trivial⟩
 · intro v He fr h hfr
   refine AC.to _ hfr ?_
   refine au ?_
   exact AC.ret (finL (H' := H) rfl h.le (hsub.trans h.sub) ⟨rfl, rfl⟩)
 · rintro ⟨i, v⟩ H' ⟨h2, h3⟩ ih ex
   dsimp only at h2 h3 ih ⊢
   refine AC.seq (AC.reg ?_)
   refine go ?_
   cases e1 : decide ((i : Int) < ks.length)
   · have e := of_decide_eq_false e1
     rw [List.take_of_length_le (by omega)] at h3
     exact RG.nilS (AC.seq (AC.cond_f rfl (AC.exit (ex v _ _ h3 ⟨rfl, trivial⟩))))
   · have e := of_decide_eq_true e1
     have hi : i < ks.length := by omega
     have hk := kidsF_take ks n i hi
     have hkl := kidsF_len (ks.take i) n
     rw [List.length_take] at hkl
     refine RG.nilS (AC.seq (AC.cond_t rfl (AC.skip (AC.seq (AC.block (AC.seq (AC.reg ?_)))))))
     refine RG.p .d (evP_iadr wh wh (by omega)) ?_
     refine RG.p .d (evP_ldc wh (row_el hi)) ?_
     generalize ks[i] = x at hk
     refine RG.alloc .d fun q hq => ?_
     refine RG.sto (cs := [.int .i64 0, .str [], .str [], .bool false, .nils]) (ty := elT) (d := .agg (elC x)) (ys := elC x) .d wh Hp.upd_same (by exact rfl) rfl (elC_length _) (by exact Nat.le_refl _) ?_
     rw [Hp.upd_upd, spl_el]
     obtain ⟨g1, g2⟩ := h3.up (k := q) (o := .cells (elC x) elT) hq
     refine RG.nilS (AC.seq (AC.reg ?_))
     refine go1 ?_
     refine RG.ld .d wh Hp.upd_same (d := .str x.name) (by rw [eta_el]; rfl) ?_
     refine go ?_
     cases c1 : x.name == n
     · rw [c1, cond_false, List.append_nil] at hk
       refine RG.nilS (AC.cond_f rfl ?_)
       refine AC.skip ?_
       refine AC.drop (SubH.fresh hq) (AC.reg ?_)
       refine go ?_
       exact RG.nil (ih (i + 1, v) _ ⟨by dsimp only; omega, by dsimp only; rw [hk]; exact h3⟩ (by dsimp only; omega) _ ⟨rfl, rfl, rfl, rfl, rfl, trivial⟩)
     · rw [c1, cond_true] at hk
       refine RG.nilS (AC.cond_t rfl (AC.reg ?_))
       refine go1 ?_
       refine RG.ld .d wh Hp.upd_same (ldEl x) ?_
       refine RG.bslF (cs := elC x) .d (by
        show (if (elC x).length = 5 ∧ 0 + 5 ≤ 5 then some (spliceL 0 (elC x) _) else none) = _
        rw [if_pos ⟨elC_length _, by omega⟩, spl_el]) ?_
       refine GR.app (ys := elC x) (m := 1) .d g2 rfl (by show srcD _ 5 (.lst (elC x) 1 5 none) = _; simp [srcD]) (by omega) (by omega) fun v' A' hv' => ?_
       obtain ⟨A2, k1, k2, _, _⟩ := hv'.down g1
       refine go ?_
       refine RG.nil ?_
       refine AC.drop k2 (AC.reg ?_)
       refine go ?_
       refine RG.nil (ih (i + 1, v') _ ⟨by dsimp only; omega, ?_⟩ (by dsimp only; omega) _ ⟨rfl, rfl, rfl, rfl, rfl, trivial⟩)
       dsimp only
       rw [hk, elsC_append, List.length_append]
       have : elsC [x] = elC x := by rw [elsC, elsC, List.append_nil]
       rw [this]; exact k1
theorem treeText_ok (e : El) (n : List UInt8) (hl : e.kids.length ≤ 1000000000) : PF prog G 75 [.agg (elC e), .str n] (.tup [.str (textF e.kids n), .bool (decide (0 < (kidsF e.kids n).length))]) := by
 intro H
 refine CALL.of cF75 (Nat.le_of_ble_eq_true rfl) ?_
 refine AC.seq (AC.reg ?_)
 refine RG.box (d := .agg (elC e)) (ys := elC e) .d rfl rfl fun b hb => ?_
 refine au ?_
 refine RG.ld .d wh Hp.upd_same (ldEl e) ?_
 repeat (first | refine go1 ?_ | refine RG.zD ?_ | refine RG.callP .d rfl (Kids_ok e n hl) ?_ | refine nav ?_)
 cases hk : kidsF e.kids n with
 | nil =>
   refine au ?_
   exact AC.ret (finD (H' := H) rfl (SubH.fresh hb) ⟨by rw [textF, hk]; rfl, rfl⟩)
 | cons k r =>
   have : decide ((((k :: r : List El).length : Nat) : Int) > 0) = true := by simp
   rw [this]
   refine AC.cond_t rfl ?_
   refine AC.seq (AC.reg ?_)
   refine go1 ?_
   refine RG.p .d (evP_iadr (i := 0) rfl rfl (by simp)) ?_
   refine go1 ?_
   refine RG.p (d := .str k.text) .d (evP_ldc rfl (by rw [elsC, eta_el]; rfl)) ?_
   refine go ?_
   exact RG.nilS (AC.ret (finD (H' := H) rfl (SubH.fresh hb) ⟨by rw [textF, hk]; rfl, rfl⟩))
def all2 (p : El → El → Bool) : List El → List El → Bool
 | [], _ => true
 | _ :: _, [] => true
 | k :: ks, k' :: ks' => p k k' && all2 p ks ks'
theorem all2_same (d : Nat) : ∀ (ks ks' : List El), all2 (fun a b => sameF a b d) ks ks' = samesF ks ks' d
 | [], _ => by rw [all2, samesF]
 | _ :: _, [] => by rw [all2, samesF]
 | k :: ks, k' :: ks' => by rw [all2, samesF, all2_same d ks ks']
theorem all2_drop (p : El → El → Bool) (ks ks' : List El) (i : Nat) (h : i < ks.length) (h' : i < ks'.length) : all2 p (ks.drop i) (ks'.drop i) = (p ks[i] ks'[i] && all2 p (ks.drop (i + 1)) (ks'.drop (i + 1))) := by
 rw [List.drop_eq_getElem_cons h, List.drop_eq_getElem_cons h', all2]
theorem equalEl_ok {f q : Nat} {o : DO} {p : El → El → Bool} {ks ks' : List El} (hl : ks.length ≤ 4611686018427387904) (hp : ∀ (HH : Hp), HH q = some o → ∀ a ∈ ks, ∀ b ∈ ks', CALL prog G f [.agg (elC a), .agg (elC b), .ptr q 0] HH (fun r H' => r = .bool (p a b) ∧ H' = HH) (fun _ _ => False)) (H : Hp) (hq : H q = some o) :
  CALL prog G 142 [.lst (elsC ks) ks.length 5 none, .lst (elsC ks') ks'.length 5 none, .func (.func f) [] [.ptr q 0]] H
   (fun r H' => r = .bool (ks.length == ks'.length && all2 p ks ks') ∧ H' = H) (fun _ _ => False) := by
 refine CALL.of cF142 (Nat.le_of_ble_eq_true rfl) ?_
 refine au ?_
 rw [len_bne]
 cases c0 : ks.length == ks'.length
 case false =>
  refine au ?_
  exact AC.ret (fin rfl ⟨by rw [Bool.false_and]; rfl, rfl⟩)
 have hlen : ks.length = ks'.length := by simpa using c0
 rw [Bool.true_and]
 refine al ?_
 refine AC.bloopH (α := Nat) (β := Unit) (fun i => ks.length - i) (fun i => [(1, .lst (elsC ks') ks'.length 5 none), (2, .func (.func f) [] [.ptr q 0]), (15, .lst (elsC ks) ks.length 5 none), (16, .int .i64 ks.length), (17, .int .i64 i)])
  (fun i H' => H' = H ∧ i ≤ ks.length ∧ all2 p ks ks' = all2 p (ks.drop i) (ks'.drop i)) (fun _ => []) (fun _ H' => H' = H ∧ all2 p ks ks' = true) ?_ ?_ 0 _ ⟨rfl, Nat.zero_le _, rfl⟩ ⟨rfl, rfl, rfl, rfl, rfl, trivial⟩
 · rintro _ He fr ⟨rfl, h⟩ _
   show AC _ _ _ _ _ _ _ _
   refine au ?_
   exact AC.ret (fin rfl ⟨by rw [h]; rfl, rfl⟩)
 · rintro i H' ⟨rfl, h2, h3⟩ ih ex
   refine AC.seq (AC.reg ?_)
   refine go ?_
   cases e1 : decide ((i : Int) < ks.length)
   · have e := of_decide_eq_false e1
     have hd : ks.drop i = [] := List.drop_eq_nil_of_le (by omega)
     rw [hd, all2] at h3
     exact RG.nilS (AC.seq (AC.cond_f rfl (AC.exit (ex () _ _ ⟨rfl, h3⟩ trivial))))
   · have e := of_decide_eq_true e1
     have hi : i < ks.length := by omega
     have hi' : i < ks'.length := by omega
     rw [all2_drop p ks ks' i hi hi'] at h3
     have hm := List.getElem_mem hi
     have hm' := List.getElem_mem hi'
     have hr := row_el hi
     have hr' := row_el hi'
     refine RG.nilS (AC.seq (AC.cond_t rfl (AC.skip (AC.seq (AC.block (AC.seq (AC.reg ?_)))))))
     refine go1 ?_
     refine RG.p .d (evP_iadr wh wh (by omega)) ?_
     refine RG.p .d (evP_ldc wh hr) ?_
     refine RG.alloc .d fun b1 h1 => ?_
     refine go1 ?_
     generalize ks[i] = x at h3 hm
     refine RG.sto (cs := [.int .i64 0, .str [], .str [], .bool false, .nils]) (ty := elT) (d := .agg (elC x)) (ys := elC x) .d wh Hp.upd_same (by exact rfl) rfl (elC_length _) (by exact Nat.le_refl _) ?_
     rw [Hp.upd_upd, spl_el]
     refine RG.nilS (AC.seq (AC.reg ?_))
     refine go1 ?_
     refine go1 ?_
     refine RG.p .d (evP_iadr wh wh (by omega)) ?_
     refine RG.p .d (evP_ldc wh hr') ?_
     generalize ks'[i] = y at h3 hm'
     refine RG.alloc .d fun b2 h4 => ?_
     have hne : b2 ≠ b1 := fun e => by rw [e, Hp.upd_same] at h4; cases h4
     refine RG.sto (cs := [.int .i64 0, .str [], .str [], .bool false, .nils]) (ty := elT) (d := .agg (elC y)) (ys := elC y) .d wh Hp.upd_same (by exact rfl) rfl (elC_length _) (by exact Nat.le_refl _) ?_
     rw [Hp.upd_upd, spl_el]
     have hsub : SubH H' ((H'.upd b1 (some (.cells (elC x) elT))).upd b2 (some (.cells (elC y) elT))) := (SubH.fresh h1).trans (SubH.fresh (by rw [Hp.upd_ne hne]; rw [Hp.upd_ne hne] at h4; exact h4))
     refine RG.nilS (AC.seq (AC.reg ?_))
     refine go1 ?_
     refine RG.ld .d wh (by rw [Hp.upd_ne (Ne.symm hne)]; exact Hp.upd_same) (ldEl x) ?_
     refine RG.ld .d wh Hp.upd_same (ldEl y) ?_
     refine RG.drop hsub ?_
     refine RG.calv .d rfl rfl (hp H' hq x hm y hm') (fun r H2 ⟨k1, k2⟩ => ?_) (fun _ _ h => h.elim)
     subst k1; subst k2
     refine go ?_
     cases c1 : p x y
     · rw [c1, Bool.false_and] at h3
       refine au ?_
       exact AC.ret (fin rfl ⟨by rw [h3]; rfl, rfl⟩)
     · rw [c1, Bool.true_and] at h3
       refine au ?_
       exact ih (i + 1) _ ⟨rfl, by omega, h3⟩ (by omega) _ ⟨rfl, rfl, rfl, rfl, rfl, trivial⟩
theorem treesame_step {d : Nat} (hd2 : d < 100) (ih : 1 < d → ∀ (e e' : El), fits e → fits e' → PF prog G 80 [.agg (elC e), .agg (elC e'), .int .i64 (d - 1 : Nat)] (.bool (sameF e e' (d - 1)))) (e e' : El) (hf : fits e) (hf' : fits e') :
  PF prog G 80 [.agg (elC e), .agg (elC e'), .int .i64 d] (.bool (sameF e e' d)) := by
 intro H
 obtain ⟨p, n, t, o, ks⟩ := e
 obtain ⟨p', n', t', o', ks'⟩ := e'
 obtain ⟨hkl, hks⟩ := hf
 obtain ⟨hkl', hks'⟩ := hf'
 have he : elC (.mk p n t o ks) = [.int .i64 p, .str n, .str t, .bool o, .lst (elsC ks) ks.length 5 none] := by rw [elC]
 have he' : elC (.mk p' n' t' o' ks') = [.int .i64 p', .str n', .str t', .bool o', .lst (elsC ks') ks'.length 5 none] := by rw [elC]
 have hS : sameF (.mk p n t o ks) (.mk p' n' t' o' ks') d = ((p == p' && (n == n' && (t == t' && (o == o' && ks.length == ks'.length)))) && (bif decide (1 < d) then samesF ks ks' (d - 1) else true)) := by rw [sameF]
 refine CALL.of cF80 (Nat.le_of_ble_eq_true rfl) ?_
 refine AC.seq (AC.reg ?_)
 refine RG.box (ys := elC (.mk p n t o ks)) .d rfl rfl fun b3 h3 => ?_
 refine RG.box (ys := elC (.mk p' n' t' o' ks')) .d rfl rfl fun b4 h4 => ?_
 refine RG.box (ys := [.int .i64 d]) .d rfl rfl fun b5 h5 => ?_
 have n54 : b5 ≠ b4 := fun e => by rw [e, Hp.upd_same] at h5; cases h5
 rw [Hp.upd_ne n54] at h5
 have n53 : b5 ≠ b3 := fun e => by rw [e, Hp.upd_same] at h5; cases h5
 rw [Hp.upd_ne n53] at h5
 have n43 : b4 ≠ b3 := fun e => by rw [e, Hp.upd_same] at h4; cases h4
 rw [Hp.upd_ne n43] at h4
 rw [he, he']
 generalize hHH : ((H.upd b3 (some (.cells [.int .i64 p, .str n, .str t, .bool o, .lst (elsC ks) ks.length 5 none] 24))).upd b4 (some (.cells [.int .i64 p', .str n', .str t', .bool o', .lst (elsC ks') ks'.length 5 none] 24))).upd b5 (some (.cells [.int .i64 d] 3)) = HH
 have hb3 : HH b3 = some (.cells [.int .i64 p, .str n, .str t, .bool o, .lst (elsC ks) ks.length 5 none] 24) := by rw [← hHH, Hp.upd_ne (Ne.symm n53), Hp.upd_ne (Ne.symm n43)]; exact Hp.upd_same
 have hb4 : HH b4 = some (.cells [.int .i64 p', .str n', .str t', .bool o', .lst (elsC ks') ks'.length 5 none] 24) := by rw [← hHH, Hp.upd_ne (Ne.symm n54)]; exact Hp.upd_same
 have hb5 : HH b5 = some (.cells [.int .i64 d] 3) := by rw [← hHH]; exact Hp.upd_same
 have hsub : SubH H HH := by
  rw [← hHH]
  exact SubH.over (SubH.over (SubH.over (SubH.refl H) h3) h4) h5
 have no : ∀ {fr : Fr} {q : Bool}, q = sameF (.mk p n t o ks) (.mk p' n' t' o' ks') d → fr 6 = .bool q → Fin F80.rs (fun d' H' => d' = .bool (sameF (.mk p n t o ks) (.mk p' n' t' o' ks') d) ∧ H' = H) (fun _ _ => False) .ret fr HH := by
  intro fr q h1 h2
  refine finD (H' := H) (ds := [.bool q]) ?_ hsub ⟨by rw [← h1]; rfl, rfl⟩
  show (some [fr 6] : Option (List DV)) = _
  rw [h2]
 refine au ?_
 rw [show (p != p') = !(p == p') from rfl]
 cases c1 : p == p'
 case false =>
  rw [c1, Bool.false_and, Bool.false_and] at hS
  refine au ?_
  exact AC.ret (no hS.symm rfl)
 rw [c1, Bool.true_and] at hS
 refine au ?_
 cases c2 : n == n'
 case false =>
  rw [c2, Bool.false_and, Bool.false_and] at hS
  refine au ?_
  exact AC.ret (no hS.symm rfl)
 rw [c2, Bool.true_and] at hS
 refine au ?_
 cases c3 : t == t'
 case false =>
  rw [c3, Bool.false_and, Bool.false_and] at hS
  refine au ?_
  exact AC.ret (no hS.symm rfl)
 rw [c3, Bool.true_and] at hS
 refine au ?_
 cases c4 : o == o'
 case false =>
  rw [c4, Bool.false_and, Bool.false_and] at hS
  refine au ?_
  exact AC.ret (no hS.symm rfl)
 rw [c4, Bool.true_and] at hS
 refine au ?_
 rw [len_bne]
 cases c5 : ks.length == ks'.length
 case false =>
  rw [c5, Bool.false_and] at hS
  refine au ?_
  exact AC.ret (no hS.symm rfl)
 rw [c5, Bool.true_and] at hS
 refine au ?_
 rw [show decide (((d : Nat) : Int) ≤ 1) = decide (d ≤ 1) by rw [decide_eq_decide]; omega]
 cases c6 : decide (d ≤ 1)
 case true =>
  have := of_decide_eq_true c6
  have hdd : decide (1 < d) = false := by simp; omega
  rw [hdd, cond_false] at hS
  refine au ?_
  exact AC.ret (no hS.symm rfl)
 have hd := of_decide_eq_false c6
 have hdd : decide (1 < d) = true := by simp; omega
 rw [hdd, cond_true] at hS
 refine au ?_
 have hcb : ∀ (HX : Hp), HX b5 = some (.cells [.int .i64 d] 3) → ∀ a ∈ ks, ∀ b ∈ ks', CALL prog G 143 [.agg (elC a), .agg (elC b), .ptr b5 0] HX (fun r H' => r = .bool (sameF a b (d - 1)) ∧ H' = HX) (fun _ _ => False) := by
  intro HX hX a ha b hb
  refine CALL.of cF143 (Nat.le_of_ble_eq_true rfl) ?_
  refine AC.seq (AC.reg ?_)
  refine RG.box (ys := elC a) .d rfl rfl fun c1 k1 => ?_
  refine RG.box (ys := elC b) .d rfl rfl fun c2 k2 => ?_
  have m21 : c2 ≠ c1 := fun e => by rw [e, Hp.upd_same] at k2; cases k2
  rw [Hp.upd_ne m21] at k2
  have m5 : ∀ c, HX c = none → b5 ≠ c := fun c hc e => by rw [← e, hX] at hc; cases hc
  refine au ?_
  refine RG.ld .d wh (by rw [Hp.upd_ne (Ne.symm m21)]; exact Hp.upd_same) (ldEl a) ?_
  refine RG.ld .d wh Hp.upd_same (ldEl b) ?_
  refine RG.ld .d wh (by rw [Hp.upd_ne (m5 _ k2), Hp.upd_ne (m5 _ k1)]; exact hX) rfl ?_
  refine RG.subI .d wh wh (by omega) ?_
  rw [show ((d : Nat) : Int) - 1 = ((d - 1 : Nat) : Int) by omega]
  refine RG.callP .d rfl (ih (by omega) a b (fitss_mem ks hks a ha) (fitss_mem ks' hks' b hb)) ?_
  refine au ?_
  exact AC.ret (finD (H' := HX) rfl (SubH.over (SubH.over (SubH.refl HX) k1) k2) ⟨rfl, rfl⟩)
 have hEq := equalEl_ok (G := G) (ks := ks) (ks' := ks') (by omega) hcb HH hb5
 rw [c5, Bool.true_and, all2_same, ← hS] at hEq
 refine RG.callR .d rfl hEq ?_
 refine au ?_
 exact AC.ret (no rfl rfl)
theorem treesame_ok : ∀ (d : Nat), d < 100 → ∀ (e e' : El), fits e → fits e' → PF prog G 80 [.agg (elC e), .agg (elC e'), .int .i64 d] (.bool (sameF e e' d))
 | 0, h => treesame_step h (fun h => by omega)
 | d + 1, h => treesame_step h (fun _ => treesame_ok d (by omega))
theorem treeSame_ok (e e' : El) (hf : fits e) (hf' : fits e') : PF prog G 28 [.agg (elC e), .agg (elC e')] (.bool (sameF e e' 20)) := by
 intro H
 refine CALL.of cF28 (Nat.le_of_ble_eq_true rfl) ?_
 refine AC.seq (AC.reg ?_)
 refine RG.box (ys := elC e) .d rfl rfl fun b3 h3 => ?_
 refine RG.box (ys := elC e') .d rfl rfl fun b4 h4 => ?_
 have hne : b4 ≠ b3 := fun e => by rw [e, Hp.upd_same] at h4; cases h4
 rw [Hp.upd_ne hne] at h4
 refine au ?_
 refine RG.ld .d wh (by rw [Hp.upd_ne (Ne.symm hne)]; exact Hp.upd_same) (ldEl e) ?_
 refine RG.ld .d wh Hp.upd_same (ldEl e') ?_
 repeat (first | refine go1 ?_ | refine RG.zD ?_ | refine RG.callP .d rfl (treesame_ok 20 (by omega) e e' hf hf') ?_ | refine nav ?_)
 exact AC.ret (finD (H' := H) rfl (SubH.over (SubH.over (SubH.refl H) h3) h4) ⟨rfl, rfl⟩)
def F141 : FN := ⟨35, (.seq (.reg [ji 4 (.mv (.c .nils))])
 (.seq (.reg [ji 5 (.mv (.c .nils))])
 (.seq (.seq (.reg [ji 9 (.mv (.t 1)), ji 10 (.len false (.t 9)), ji 11 (.mv (ci 0))])
 (.block 0 (.loop (.seq (.reg [ji 12 (.bin .lss (.t 11) (.t 10))])
 (.seq (.cond (.t 12) .skip
 (.exit 0))
 (.seq (.block 1 (.seq (.reg [ji 13 (.mv (.t 11)), ji 14 (.iadr 2 (.t 9) (.t 11)), ji 15 (.ld true 2 (.t 14)), ji 7 (.alloc [(.str []), (.str [])] 115), ji 6 (.mv (.t 13)), jn (.st 2 (.t 7) (.t 15))])
 (.seq (.reg [ji 16 (.mv (.t 0)), ji 8 (.mv (.t 16))])
 (.seq (.seq (.reg [ji 17 (.mv (.t 6)), ji 18 (.bin .eql (.t 17) (ci 0))])
 (.cond (.t 18) (.reg [ji 19 (.mv (.t 8)), ji 20 (.bin .add (.t 19) (.c (.str [80, 114, 101, 102]))), ji 8 (.mv (.t 20))])
 .skip))
 (.draw [ji 21 (.mv (.t 5)), ji 22 (.mv (.t 8)), ji 23 (.fadr 0 (.t 7)), ji 24 (.ld false 1 (.t 23)), ji 25 (.call 37 [(ci 2), (.c (.str [67, 84, 84, 121, 112, 101])), (.t 24)]), ji 26 (.fadr 1 (.t 7)), ji 27 (.ld false 1 (.t 26)), ji 28 (.call 37 [(ci 2), (.c (.str [86, 101, 114, 67, 84])), (.t 27)]), ji 29 (.bsl 24 2 5 [(.int .i64 0), (.str []), (.str []), (.bool false), .nils, (.int .i64 0), (.str []), (.str []), (.bool false), .nils] [(0, 5, (.t 25)), (5, 5, (.t 28))]), ji 30 (.call 78 [(ci 2), (.t 22), (.t 29)]), ji 31 (.bsl 24 1 5 [(.int .i64 0), (.str []), (.str []), (.bool false), .nils] [(0, 5, (.t 30))]), ji 32 (.app 24 5 72 (.t 21) (.t 31)), ji 5 (.mv (.t 32))] [[], [], [], [2], [3], [], [5], [6, 4], [4, 7], [1, 8, 7], [9], [0, 10, 9], [11, 11, 0, 1, 2, 3, 4, 5, 6, 7, 8, 9, 10, 11]])))))
 (.reg [ji 33 (.bin .add (.t 11) (ci 1)), ji 11 (.mv (.t 33))])))))))
 (.seq (.reg [ji 34 (.mv (.t 5)), ji 4 (.mv (.t 34))])
 .ret)))), [.tmp 4]⟩
theorem cF141 : cFn prog 141 = some F141 := by kernel_rfl
def F139 : FN := ⟨15, (.seq (.reg [ji 5 (.mv (.t 1)), ji 6 (.bin .neq (.t 5) (.c (.str [])))])
 (.cond (.t 6) (.draw [ji 7 (.ld false 1 (.t 2)), ji 8 (.mv (.t 0)), ji 9 (.mv (.t 1)), ji 10 (.call 37 [(ci 2), (.t 8), (.t 9)]), ji 11 (.len false (.t 7)), ji 12 (.bsl 24 1 5 [(.int .i64 0), (.str []), (.str []), (.bool false), .nils] [(0, 5, (.c (.agg [(.int .i64 0), (.str []), (.str []), (.bool false), .nils])))]), ji 13 (.app 24 5 72 (.t 7) (.t 12)), ji 14 (.iadr 5 (.t 13) (.t 11)), jn (.st 5 (.t 14) (.t 10)), jn (.st 1 (.t 2) (.t 13))] [[], [], [], [1, 2], [0], [], [0, 5, 3, 0, 1, 2, 3, 4, 5], [6, 4, 0, 1, 2, 3, 4, 5, 6], [7, 3, 6, 0, 1, 2, 3, 4, 5, 6], [6, 6, 0, 1, 2, 3, 4, 5, 6]])
 .skip)), []⟩
theorem cF139 : cFn prog 139 = some F139 := by kernel_rfl
def F77 : FN := ⟨15, (.seq (.reg [ji 5 (.mv (.t 1)), ji 6 (.bin .neq (.t 5) (.c (.str [])))])
 (.cond (.t 6) (.draw [ji 7 (.ld false 1 (.t 2)), ji 8 (.mv (.t 0)), ji 9 (.mv (.t 1)), ji 10 (.call 37 [(ci 2), (.t 8), (.t 9)]), ji 11 (.len false (.t 7)), ji 12 (.bsl 24 1 5 [(.int .i64 0), (.str []), (.str []), (.bool false), .nils] [(0, 5, (.c (.agg [(.int .i64 0), (.str []), (.str []), (.bool false), .nils])))]), ji 13 (.app 24 5 72 (.t 7) (.t 12)), ji 14 (.iadr 5 (.t 13) (.t 11)), jn (.st 5 (.t 14) (.t 10)), jn (.st 1 (.t 2) (.t 13))] [[], [], [], [1, 2], [0], [], [0, 5, 3, 0, 1, 2, 3, 4, 5], [6, 4, 0, 1, 2, 3, 4, 5, 6], [7, 3, 6, 0, 1, 2, 3, 4, 5, 6], [6, 6, 0, 1, 2, 3, 4, 5, 6]])
 .skip)), []⟩
theorem cF77 : cFn prog 77 = some F77 := by kernel_rfl
theorem toldD_take (n : List UInt8) (l : List Frm) (i : Nat) (hi : i < l.length) : toldD n (l.take (i + 1)) = toldD n (l.take i) ++ [formD (bif i == 0 then n ++ nPref else n) l[i]] := by
 cases l with
 | nil => simp at hi
 | cons f l =>
   cases i with
   | zero => rfl
   | succ i =>
     simp only [List.length_cons] at hi
     have hi' : i < l.length := by omega
     rw [List.take_succ_cons, List.take_succ_cons, toldD, toldD, List.take_succ_eq_append_getElem hi', List.map_append]
     rfl
theorem toldD_len (n : List UInt8) (l : List Frm) : (toldD n l).length = l.length := by
 cases l with
 | nil => rfl
 | cons f l => simp [toldD]
theorem told_ok (n : List UInt8) (l : List Frm) (hn : n.length ≤ 1000) (hl : l.length ≤ 1000000) : PF prog G 141 [.str n, .lst (frmsC l) l.length 2 none] (.lst (elsC (toldD n l)) (toldD n l).length 5 none) := by
 intro H
 refine CALL.of cF141 (Nat.le_of_ble_eq_true rfl) ?_
 refine al ?_
 refine AC.bloopH (α := Nat × DV) (β := DV) (fun a => l.length - a.1) (fun a => [(0, .str n), (5, a.2), (9, .lst (frmsC l) l.length 2 none), (10, .int .i64 l.length), (11, .int .i64 a.1)])
  (fun a H' => a.1 ≤ l.length ∧ GR 24 5 H (elsC (toldD n (l.take a.1))) (toldD n (l.take a.1)).length a.2 H') (fun v => [(5, v)])
  (fun v H' => GR 24 5 H (elsC (toldD n l)) (toldD n l).length v H') ?_ ?_ (0, .nils) _ ⟨Nat.zero_le _, GR.nil⟩ ⟨rfl, rfl, rfl, rfl, rfl, trivial⟩
 · intro v He fr h hfr
   refine AC.to _ hfr ?_
   show AC _ _ _ _ _ _ _ _
   refine au ?_
   exact AC.ret (finL (H' := H) rfl h.le h.sub ⟨rfl, rfl⟩)
 · rintro ⟨i, v⟩ H' ⟨h2, h3⟩ ih ex
   dsimp only at h2 h3 ih ⊢
   refine AC.seq (AC.reg ?_)
   refine go ?_
   cases e1 : decide ((i : Int) < l.length)
   · have e := of_decide_eq_false e1
     rw [List.take_of_length_le (by omega)] at h3
     exact RG.nilS (AC.seq (AC.cond_f rfl (AC.exit (ex v _ _ h3 ⟨rfl, trivial⟩))))
   · have e := of_decide_eq_true e1
     have hi : i < l.length := by omega
     have hk := toldD_take n l i hi
     have hkl := toldD_len n (l.take i)
     rw [List.length_take] at hkl
     have hrow := rowD (sz := 2) (fun f : Frm => [DV.str f.1, .str f.2]) (fun _ => rfl) l i _ (List.getElem?_eq_getElem hi)
     have hrow' : partD true 0 2 ((frmsC l).drop (((i : Nat) : Int).toNat * 2)) = some (.agg [.str l[i].1, .str l[i].2]) := partD_row (i := i) (sz := 2) hrow (by rw [frmsC_length]; omega)
     refine RG.nilS (AC.seq (AC.cond_t rfl (AC.skip (AC.seq (AC.block (AC.seq (AC.reg ?_)))))))
     refine go1 ?_
     refine RG.p .d (evP_iadr wh wh (by omega)) ?_
     refine RG.p .d (evP_ldc wh hrow') ?_
     generalize l[i] = x at hk
     refine RG.alloc .d fun q hq => ?_
     refine go1 ?_
     refine RG.sto (cs := [.str [], .str []]) (ty := 115) (d := .agg [.str x.1, .str x.2]) (ys := [.str x.1, .str x.2]) .d wh Hp.upd_same (by exact rfl) rfl rfl (by exact Nat.le_refl _) ?_
     rw [Hp.upd_upd]
     obtain ⟨g1, g2⟩ := h3.up (k := q) (o := .cells [.str x.1, .str x.2] 115) hq
     have hqq : (H'.upd q (some (.cells [.str x.1, .str x.2] 115))) q = some (.cells [.str x.1, .str x.2] 115) := Hp.upd_same
     change GR 24 5 _ _ _ v (H'.upd q (some (.cells (spliceL 0 [.str x.1, .str x.2] [.str [], .str []]) 115))) at g2
     refine RG.nilS (AC.seq (AC.reg ?_))
     refine go ?_
     refine RG.nilS ?_
     generalize hnm : (bif i == 0 then n ++ nPref else n) = nm at hk
     refine AC.seqI (I := fun fr' HX => HX = H'.upd q (some (.cells [.str x.1, .str x.2] 115)) ∧ Agrees fr' [(0, .str n), (5, v), (7, .ptr q 0), (8, .str nm), (9, .lst (frmsC l) l.length 2 none), (10, .int .i64 l.length), (11, .int .i64 i)]) (AC.seq (AC.reg ?_)) ?_
     · refine go1 ?_
       refine RG.p (d := .bool (i == 0)) .d (by
        show some (DV.bool (((i : Nat) : Int) == 0)) = _
        congr 2
        rw [Bool.eq_iff_iff]; simp only [beq_iff_eq]; omega) ?_
       cases c1 : i == 0
       · rw [c1, cond_false] at hnm
         subst hnm
         exact RG.nilS (AC.cond_f rfl (AC.skip ⟨rfl, rfl, rfl, rfl, rfl, rfl, rfl, rfl, trivial⟩))
       · rw [c1, cond_true] at hnm
         refine RG.nilS (AC.cond_t rfl (AC.reg ?_))
         refine go1 ?_
         refine RG.addS (b := nPref) .d wh (by exact rfl) (by simp [nPref]; omega) ?_
         rw [hnm]
         refine go ?_
         exact RG.nil ⟨rfl, rfl, rfl, rfl, rfl, rfl, rfl, rfl, trivial⟩
     rintro fr1 H1 ⟨rfl, hf1⟩
     refine AC.to _ hf1 ?_
     refine AC.drawP [11, 12] rfl ?_
     first|refine VP.z0 0 ?_|refine VP.z1 0 ?_|refine VP.z2 0 ?_|refine VP.z3 0 ?_|refine VP.z4 0 ?_|refine VP.z5 0 ?_|refine VP.z6 0 ?_|refine VP.z7 0 ?_|refine VP.z8 0 ?_
     first|refine VP.z0 1 ?_|refine VP.z1 1 ?_|refine VP.z2 1 ?_|refine VP.z3 1 ?_|refine VP.z4 1 ?_|refine VP.z5 1 ?_|refine VP.z6 1 ?_|refine VP.z7 1 ?_|refine VP.z8 1 ?_
     first|refine VP.z0 2 ?_|refine VP.z1 2 ?_|refine VP.z2 2 ?_|refine VP.z3 2 ?_|refine VP.z4 2 ?_|refine VP.z5 2 ?_|refine VP.z6 2 ?_|refine VP.z7 2 ?_|refine VP.z8 2 ?_
     refine VP.v 3 rfl (evP_ld rfl hqq rfl) ?_
     refine VP.c 4 (Leaf_ok 2 nCT x.1) ?_
     first|refine VP.z0 5 ?_|refine VP.z1 5 ?_|refine VP.z2 5 ?_|refine VP.z3 5 ?_|refine VP.z4 5 ?_|refine VP.z5 5 ?_|refine VP.z6 5 ?_|refine VP.z7 5 ?_|refine VP.z8 5 ?_
     refine VP.v 6 rfl (evP_ld rfl hqq rfl) ?_
     refine VP.c 7 (Leaf_ok 2 nVer x.2) ?_
     refine VP.z8 (cs := elsC [leafD nCT x.1, leafD nVer x.2]) 8 ?_ (hb := rfl)
     refine VP.c 9 (Node_ok (ks := [leafD nCT x.1, leafD nVer x.2]) (.inr ⟨by simp, none, rfl⟩) (by simp) 2 nm) ?_
     refine VP.z8 (cs := elsC [formD nm x]) 10 ?_ (hb := rfl)
     refine VP.pe 11 rfl rfl (EF.app (m := 1) (ys := elsC [formD nm x]) trivial g2 rfl (by show srcD _ 5 (.lst (elsC [formD nm x]) 1 5 none) = _; simp [srcD]) (by omega) (by omega)) (fun _ _ _ h => h.elim) (fun v' A' hv' => ⟨?_, ?_⟩)
     · exact (by (repeat (refine stabP_cons rfl (by first | exact StabP.of (QV.evP trivial rfl) rfl | exact StabP.of (QV.bsl trivial rfl) rfl | exact StabP.of (QV.callP trivial rfl (Leaf_ok _ _ _)) rfl | exact StabP.of (QV.evP trivial (evP_ld rfl (hv'.look Hp.upd_same) rfl)) rfl) ?_)); exact stabP_nil)
     refine VP.pe 12 rfl rfl (EF.of_evP (d := v') rfl) (fun _ _ _ h => h.elim) (fun d H2 ⟨f1, f2⟩ => ⟨stabP_nil, ?_⟩)
     subst f1; subst f2
     obtain ⟨A2, k1, k2, _, _⟩ := hv'.down g1
     refine VP.pd ?_
     refine AC.drop k2 (AC.reg ?_)
     refine go ?_
     refine RG.nil (ih (i + 1, d) _ ⟨by dsimp only; omega, ?_⟩ (by dsimp only; omega) _ ⟨rfl, rfl, rfl, rfl, rfl, trivial⟩)
     dsimp only
     rw [hk, elsC_append, List.length_append]; exact k1
theorem sayE_ok {H0 H : Hp} {vb : Nat} {v : DV} {ks : List El} (hg : GW 24 5 (H0.upd vb (some (.cells [v] 22))) (elsC ks) ks.length v H) (hl : ks.length ≤ 1000000) (n t : List UInt8) :
  CALL prog G 77 [.str n, .str t, .ptr vb 0] H (fun _ H' => ∃ v', GW 24 5 (H0.upd vb (some (.cells [v'] 22))) (elsC (ks ++ sayD n t)) (ks ++ sayD n t).length v' H') (fun _ _ => False) := by
 refine CALL.of cF77 (Nat.le_of_ble_eq_true rfl) ?_
 refine au ?_
 cases c1 : t == []
 case true =>
  refine au ?_
  refine fin rfl ⟨v, ?_⟩
  rw [sayD, c1, cond_true, List.append_nil]; exact hg
 refine AC.cond_t rfl ?_
 refine AC.drawP [6, 8, 9] rfl ?_
 refine VP.v 0 rfl (evP_ld rfl (hg.look Hp.upd_same) rfl) ?_
 first|refine VP.z0 1 ?_|refine VP.z1 1 ?_|refine VP.z2 1 ?_|refine VP.z3 1 ?_|refine VP.z4 1 ?_|refine VP.z5 1 ?_|refine VP.z6 1 ?_|refine VP.z7 1 ?_|refine VP.z8 1 ?_
 first|refine VP.z0 2 ?_|refine VP.z1 2 ?_|refine VP.z2 2 ?_|refine VP.z3 2 ?_|refine VP.z4 2 ?_|refine VP.z5 2 ?_|refine VP.z6 2 ?_|refine VP.z7 2 ?_|refine VP.z8 2 ?_
 refine VP.c 3 (Leaf_ok 2 n t) ?_
 refine VP.v 4 rfl (hg.len rfl) ?_
 refine VP.z8 (cs := Z5) 5 ?_ (hb := rfl)
 refine VP.appset (d := .agg (elC (leafD n t))) (ys := elC (leafD n t)) (zs := Z5) 6 7 8 9 rfl rfl rfl rfl hg rfl rfl rfl (elsC_length _) (fun f h => (h 11 (by decide) (by decide)).trans rfl) (fun f h => (h 10 (by decide) (by decide)).trans rfl) (fun f h => (h 2 (by decide) (by decide)).trans rfl) (by decide) rfl (elC_length _) (by omega) rfl rfl rfl rfl (by decide) rfl rfl rfl ?_
 intro v' p H' hv'
 refine fin rfl ⟨v', ?_⟩
 rw [sayD, c1, cond_false, elsC_append, List.length_append]
 have : elsC [leafD n t] = elC (leafD n t) := by rw [elsC, elsC, List.append_nil]
 rw [this]; exact hv'
theorem sayS_ok {H0 H : Hp} {vb : Nat} {v : DV} {ks : List El} (hg : GW 24 5 (H0.upd vb (some (.cells [v] 22))) (elsC ks) ks.length v H) (hl : ks.length ≤ 1000000) (n t : List UInt8) :
  CALL prog G 139 [.str n, .str t, .ptr vb 0] H (fun _ H' => ∃ v', GW 24 5 (H0.upd vb (some (.cells [v'] 22))) (elsC (ks ++ sayD n t)) (ks ++ sayD n t).length v' H') (fun _ _ => False) := by
 refine CALL.of cF139 (Nat.le_of_ble_eq_true rfl) ?_
 refine au ?_
 cases c1 : t == []
 case true =>
  refine au ?_
  refine fin rfl ⟨v, ?_⟩
  rw [sayD, c1, cond_true, List.append_nil]; exact hg
 refine AC.cond_t rfl ?_
 refine AC.drawP [6, 8, 9] rfl ?_
 refine VP.v 0 rfl (evP_ld rfl (hg.look Hp.upd_same) rfl) ?_
 first|refine VP.z0 1 ?_|refine VP.z1 1 ?_|refine VP.z2 1 ?_|refine VP.z3 1 ?_|refine VP.z4 1 ?_|refine VP.z5 1 ?_|refine VP.z6 1 ?_|refine VP.z7 1 ?_|refine VP.z8 1 ?_
 first|refine VP.z0 2 ?_|refine VP.z1 2 ?_|refine VP.z2 2 ?_|refine VP.z3 2 ?_|refine VP.z4 2 ?_|refine VP.z5 2 ?_|refine VP.z6 2 ?_|refine VP.z7 2 ?_|refine VP.z8 2 ?_
 refine VP.c 3 (Leaf_ok 2 n t) ?_
 refine VP.v 4 rfl (hg.len rfl) ?_
 refine VP.z8 (cs := Z5) 5 ?_ (hb := rfl)
 refine VP.appset (d := .agg (elC (leafD n t))) (ys := elC (leafD n t)) (zs := Z5) 6 7 8 9 rfl rfl rfl rfl hg rfl rfl rfl (elsC_length _) (fun f h => (h 11 (by decide) (by decide)).trans rfl) (fun f h => (h 10 (by decide) (by decide)).trans rfl) (fun f h => (h 2 (by decide) (by decide)).trans rfl) (by decide) rfl (elC_length _) (by omega) rfl rfl rfl rfl (by decide) rfl rfl rfl ?_
 intro v' p H' hv'
 refine fin rfl ⟨v', ?_⟩
 rw [sayD, c1, cond_false, elsC_append, List.length_append]
 have : elsC [leafD n t] = elC (leafD n t) := by rw [elsC, elsC, List.append_nil]
 rw [this]; exact hv'
def F79 : FN := ⟨55, (.seq (.reg [ji 1 (.box 56 (.t 0)), ji 2 (.alloc [(.int .i64 0), (.str []), (.str []), (.bool false), .nils] 24)])
 (.seq (.reg [ji 3 (.alloc [.nils] 22), ji 4 (.mv (.c .nils))])
 (.seq (.reg [ji 8 (.mkfn (.func 139) [] [(.t 3)]), ji 5 (.mv (.t 8))])
 (.seq (.reg [ji 9 (.mv (.t 5)), ji 10 (.fadr 0 (.t 1)), ji 11 (.ld false 1 (.t 10)), ji 12 (.calv (.t 9) [(.c (.str [83, 111, 117, 114, 99, 101, 82, 101, 102])), (.t 11)])])
 (.seq (.reg [ji 13 (.mv (.t 5)), ji 14 (.fadr 1 (.t 1)), ji 15 (.ld false 1 (.t 14)), ji 16 (.calv (.t 13) [(.c (.str [68, 105, 115, 112, 108, 97, 121, 78, 97, 109, 101])), (.t 15)])])
 (.seq (.seq (.reg [ji 17 (.fadr 2 (.t 1)), ji 18 (.ld false 1 (.t 17)), ji 19 (.bin .neq (.t 18) (ci 0))])
 (.cond (.t 19) (.reg [ji 20 (.mv (.t 5)), ji 21 (.fadr 2 (.t 1)), ji 22 (.ld false 1 (.t 21)), ji 23 (.call 140 [(.t 22)]), ji 24 (.calv (.t 20) [(.c (.str [77, 97, 120, 71, 85, 73, 68, 83, 105, 122, 101])), (.t 23)])])
 .skip))
 (.seq (.draw [ji 25 (.ld false 1 (.t 3)), ji 26 (.fadr 3 (.t 1)), ji 27 (.ld false 1 (.t 26)), ji 28 (.call 141 [(.c (.str [82, 120])), (.t 27)]), ji 29 (.app 24 5 72 (.t 25) (.t 28)), jn (.st 1 (.t 3) (.t 29))] [[], [], [1], [2], [0, 3, 3], [4, 4, 0, 1, 2, 3, 4]])
 (.seq (.draw [ji 30 (.ld false 1 (.t 3)), ji 31 (.fadr 4 (.t 1)), ji 32 (.ld false 1 (.t 31)), ji 33 (.call 141 [(.c (.str [84, 120])), (.t 32)]), ji 34 (.app 24 5 72 (.t 30) (.t 33)), jn (.st 1 (.t 3) (.t 34))] [[], [], [1], [2], [0, 3, 3], [4, 4, 0, 1, 2, 3, 4]])
 (.seq (.seq (.reg [ji 35 (.fadr 5 (.t 1)), ji 36 (.ld false 1 (.t 35)), ji 37 (.len false (.t 36)), ji 38 (.mv (ci 0))])
 (.block 0 (.loop (.seq (.reg [ji 39 (.bin .lss (.t 38) (.t 37))])
 (.seq (.cond (.t 39) .skip
 (.exit 0))
 (.seq (.block 1 (.seq (.reg [ji 40 (.iadr 1 (.t 36) (.t 38)), ji 41 (.ld false 1 (.t 40)), ji 7 (.mv (.t 41))])
 (.reg [ji 42 (.mv (.t 4)), ji 43 (.mv (.t 7)), ji 44 (.call 140 [(.t 43)]), ji 45 (.call 37 [(ci 2), (.c (.str [83, 121, 110, 99, 84, 121, 112, 101])), (.t 44)]), ji 46 (.bsl 24 1 5 [(.int .i64 0), (.str []), (.str []), (.bool false), .nils] [(0, 5, (.t 45))]), ji 47 (.app 24 5 72 (.t 42) (.t 46)), ji 4 (.mv (.t 47))])))
 (.reg [ji 48 (.bin .add (.t 38) (ci 1)), ji 38 (.mv (.t 48))])))))))
 (.seq (.draw [ji 49 (.ld false 1 (.t 3)), ji 50 (.mv (.t 4)), ji 51 (.call 78 [(ci 2), (.c (.str [83, 121, 110, 99, 67, 97, 112])), (.t 50)]), ji 52 (.bsl 24 1 5 [(.int .i64 0), (.str []), (.str []), (.bool false), .nils] [(0, 5, (.t 51))]), ji 53 (.app 24 5 72 (.t 49) (.t 52)), ji 54 (.call 78 [(ci 2), (.c (.str [68, 97, 116, 97, 83, 116, 111, 114, 101])), (.t 53)]), jn (.st 5 (.t 2) (.t 54))] [[], [], [1], [2], [0, 3, 2], [4, 4], [5, 5, 0, 1, 2, 3, 4, 5]])
 .ret)))))))))), [.cell 2 true 5]⟩
theorem cF79 : cFn prog 79 = some F79 := by kernel_rfl
theorem CloneW_ok {ks : List El} {g cap : Nat} {rest : List DV} {ty : TypeId} {H : Hp} (hg : H g = some (.cells (elsC ks ++ rest) ty)) (hl : ks.length ≤ 1000000000) :
  CALL prog G 138 [.win g 0 ks.length cap] H (fun d H' => d = .lst (elsC ks) ks.length 5 none ∧ H' = H) (fun _ _ => False) := by
 refine CALL.of cF138 (Nat.le_of_ble_eq_true rfl) ?_
 refine AC.seq (AC.reg ?_)
 refine go ?_
 refine RG.nilS (AC.seq (AC.seq (AC.reg ?_)))
 refine go1 ?_
 refine RG.p (d := .bool false) .d rfl ?_
 refine RG.nilS (AC.cond_f rfl ?_)
 refine AC.skip ?_
 refine AC.seq (AC.reg ?_)
 refine RG.s .d (ST.bsl rfl fun b hb => ?_)
 refine go1 ?_
 have hgb : g ≠ b := fun e => by rw [e, hb] at hg; cases hg
 refine RG.s .d (ST.app_own (m := ks.length) (ys := elsC ks) (cs := []) (n := 0) rfl Hp.upd_same (by
  show srcD _ 5 (.win g 0 ks.length cap) = _
  simp only [srcD]
  rw [Hp.upd_ne hgb, hg]
  have : 0 + ks.length * 5 ≤ (elsC ks ++ rest).length := by rw [List.length_append, elsC_length]; omega
  simp only [if_pos this, List.drop_zero]
  rw [← elsC_length, List.take_left]) (by omega) fun b' hb' => ?_)
 rw [Hp.upd_upd, Hp.upd_id hb, List.nil_append, Nat.zero_add]
 have hb2 : H b' = none := by
  rcases hb' with rfl | hb'
  · exact hb
  · have hne : b' ≠ b := fun e => by rw [e, Hp.upd_same] at hb'; cases hb'
    rw [Hp.upd_ne hne] at hb'; exact hb'
 refine go ?_
 exact RG.nilS (AC.ret (finL (H' := H) rfl DLe.tag (SubH.fresh hb2) ⟨rfl, rfl⟩))
theorem NodeC_ok {ks : List El} {v : DV} {H : Hp} (hC : CALL prog G 138 [v] H (fun d H' => d = .lst (elsC ks) ks.length 5 none ∧ H' = H) (fun _ _ => False)) (p : Int) (n : List UInt8) (hv : ∀ q o, H q = none → CALL prog G 138 [v] (H.upd q (some o)) (fun d H' => d = .lst (elsC ks) ks.length 5 none ∧ H' = H.upd q (some o)) (fun _ _ => False)) :
  CALL prog G 78 [.int .i64 p, .str n, v] H (fun d H' => d = .agg (elC (.mk p n [] false ks)) ∧ H' = H) (fun _ _ => False) := by
 refine CALL.of cF78 (Nat.le_of_ble_eq_true rfl) ?_
 refine AC.seq (AC.reg ?_)
 refine RG.alloc .d fun q hq => ?_
 refine RG.nilS (AC.seq (AC.reg ?_))
 refine go1 ?_
 refine go1 ?_
 refine go1 ?_
 refine RG.callR .d rfl (hv q _ hq) ?_
 have hE : elC (.mk p n [] false ks) = [.int .i64 p, .str n, .str [], .bool false, .lst (elsC ks) ks.length 5 none] := by rw [elC]
 refine RG.p (d := .agg (elC (.mk p n [] false ks))) .d (by rw [hE]; rfl) ?_
 refine RG.sto (cs := [.int .i64 0, .str [], .str [], .bool false, .nils]) (ty := elT) (d := .agg (elC (.mk p n [] false ks))) (ys := elC (.mk p n [] false ks)) .d wh Hp.upd_same (by exact rfl) rfl rfl (by exact Nat.le_refl _) ?_
 rw [Hp.upd_upd]
 have hsp : spliceL 0 (elC (.mk p n [] false ks)) [.int .i64 0, .str [], .str [], .bool false, .nils] = elC (.mk p n [] false ks) := by rw [hE]; rfl
 rw [hsp]
 refine RG.nilS (AC.ret (finD (ds := [.agg (elC (.mk p n [] false ks))]) (H' := H) ?_ (SubH.fresh hq) ⟨rfl, rfl⟩))
 show (ldD _ true 5 (.ptr q 0)).bind _ = _
 simp only [ldD, Hp.upd_same, ldEl]; rfl
theorem NodeW_ok {ty : TypeId} {H0 H : Hp} {ks : List El} {v : DV} (h : GW ty 5 H0 (elsC ks) ks.length v H) (hl : ks.length ≤ 1000000000) (p : Int) (n : List UInt8) :
  CALL prog G 78 [.int .i64 p, .str n, v] H (fun d H' => d = .agg (elC (.mk p n [] false ks)) ∧ H' = H) (fun _ _ => False) := by
 rcases h with ⟨h0, h1, rfl, rfl⟩ | ⟨g, cap, rest, hg, rfl, h3, h4, rfl⟩
 · exact Node_ok (.inl ⟨List.length_eq_zero_iff.1 h0, rfl⟩) hl p n _
 · refine NodeC_ok (CloneW_ok Hp.upd_same hl) p n fun q o hq => CloneW_ok (rest := rest) (ty := ty) ?_ hl
   rw [Hp.upd_ne (fun e => by rw [← e, Hp.upd_same] at hq; cases hq)]
   exact Hp.upd_same
theorem kinds_take (l : List Int) (i : Nat) (hi : i < l.length) : (l.take (i + 1)).map kindD = (l.take i).map kindD ++ [kindD l[i]] := by
 rw [List.take_succ_eq_append_getElem hi, List.map_append]; rfl
theorem store_ok (p : Plc) (h : placeF p = true) : PF prog G 79 [.agg (plcC p)] (.agg (elC (storeD p))) := by
 intro H
 simp only [placeF, Bool.and_eq_true, decide_eq_true_eq, List.all_eq_true] at h
 obtain ⟨⟨⟨⟨⟨⟨⟨⟨h1, h2⟩, h3⟩, h4⟩, h5⟩, h6⟩, h7⟩, h8⟩, h9⟩ := h
 simp only [formsF, Bool.and_eq_true, decide_eq_true_eq, List.all_eq_true] at h5 h6
 obtain ⟨⟨a1, a2⟩, _⟩ := h5
 obtain ⟨⟨c1, c2⟩, _⟩ := h6
 have hkk : ∀ k ∈ p.kinds, 1 ≤ k ∧ k ≤ 99 := fun k hk => by
  have := h9 k hk
  simpa [kindOk] using this
 refine CALL.of cF79 (Nat.le_of_ble_eq_true rfl) ?_
 refine AC.seq (AC.reg ?_)
 refine RG.box (d := .agg (plcC p)) (ys := plcC p) .d rfl rfl fun b1 q1 => ?_
 refine RG.alloc .d fun b2 q2 => ?_
 have n21 : b2 ≠ b1 := fun e => by rw [e, Hp.upd_same] at q2; cases q2
 rw [Hp.upd_ne n21] at q2
 refine RG.nilS (AC.seq (AC.reg ?_))
 refine RG.alloc .d fun b3 q3 => ?_
 have n32 : b3 ≠ b2 := fun e => by rw [e, Hp.upd_same] at q3; cases q3
 rw [Hp.upd_ne n32] at q3
 have n31 : b3 ≠ b1 := fun e => by rw [e, Hp.upd_same] at q3; cases q3
 rw [Hp.upd_ne n31] at q3
 generalize hH0 : (H.upd b1 (some (.cells (plcC p) 56))).upd b2 (some (.cells Z5 24)) = H0
 have hH0' : ((H.upd b1 (some (.cells (plcC p) 56))).upd b2 (some (.cells [.int .i64 0, .str [], .str [], .bool false, .nils] 24))) = H0 := hH0
 rw [hH0']
 have hb1 : ∀ v, (H0.upd b3 (some (.cells [v] 22))) b1 = some (.cells (plcC p) 56) := fun v => by rw [Hp.upd_ne (Ne.symm n31), ← hH0, Hp.upd_ne (Ne.symm n21)]; exact Hp.upd_same
 have hb2 : ∀ v, (H0.upd b3 (some (.cells [v] 22))) b2 = some (.cells Z5 24) := fun v => by rw [Hp.upd_ne (Ne.symm n32), ← hH0]; exact Hp.upd_same
 have hsub : ∀ v, SubH H (H0.upd b3 (some (.cells [v] 22))) := fun v => by rw [← hH0]; exact SubH.over (SubH.over (SubH.over (SubH.refl H) q1) q2) q3
 rw [plcC] at hb1
 have hg0 : GW 24 5 (H0.upd b3 (some (.cells [.nils] 22))) (elsC []) ([] : List El).length .nils (H0.upd b3 (some (.cells [.nils] 22))) := GW.nil
 refine au ?_
 have lenL : ∀ (n t : List UInt8), (sayD n t).length ≤ 1 := fun n t => by
  rcases sayD_cases n t with e | e <;> rw [e]
  · exact Nat.zero_le _
  · exact Nat.le_refl _
 refine RG.ld .d rfl (hg0.look (hb1 _)) rfl ?_
 refine RG.calv .d rfl rfl (sayS_ok hg0 (by simp) nRef p.ref) (fun _ H1 ⟨v1, g1⟩ => ?_) (fun _ _ h => h.elim)
 rw [List.nil_append] at g1
 have l1 := lenL nRef p.ref
 generalize hk1 : sayD nRef p.ref = k1 at g1 l1
 refine au ?_
 refine RG.ld .d rfl (g1.look (hb1 _)) rfl ?_
 refine RG.calv .d rfl rfl (sayS_ok g1 (by omega) nDisp p.name) (fun _ H2 ⟨v2, g2⟩ => ?_) (fun _ _ h => h.elim)
 have l2 := lenL nDisp p.name
 refine RG.nilS ?_
 generalize hk2 : k1 ++ sayD nDisp p.name = k2 at g2
 have e2 := congrArg List.length hk2
 rw [List.length_append] at e2
 refine AC.seqI (I := fun fr' HX => (∃ v, GW 24 5 (H0.upd b3 (some (.cells [v] 22))) (elsC (k2 ++ maxD p.maxId)) (k2 ++ maxD p.maxId).length v HX) ∧ Agrees fr' [(1, .ptr b1 0), (2, .ptr b2 0), (3, .ptr b3 0), (4, .nils)]) (AC.seq (AC.reg ?_)) ?_
 · refine go1 ?_
   refine RG.ld .d rfl (g2.look (hb1 _)) rfl ?_
   refine go1 ?_
   rw [show (p.maxId != 0) = !(p.maxId == 0) from rfl]
   cases c3 : p.maxId == 0
   case true =>
    have : maxD p.maxId = [] := by rw [maxD, c3]; rfl
    rw [this, List.append_nil]
    exact RG.nilS (AC.cond_f rfl (AC.skip ⟨⟨v2, g2⟩, rfl, rfl, rfl, rfl, trivial⟩))
   have hmx : maxD p.maxId = sayD nMax (digF p.maxId) := by rw [maxD, c3]; rfl
   rw [hmx]
   obtain ⟨m, hm⟩ : ∃ m : Nat, p.maxId = (m : Nat) := ⟨p.maxId.toNat, by omega⟩
   refine RG.nilS (AC.cond_t rfl (AC.reg ?_))
   refine go1 ?_
   refine go1 ?_
   refine RG.ld (d := .int .i64 p.maxId) .d rfl (g2.look (hb1 _)) rfl ?_
   rw [hm]
   refine RG.callP .d rfl (Text_ok m (by omega)) ?_
   refine RG.calv .d rfl rfl (sayS_ok g2 (by omega) nMax (digF (m : Nat))) (fun _ H3 ⟨v3, g3⟩ => ?_) (fun _ _ h => h.elim)
   exact RG.nil ⟨⟨v3, g3⟩, rfl, rfl, rfl, rfl, trivial⟩
 rintro fr1 H3 ⟨⟨v3, g3⟩, hf1⟩
 have lM : (maxD p.maxId).length ≤ 1 := by
  rcases maxD_cases p.maxId with e | ⟨t, e⟩ <;> rw [e]
  · exact Nat.zero_le _
  · exact Nat.le_refl _
 generalize hk3 : k2 ++ maxD p.maxId = k3 at g3
 have e3 := congrArg List.length hk3
 rw [List.length_append] at e3
 refine AC.to _ hf1 ?_
 refine AC.seq ?_
 refine AC.drawP [4, 5] rfl ?_
 refine VP.v 0 rfl (evP_ld rfl (g3.look Hp.upd_same) rfl) ?_
 first|refine VP.z0 1 ?_|refine VP.z1 1 ?_|refine VP.z2 1 ?_|refine VP.z3 1 ?_|refine VP.z4 1 ?_|refine VP.z5 1 ?_|refine VP.z6 1 ?_|refine VP.z7 1 ?_|refine VP.z8 1 ?_
 refine VP.v 2 rfl (evP_ld rfl (g3.look (hb1 _)) rfl) ?_
 refine VP.c 3 (told_ok nRx p.takes (by decide) (by omega)) ?_
 have tl1 := toldD_len nRx p.takes
 refine VP.pe 4 rfl rfl (EF.appw (m := (toldD nRx p.takes).length) (ys := elsC (toldD nRx p.takes)) trivial g3 rfl (elsC_length _) (by show srcD _ 5 (.lst _ _ 5 none) = _; simp [srcD]) (by omega) (by omega)) (fun _ _ _ h => h.elim) (fun v4 H4 g4 => ⟨?_, ?_⟩)
 · exact (by (repeat (refine stabP_cons rfl (by first | exact StabP.of (QV.evP trivial rfl) rfl | exact StabP.of (QV.bsl trivial rfl) rfl | exact StabP.of (QV.evP trivial (evP_ld rfl (g4.look (hb1 _)) rfl)) rfl) ?_)); exact stabP_nil)
 refine VP.pe 5 rfl rfl (EF.sto1 (d := v4) trivial rfl (g4.look Hp.upd_same) rfl g4.cells) (fun _ _ _ h => h.elim) (fun d H5 ⟨f1, f2⟩ => ⟨stabP_nil, ?_⟩)
 subst f1; subst f2
 have g5 := g4.set (k := b3) (o' := .cells [v4] 22) Hp.upd_same
 rw [Hp.upd_upd, ← elsC_append, ← List.length_append] at g5
 generalize hk4 : k3 ++ toldD nRx p.takes = k4 at g5
 have e4 := congrArg List.length hk4
 rw [List.length_append] at e4
 generalize H4.upd b3 (some (.cells [v4] 22)) = H5 at g5
 refine VP.pd ?_
 refine AC.seq ?_
 refine AC.drawP [4, 5] rfl ?_
 refine VP.v 0 rfl (evP_ld rfl (g5.look Hp.upd_same) rfl) ?_
 first|refine VP.z0 1 ?_|refine VP.z1 1 ?_|refine VP.z2 1 ?_|refine VP.z3 1 ?_|refine VP.z4 1 ?_|refine VP.z5 1 ?_|refine VP.z6 1 ?_|refine VP.z7 1 ?_|refine VP.z8 1 ?_
 refine VP.v 2 rfl (evP_ld rfl (g5.look (hb1 _)) rfl) ?_
 refine VP.c 3 (told_ok nTx p.gives (by decide) (by omega)) ?_
 have tl2 := toldD_len nTx p.gives
 refine VP.pe 4 rfl rfl (EF.appw (m := (toldD nTx p.gives).length) (ys := elsC (toldD nTx p.gives)) trivial g5 rfl (elsC_length _) (by show srcD _ 5 (.lst _ _ 5 none) = _; simp [srcD]) (by omega) (by omega)) (fun _ _ _ h => h.elim) (fun v6 H6 g6 => ⟨?_, ?_⟩)
 · exact (by (repeat (refine stabP_cons rfl (by first | exact StabP.of (QV.evP trivial rfl) rfl | exact StabP.of (QV.bsl trivial rfl) rfl | exact StabP.of (QV.evP trivial (evP_ld rfl (g6.look (hb1 _)) rfl)) rfl) ?_)); exact stabP_nil)
 refine VP.pe 5 rfl rfl (EF.sto1 (d := v6) trivial rfl (g6.look Hp.upd_same) rfl g6.cells) (fun _ _ _ h => h.elim) (fun d H7 ⟨f1, f2⟩ => ⟨stabP_nil, ?_⟩)
 subst f1; subst f2
 have g7 := g6.set (k := b3) (o' := .cells [v6] 22) Hp.upd_same
 rw [Hp.upd_upd, ← elsC_append, ← List.length_append] at g7
 generalize hk5 : k4 ++ toldD nTx p.gives = k5 at g7
 have e5 := congrArg List.length hk5
 rw [List.length_append] at e5
 generalize H6.upd b3 (some (.cells [v6] 22)) = H7 at g7
 refine VP.pd ?_
 refine AC.to [(1, .ptr b1 0), (2, .ptr b2 0), (3, .ptr b3 0), (4, .nils)] ⟨rfl, rfl, rfl, rfl, trivial⟩ ?_
 refine AC.seq (AC.seq (AC.reg ?_))
 refine go1 ?_
 refine RG.ld .d rfl (g7.look (hb1 _)) rfl ?_
 refine go ?_
 refine RG.nilS ?_
 refine AC.bloopH (α := Nat × DV) (β := DV) (fun a => p.kinds.length - a.1) (fun a => [(2, .ptr b2 0), (3, .ptr b3 0), (4, a.2), (36, .lst (p.kinds.map (DV.int .i64)) p.kinds.length 1 none), (37, .int .i64 p.kinds.length), (38, .int .i64 a.1)])
  (fun a H' => a.1 ≤ p.kinds.length ∧ GR 24 5 H7 (elsC ((p.kinds.take a.1).map kindD)) ((p.kinds.take a.1).map kindD).length a.2 H') (fun v => [(2, .ptr b2 0), (3, .ptr b3 0), (4, v)])
  (fun v H' => GR 24 5 H7 (elsC (p.kinds.map kindD)) (p.kinds.map kindD).length v H') ?_ ?_ (0, .nils) _ ⟨Nat.zero_le _, GR.nil⟩ ⟨rfl, rfl, rfl, rfl, rfl, rfl, trivial⟩
 · intro vk He fr hk hfr
   refine AC.to _ hfr ?_
   have lk : (p.kinds.map kindD).length = p.kinds.length := List.length_map _
   show AC _ _ _ _ _ _ _ _
   refine AC.seq ?_
   refine AC.drawP [4, 6] rfl ?_
   have hb3v : He b3 = some (.cells [v6] 22) := hk.look (g7.look Hp.upd_same)
   refine VP.v 0 rfl (evP_ld rfl hb3v rfl) ?_
   first|refine VP.z0 1 ?_|refine VP.z1 1 ?_|refine VP.z2 1 ?_|refine VP.z3 1 ?_|refine VP.z4 1 ?_|refine VP.z5 1 ?_|refine VP.z6 1 ?_|refine VP.z7 1 ?_|refine VP.z8 1 ?_
   refine VP.c 2 (Node_ok (KV.of hk) (by omega) 2 nCap) ?_
   refine VP.z8 (cs := elsC [nodeD nCap (p.kinds.map kindD)]) 3 ?_ (hb := by
    have e : elC (.mk 2 nCap [] false (p.kinds.map kindD)) = [.int .i64 2, .str nCap, .str [], .bool false, .lst (elsC (p.kinds.map kindD)) (p.kinds.map kindD).length 5 none] := by rw [elC]
    rw [elsC, elsC, List.append_nil, nodeD, e]; rfl)
   rcases hk with ⟨h0, _⟩ | ⟨bk, hbk, rfl, rfl, _⟩
   · omega
   obtain ⟨x1, x2⟩ := g7.up (o := .front (p.kinds.map kindD).length 5 24) hbk
   have hbase2 : ((H0.upd b3 (some (.cells [v6] 22))).upd bk (some (.front (p.kinds.map kindD).length 5 24))) b2 = some (.cells Z5 24) := by
    rw [Hp.upd_ne (fun e => by rw [← e, hb2] at x1; cases x1)]; exact hb2 _
   have hsub2 : SubH H ((H0.upd b3 (some (.cells [v6] 22))).upd bk (some (.front (p.kinds.map kindD).length 5 24))) := (hsub v6).trans (SubH.fresh x1)
   generalize (H0.upd b3 (some (.cells [v6] 22))).upd bk (some (.front (p.kinds.map kindD).length 5 24)) = HB at x2 hbase2 hsub2
   refine VP.pe 4 rfl rfl (EF.appw (m := 1) (ys := elsC [nodeD nCap (p.kinds.map kindD)]) trivial x2 rfl (elsC_length _) (by show srcD _ 5 (.lst _ _ 5 none) = _; simp [srcD]) (by omega) (by omega)) (fun _ _ _ h => h.elim) (fun v8 H8 g8 => ⟨?_, ?_⟩)
   · exact (by (repeat (refine stabP_cons rfl (by first | exact StabP.of (QV.evP trivial rfl) rfl | exact StabP.of (QV.bsl trivial rfl) rfl) ?_)); exact stabP_nil)
   rw [← elsC_append] at g8
   have hk6 : k5 ++ [nodeD nCap (p.kinds.map kindD)] = (sayD nRef p.ref ++ sayD nDisp p.name ++ maxD p.maxId ++ toldD nRx p.takes ++ toldD nTx p.gives ++ [nodeD nCap (p.kinds.map kindD)]) := by rw [← hk5, ← hk4, ← hk3, ← hk2, ← hk1]
   have e6 : k5.length + 1 = (k5 ++ [nodeD nCap (p.kinds.map kindD)]).length := by rw [List.length_append]; rfl
   rw [e6] at g8
   refine VP.cr 5 (NodeW_ok g8 (by omega) 2 nStore) ?_
   rw [show El.mk 2 nStore [] false (k5 ++ [nodeD nCap (p.kinds.map kindD)]) = storeD p by rw [hk6]; rfl]
   refine VP.pe 6 rfl rfl (EF.sto (cs := Z5) (ty := 24) (ys := elC (storeD p)) (d := .agg (elC (storeD p))) trivial rfl (g8.look hbase2) rfl rfl (elC_length _) (by exact Nat.le_refl _)) (fun _ _ _ h => h.elim) (fun d H9 ⟨f1, f2⟩ => ⟨stabP_nil, ?_⟩)
   subst f1; subst f2
   refine VP.pd ?_
   have hsp : spliceL 0 (elC (storeD p)) Z5 = elC (storeD p) := by rw [eta_el]; rfl
   rw [hsp]
   have hs9 : SubH H (H8.upd b2 (some (.cells (elC (storeD p)) 24))) := by
    intro k o hko
    have hkb : k ≠ b2 := fun e => by rw [e, q2] at hko; cases hko
    rw [Hp.upd_ne hkb]
    exact g8.sub k o (hsub2 k o hko)
   refine AC.ret (finD (ds := [.agg (elC (storeD p))]) (H' := H) ?_ hs9 ⟨rfl, rfl⟩)
   show (ldD _ true 5 (.ptr b2 0)).bind _ = _
   simp only [ldD, Hp.upd_same, ldEl]; rfl
 · rintro ⟨i, v⟩ H' ⟨j2, j3⟩ ih ex
   dsimp only at j2 j3 ih ⊢
   refine AC.seq (AC.reg ?_)
   refine go ?_
   cases x1 : decide ((i : Int) < p.kinds.length)
   · have e := of_decide_eq_false x1
     rw [List.take_of_length_le (by omega)] at j3
     exact RG.nilS (AC.seq (AC.cond_f rfl (AC.exit (ex v _ _ j3 ⟨rfl, rfl, rfl, trivial⟩))))
   · have e := of_decide_eq_true x1
     have hi : i < p.kinds.length := by omega
     have hk := kinds_take p.kinds i hi
     have hkl : ((p.kinds.take i).map kindD).length ≤ 8 := by rw [List.length_map, List.length_take]; omega
     have hm := hkk _ (List.getElem_mem hi)
     refine RG.nilS (AC.seq (AC.cond_t rfl (AC.skip (AC.seq (AC.block (AC.seq (AC.reg ?_)))))))
     refine RG.p .d (evP_iadr wh wh (by omega)) ?_
     refine RG.p .d (evP_ldc wh (partD_one (d := DV.int .i64 p.kinds[i]) (by simp [hi]))) ?_
     generalize p.kinds[i] = x at hk hm
     obtain ⟨m, rfl⟩ : ∃ m : Nat, x = (m : Nat) := ⟨x.toNat, by omega⟩
     have hT := Text_ok (G := G) m (by omega)
     have hkd : kindD ((m : Nat) : Int) = leafD nSync (digF (m : Nat)) := rfl
     rw [hkd] at hk
     generalize digF (m : Nat) = t at hT hk
     refine go1 ?_
     refine RG.nilS (AC.reg ?_)
     refine go1 ?_
     refine go1 ?_
     refine RG.callP .d rfl hT ?_
     refine RG.callP .d rfl (Leaf_ok 2 nSync t) ?_
     refine RG.bslF (cs := elsC [leafD nSync t]) .d rfl ?_
     refine GR.app (m := 1) (ys := elsC [leafD nSync t]) .d j3 rfl (by show srcD _ 5 (.lst (elsC [leafD nSync t]) 1 5 none) = _; simp [srcD]) (by omega) (by omega) fun v' A' hv' => ?_
     refine go ?_
     refine RG.nil (AC.reg ?_)
     refine go ?_
     refine RG.nil (ih (i + 1, v') _ ⟨by dsimp only; omega, ?_⟩ (by dsimp only; omega) _ ⟨rfl, rfl, rfl, rfl, rfl, rfl, trivial⟩)
     dsimp only
     rw [hk, elsC_append, List.length_append]; exact hv'
def F27 : FN := ⟨63, (.seq (.reg [ji 1 (.box 28 (.t 0)), ji 2 (.alloc [(.int .i64 0), (.str []), (.str []), (.bool false), .nils] 24), ji 3 (.mv (ci 0))])
 (.seq (.seq (.reg [ji 9 (.ld true 7 (.t 1)), ji 10 (.call 76 [(.t 9)]), ji 4 (.mv (.t 10))])
 (.seq (.reg [ji 11 (.mv (.t 4)), ji 12 (.bin .neq (.t 11) (ci 0))])
 (.cond (.t 12) (.seq (.reg [ji 13 (.bld [(.int .i64 0), (.str []), (.str []), (.bool false), .nils] []), ji 14 (.mv (.t 4)), jn (.st 5 (.t 2) (.t 13)), ji 3 (.mv (.t 14))])
 .ret)
 .skip)))
 (.seq (.reg [ji 5 (.alloc [.nils] 22)])
 (.seq (.reg [ji 15 (.mkfn (.func 77) [] [(.t 5)]), ji 6 (.mv (.t 15))])
 (.seq (.reg [ji 16 (.mv (.t 6)), ji 17 (.calv (.t 16) [(.c (.str [86, 101, 114, 68, 84, 68])), (.c (.str [49, 46, 50]))])])
 (.seq (.reg [ji 18 (.mv (.t 6)), ji 19 (.fadr 0 (.t 1)), ji 20 (.ld false 1 (.t 19)), ji 21 (.calv (.t 18) [(.c (.str [77, 97, 110])), (.t 20)])])
 (.seq (.reg [ji 22 (.mv (.t 6)), ji 23 (.fadr 1 (.t 1)), ji 24 (.ld false 1 (.t 23)), ji 25 (.calv (.t 22) [(.c (.str [77, 111, 100])), (.t 24)])])
 (.seq (.reg [ji 26 (.mv (.t 6)), ji 27 (.fadr 2 (.t 1)), ji 28 (.ld false 1 (.t 27)), ji 29 (.calv (.t 26) [(.c (.str [83, 119, 86])), (.t 28)])])
 (.seq (.reg [ji 30 (.mv (.t 6)), ji 31 (.fadr 3 (.t 1)), ji 32 (.ld false 1 (.t 31)), ji 33 (.calv (.t 30) [(.c (.str [68, 101, 118, 73, 68])), (.t 32)])])
 (.seq (.reg [ji 34 (.mv (.t 6)), ji 35 (.fadr 4 (.t 1)), ji 36 (.ld false 1 (.t 35)), ji 37 (.calv (.t 34) [(.c (.str [68, 101, 118, 84, 121, 112])), (.t 36)])])
 (.seq (.seq (.reg [ji 38 (.fadr 5 (.t 1)), ji 39 (.ld false 1 (.t 38))])
 (.cond (.t 39) (.draw [ji 40 (.ld false 1 (.t 5)), ji 41 (.call 78 [(ci 2), (.c (.str [83, 117, 112, 112, 111, 114, 116, 76, 97, 114, 103, 101, 79, 98, 106, 115])), (.c .nils)]), ji 42 (.len false (.t 40)), ji 43 (.bsl 24 1 5 [(.int .i64 0), (.str []), (.str []), (.bool false), .nils] [(0, 5, (.c (.agg [(.int .i64 0), (.str []), (.str []), (.bool false), .nils])))]), ji 44 (.app 24 5 72 (.t 40) (.t 43)), ji 45 (.iadr 5 (.t 44) (.t 42)), jn (.st 5 (.t 45) (.t 41)), jn (.st 1 (.t 5) (.t 44))] [[], [], [0], [], [0, 3, 1, 0, 1, 2, 3], [4, 2, 0, 1, 2, 3, 4], [5, 1, 4, 0, 1, 2, 3, 4], [4, 4, 0, 1, 2, 3, 4]])
 .skip))
 (.seq (.seq (.reg [ji 46 (.fadr 6 (.t 1)), ji 47 (.ld false 1 (.t 46)), ji 48 (.len false (.t 47)), ji 49 (.mv (ci 0))])
 (.block 0 (.loop (.seq (.reg [ji 50 (.bin .lss (.t 49) (.t 48))])
 (.seq (.cond (.t 50) .skip
 (.exit 0))
 (.seq (.block 1 (.seq (.reg [ji 51 (.iadr 6 (.t 47) (.t 49)), ji 52 (.ld true 6 (.t 51)), ji 8 (.alloc [(.str []), (.str []), (.int .i64 0), .nils, .nils, .nils] 56), jn (.st 6 (.t 8) (.t 52))])
 (.draw [ji 53 (.ld false 1 (.t 5)), ji 54 (.ld true 6 (.t 8)), ji 55 (.call 79 [(.t 54)]), ji 56 (.len false (.t 53)), ji 57 (.bsl 24 1 5 [(.int .i64 0), (.str []), (.str []), (.bool false), .nils] [(0, 5, (.c (.agg [(.int .i64 0), (.str []), (.str []), (.bool false), .nils])))]), ji 58 (.app 24 5 72 (.t 53) (.t 57)), ji 59 (.iadr 5 (.t 58) (.t 56)), jn (.st 5 (.t 59) (.t 55)), jn (.st 1 (.t 5) (.t 58))] [[], [], [1], [0], [], [0, 4, 2, 0, 1, 2, 3, 4], [5, 3, 0, 1, 2, 3, 4, 5], [6, 2, 5, 0, 1, 2, 3, 4, 5], [5, 5, 0, 1, 2, 3, 4, 5]])))
 (.reg [ji 60 (.bin .add (.t 49) (ci 1)), ji 49 (.mv (.t 60))])))))))
 (.seq (.reg [ji 61 (.ld false 1 (.t 5)), ji 62 (.call 78 [(ci 2), (.c (.str [68, 101, 118, 73, 110, 102])), (.t 61)]), jn (.st 5 (.t 2) (.t 62)), ji 3 (.mv (ci 0))])
 .ret))))))))))))), [.cell 2 true 5, .tmp 3]⟩
theorem cF27 : cFn prog 27 = some F27 := by kernel_rfl
theorem El0_le : DLe (.agg Z5) (.agg (elC El0)) := by
 have : elC El0 = [.int .i64 0, .str [], .str [], .bool false, .lst [] 0 5 none] := by rw [El0, elC]; rfl
 rw [this]
 exact (DLes.cons (DLe.refl _) (.cons (DLe.refl _) (.cons (DLe.refl _) (.cons (DLe.refl _) (.cons DLe.nils .nil))))).agg
theorem elemDev_ok (hG : GOK G) (d : Dvc) : PF prog G 27 [.agg (dvcC d)] (.tup [.agg (elC (elemDF d).1), .int .i64 (elemDF d).2]) := by
 intro H
 refine CALL.of cF27 (Nat.le_of_ble_eq_true rfl) ?_
 refine AC.seq (AC.reg ?_)
 refine RG.box (d := .agg (dvcC d)) (ys := dvcC d) .d rfl rfl fun b1 q1 => ?_
 refine RG.alloc .d fun b2 q2 => ?_
 have n21 : b2 ≠ b1 := fun e => by rw [e, Hp.upd_same] at q2; cases q2
 rw [Hp.upd_ne n21] at q2
 refine go1 ?_
 refine RG.nilS (AC.seq (AC.seq (AC.reg ?_)))
 refine RG.ld (d := .agg (dvcC d)) .d wh (by rw [Hp.upd_ne (Ne.symm n21)]; exact Hp.upd_same) (ldDev d) ?_
 refine RG.callP .d rfl (checkDev_ok hG d) ?_
 refine au ?_
 rw [show (checkD d != 0) = !(checkD d == 0) from rfl]
 cases c0 : checkD d == 0
 case false =>
  refine au ?_
  have hE : elemDF d = (El0, checkD d) := by rw [elemDF, c0]; rfl
  refine AC.ret ⟨[.agg Z5, .int .i64 (checkD d)], _, H, ?_, Cv.of ((DLes.cons El0_le (.cons (DLe.refl _) .nil)).tup) ?_, by rw [hE], rfl⟩
  · show (ldD _ true 5 (.ptr b2 0)).bind _ = _
    simp only [ldD, Hp.upd_same]; rfl
  · rw [Hp.upd_upd]; exact SubH.over (SubH.over (SubH.refl H) q1) q2
 have hc0 : checkD d = 0 := by simpa using c0
 have hE : elemDF d = (elemD d, 0) := by rw [elemDF, c0]; rfl
 rw [hE]
 obtain ⟨⟨p1, p2⟩, hp, _⟩ := checkD_ok hc0
 refine AC.cond_f rfl ?_
 refine AC.skip ?_
 refine AC.seq (AC.reg ?_)
 refine RG.alloc .d fun b5 q5 => ?_
 have n52 : b5 ≠ b2 := fun e => by rw [e, Hp.upd_same] at q5; cases q5
 rw [Hp.upd_ne n52] at q5
 have n51 : b5 ≠ b1 := fun e => by rw [e, Hp.upd_same] at q5; cases q5
 rw [Hp.upd_ne n51] at q5
 generalize hH0 : (H.upd b1 (some (.cells (dvcC d) 28))).upd b2 (some (.cells Z5 24)) = H0
 have hH0' : ((H.upd b1 (some (.cells (dvcC d) 28))).upd b2 (some (.cells [.int .i64 0, .str [], .str [], .bool false, .nils] 24))) = H0 := hH0
 rw [hH0']
 have hb1 : ∀ v, (H0.upd b5 (some (.cells [v] 22))) b1 = some (.cells (dvcC d) 28) := fun v => by rw [Hp.upd_ne (Ne.symm n51), ← hH0, Hp.upd_ne (Ne.symm n21)]; exact Hp.upd_same
 have hb2 : ∀ v, (H0.upd b5 (some (.cells [v] 22))) b2 = some (.cells Z5 24) := fun v => by rw [Hp.upd_ne (Ne.symm n52), ← hH0]; exact Hp.upd_same
 have hsub : ∀ v, SubH H (H0.upd b5 (some (.cells [v] 22))) := fun v => by rw [← hH0]; exact SubH.over (SubH.over (SubH.over (SubH.refl H) q1) q2) q5
 rw [dvcC] at hb1
 have hg0 : GW 24 5 (H0.upd b5 (some (.cells [.nils] 22))) (elsC []) ([] : List El).length .nils (H0.upd b5 (some (.cells [.nils] 22))) := GW.nil
 have lenL : ∀ (n t : List UInt8), (sayD n t).length ≤ 1 := fun n t => by
  rcases sayD_cases n t with e | e <;> rw [e]
  · exact Nat.zero_le _
  · exact Nat.le_refl _
 have ll1 := lenL nDTD dtdF; have ll2 := lenL nMan d.man; have ll3 := lenL nMod d.mod_; have ll4 := lenL nSwV d.soft; have ll5 := lenL nDevID d.id; have ll6 := lenL nDevTyp d.type
 refine au ?_
 refine RG.calv .d rfl rfl (sayE_ok hg0 (by simp) nDTD dtdF) (fun _ H1 ⟨v1, g1⟩ => ?_) (fun _ _ h => h.elim)
 rw [List.nil_append] at g1
 generalize hk1 : sayD nDTD dtdF = k1 at g1 ll1
 refine au ?_
 refine RG.ld .d rfl (g1.look (hb1 _)) rfl ?_
 refine RG.calv .d rfl rfl (sayE_ok g1 (by omega) nMan d.man) (fun _ H2 ⟨v2, g2⟩ => ?_) (fun _ _ h => h.elim)
 generalize hk2 : k1 ++ sayD nMan d.man = k2 at g2
 have e2 := congrArg List.length hk2
 rw [List.length_append] at e2
 refine au ?_
 refine RG.ld .d rfl (g2.look (hb1 _)) rfl ?_
 refine RG.calv .d rfl rfl (sayE_ok g2 (by omega) nMod d.mod_) (fun _ H3 ⟨v3, g3⟩ => ?_) (fun _ _ h => h.elim)
 generalize hk3 : k2 ++ sayD nMod d.mod_ = k3 at g3
 have e3 := congrArg List.length hk3
 rw [List.length_append] at e3
 refine au ?_
 refine RG.ld .d rfl (g3.look (hb1 _)) rfl ?_
 refine RG.calv .d rfl rfl (sayE_ok g3 (by omega) nSwV d.soft) (fun _ H4 ⟨v4, g4⟩ => ?_) (fun _ _ h => h.elim)
 generalize hk4 : k3 ++ sayD nSwV d.soft = k4 at g4
 have e4 := congrArg List.length hk4
 rw [List.length_append] at e4
 refine au ?_
 refine RG.ld .d rfl (g4.look (hb1 _)) rfl ?_
 refine RG.calv .d rfl rfl (sayE_ok g4 (by omega) nDevID d.id) (fun _ H5 ⟨v5, g5⟩ => ?_) (fun _ _ h => h.elim)
 generalize hk5 : k4 ++ sayD nDevID d.id = k5 at g5
 have e5 := congrArg List.length hk5
 rw [List.length_append] at e5
 refine au ?_
 refine RG.ld .d rfl (g5.look (hb1 _)) rfl ?_
 refine RG.calv .d rfl rfl (sayE_ok g5 (by omega) nDevTyp d.type) (fun _ H6 ⟨v6, g6⟩ => ?_) (fun _ _ h => h.elim)
 generalize hk6 : k5 ++ sayD nDevTyp d.type = k6 at g6
 have e6 := congrArg List.length hk6
 rw [List.length_append] at e6
 refine RG.nilS ?_
 generalize hlg : (bif d.large then [nodeD nLarge []] else []) = lg
 have llg : lg.length ≤ 1 := by rw [← hlg]; cases d.large <;> decide
 refine AC.seqI (I := fun fr' HX => (∃ v, GW 24 5 (H0.upd b5 (some (.cells [v] 22))) (elsC (k6 ++ lg)) (k6 ++ lg).length v HX) ∧ Agrees fr' [(1, .ptr b1 0), (2, .ptr b2 0), (5, .ptr b5 0)]) (AC.seq (AC.reg ?_)) ?_
 · refine go1 ?_
   refine RG.ld .d rfl (g6.look (hb1 _)) rfl ?_
   cases hla : d.large
   case false =>
    rw [hla, cond_false] at hlg
    subst hlg
    rw [List.append_nil]
    exact RG.nilS (AC.cond_f rfl (AC.skip ⟨⟨v6, g6⟩, rfl, rfl, rfl, trivial⟩))
   rw [hla, cond_true] at hlg
   refine RG.nilS ?_
   refine AC.cond_t rfl ?_
   refine AC.drawP [4, 6, 7] rfl ?_
   refine VP.v 0 rfl (evP_ld rfl (g6.look Hp.upd_same) rfl) ?_
   refine VP.c 1 (Node_ok (ks := []) (.inl ⟨rfl, rfl⟩) (by simp) 2 nLarge) ?_
   refine VP.v 2 rfl (g6.len rfl) ?_
   refine VP.z8 (cs := Z5) 3 ?_ (hb := rfl)
   refine VP.appset (d := .agg (elC (nodeD nLarge []))) (ys := elC (nodeD nLarge [])) (zs := Z5) 4 5 6 7 rfl rfl rfl rfl g6 rfl rfl rfl (elsC_length _) (fun f h => (h 42 (by decide) (by decide)).trans rfl) (fun f h => (h 41 (by decide) (by decide)).trans rfl) (fun f h => (h 5 (by decide) (by decide)).trans rfl) (by decide) rfl (elC_length _) (by omega) rfl rfl rfl rfl (by decide) rfl rfl rfl ?_
   intro v' p H' hv'
   refine ⟨⟨v', ?_⟩, rfl, rfl, rfl, trivial⟩
   rw [← hlg, elsC_append, List.length_append]
   have : elsC [nodeD nLarge []] = elC (nodeD nLarge []) := by rw [elsC, elsC, List.append_nil]
   rw [this]; exact hv'
 rintro fr1 H7 ⟨⟨v7, g7⟩, hf1⟩
 generalize hk7 : k6 ++ lg = k7 at g7
 have e7 := congrArg List.length hk7
 rw [List.length_append] at e7
 refine AC.to _ hf1 ?_
 refine AC.seq (AC.seq (AC.reg ?_))
 refine go1 ?_
 refine RG.ld .d rfl (g7.look (hb1 _)) rfl ?_
 refine go ?_
 refine RG.nilS ?_
 refine AC.bloopH (α := Nat × DV) (β := DV) (fun a => d.places.length - a.1) (fun a => [(2, .ptr b2 0), (5, .ptr b5 0), (47, .lst (plcsC d.places) d.places.length 6 none), (48, .int .i64 d.places.length), (49, .int .i64 a.1)])
  (fun a H' => a.1 ≤ d.places.length ∧ GW 24 5 (H0.upd b5 (some (.cells [a.2] 22))) (elsC (k7 ++ (d.places.take a.1).map storeD)) (k7 ++ (d.places.take a.1).map storeD).length a.2 H') (fun _ => [(2, .ptr b2 0), (5, .ptr b5 0)])
  (fun v H' => GW 24 5 (H0.upd b5 (some (.cells [v] 22))) (elsC (k7 ++ d.places.map storeD)) (k7 ++ d.places.map storeD).length v H') ?_ ?_ (0, v7) _ ⟨Nat.zero_le _, by dsimp only; rw [List.take_zero, List.map_nil, List.append_nil]; exact g7⟩ ⟨rfl, rfl, rfl, rfl, rfl, trivial⟩
 · intro v8 He fr g8 hfr
   refine AC.to _ hfr ?_
   show AC _ _ _ _ _ _ _ _
   refine AC.seq (AC.reg ?_)
   refine RG.ld .d rfl (g8.look Hp.upd_same) rfl ?_
   have e8 : (k7 ++ d.places.map storeD).length ≤ 1000 := by rw [List.length_append, List.length_map]; omega
   refine RG.callR .d rfl (NodeW_ok g8 (by omega) 2 nDev) ?_
   have hkk : k7 ++ d.places.map storeD = sayD nDTD dtdF ++ sayD nMan d.man ++ sayD nMod d.mod_ ++ sayD nSwV d.soft ++ sayD nDevID d.id ++ sayD nDevTyp d.type ++ (bif d.large then [nodeD nLarge []] else []) ++ d.places.map storeD := by rw [← hk7, ← hk6, ← hk5, ← hk4, ← hk3, ← hk2, ← hk1, ← hlg]
   rw [show El.mk 2 nDev [] false (k7 ++ d.places.map storeD) = elemD d by rw [hkk]; rfl]
   refine RG.sto (cs := Z5) (ty := 24) (d := .agg (elC (elemD d))) (ys := elC (elemD d)) .d rfl (g8.look (hb2 _)) (by exact rfl) rfl (elC_length _) (by exact Nat.le_refl _) ?_
   have hsp : spliceL 0 (elC (elemD d)) Z5 = elC (elemD d) := by rw [eta_el]; rfl
   rw [hsp]
   refine go ?_
   have hs9 : SubH H (He.upd b2 (some (.cells (elC (elemD d)) 24))) := by
    intro k o hko
    have hkb : k ≠ b2 := fun e => by rw [e, q2] at hko; cases hko
    rw [Hp.upd_ne hkb]
    exact g8.sub k o (hsub v8 k o hko)
   refine RG.nilS (AC.ret (finD (ds := [.agg (elC (elemD d)), .int .i64 0]) (H' := H) ?_ hs9 ⟨rfl, rfl⟩))
   show (ldD _ true 5 (.ptr b2 0)).bind _ = _
   simp only [ldD, Hp.upd_same, ldEl]; rfl
 · rintro ⟨i, v⟩ H' ⟨j2, j3⟩ ih ex
   dsimp only at j2 j3 ih ⊢
   refine AC.seq (AC.reg ?_)
   refine go ?_
   cases x1 : decide ((i : Int) < d.places.length)
   · have e := of_decide_eq_false x1
     rw [List.take_of_length_le (by omega)] at j3
     exact RG.nilS (AC.seq (AC.cond_f rfl (AC.exit (ex v _ _ j3 ⟨rfl, rfl, trivial⟩))))
   · have e := of_decide_eq_true x1
     have hi : i < d.places.length := by omega
     have hk : (d.places.take (i + 1)).map storeD = (d.places.take i).map storeD ++ [storeD d.places[i]] := by rw [List.take_succ_eq_append_getElem hi, List.map_append]; rfl
     have hkl : (k7 ++ (d.places.take i).map storeD).length ≤ 100 := by rw [List.length_append, List.length_map, List.length_take]; omega
     have hm := hp _ (List.getElem_mem hi)
     have hrow := rowD (sz := 6) plcC (fun _ => rfl) d.places i _ (List.getElem?_eq_getElem hi)
     have hrow' : partD true 0 6 ((plcsC d.places).drop (((i : Nat) : Int).toNat * 6)) = some (.agg (plcC d.places[i])) := partD_row (i := i) (sz := 6) hrow (by rw [plcsC_length]; omega)
     refine RG.nilS (AC.seq (AC.cond_t rfl (AC.skip (AC.seq (AC.block (AC.seq (AC.reg ?_)))))))
     refine RG.p .d (evP_iadr wh wh (by omega)) ?_
     refine RG.p .d (evP_ldc wh hrow') ?_
     generalize d.places[i] = pl at hk hm
     refine RG.alloc .d fun q hq => ?_
     refine RG.sto (d := .agg (plcC pl)) (ys := plcC pl) (cs := [.str [], .str [], .int .i64 0, .nils, .nils, .nils]) (ty := 56) .d wh Hp.upd_same (by exact rfl) rfl rfl (by exact Nat.le_refl _) ?_
     rw [Hp.upd_upd]
     have hsp : spliceL 0 (plcC pl) [.str [], .str [], .int .i64 0, .nils, .nils, .nils] = plcC pl := rfl
     rw [hsp]
     obtain ⟨x2, x3⟩ := j3.up (o := .cells (plcC pl) 56) hq
     have hqb : q ≠ b5 := fun e => by rw [e, Hp.upd_same] at x2; cases x2
     rw [Hp.upd_comm (Ne.symm hqb)] at x3
     have hqq : (H'.upd q (some (.cells (plcC pl) 56))) q = some (.cells (plcC pl) 56) := Hp.upd_same
     generalize H'.upd q (some (.cells (plcC pl) 56)) = HQ at x3 hqq
     refine RG.nilS (AC.drawP [5, 7, 8] rfl ?_)
     refine VP.v 0 rfl (evP_ld rfl (x3.look Hp.upd_same) rfl) ?_
     refine VP.v (d := .agg (plcC pl)) 1 rfl (evP_ld rfl hqq rfl) ?_
     refine VP.c 2 (store_ok pl hm) ?_
     refine VP.v 3 rfl (x3.len rfl) ?_
     refine VP.z8 (cs := Z5) 4 ?_ (hb := rfl)
     refine VP.appset (d := .agg (elC (storeD pl))) (ys := elC (storeD pl)) (zs := Z5) 5 6 7 8 rfl rfl rfl rfl x3 rfl rfl rfl (elsC_length _) (fun f h => (h 56 (by decide) (by decide)).trans rfl) (fun f h => (h 55 (by decide) (by decide)).trans rfl) (fun f h => (h 5 (by decide) (by decide)).trans rfl) (by decide) rfl (elC_length _) (by omega) rfl rfl rfl rfl (by decide) rfl rfl rfl ?_
     intro v' p H9 hv'
     rw [Hp.upd_comm hqb] at hv'
     rw [Hp.upd_ne hqb] at x2
     obtain ⟨A2, y1, y2⟩ := hv'.down (by rw [Hp.upd_ne hqb]; exact x2)
     refine AC.drop y2 (AC.reg ?_)
     refine go ?_
     refine RG.nil (ih (i + 1, v') _ ⟨by dsimp only; omega, ?_⟩ (by dsimp only; omega) _ ⟨rfl, rfl, rfl, rfl, rfl, trivial⟩)
     dsimp only
     rw [hk, ← List.append_assoc, elsC_append, List.length_append]
     have : elsC [storeD pl] = elC (storeD pl) := by rw [elsC, elsC, List.append_nil]
     rw [this]; exact y1
def F130 : FN := ⟨14, (.seq (.reg [ji 2 (.mv (.c (.str [])))])
 (.seq (.seq (.reg [ji 3 (.mv (.t 0)), ji 4 (.bin .lss (.t 3) (ci 0)), ji 5 (.mv (.t 4)), jg 6 5 false (.mv (.t 0)), jg 7 5 false (.bin .gtr (.t 6) (ci 2)), ji 8 (.pick (.t 5) (.c (.bool true)) (.t 7))])
 (.cond (.t 8) (.seq (.reg [ji 2 (.mv (.c (.str [63])))])
 .ret)
 .skip))
 (.seq (.reg [ji 9 (.mv (.t 0)), ji 10 (.conv .u8 (.t 9)), ji 11 (.bin .add (.c (.int .u8 48)) (.t 10)), ji 12 (.bsl 5 1 1 [(.int .u8 0)] [(0, 1, (.t 11))]), ji 13 (.b2s (.t 12)), ji 2 (.mv (.t 13))])
 .ret))), [.tmp 2]⟩
theorem cF130 : cFn prog 130 = some F130 := by kernel_rfl
def F72 : FN := ⟨53, (.seq (.reg [ji 4 (.mv (.c (.str []))), ji 5 (.mv (.c (.bool false)))])
 (.seq (.seq (.reg [ji 12 (.mv (.t 1)), ji 13 (.call 129 [(.t 12), (.c (.str [32, 10]))]), ji 14 (.mv (.t 13)), jg 15 14 false (.mv (.t 1)), jg 16 14 false (.bin .eql (.t 15) (.c (.str []))), ji 17 (.pick (.t 14) (.c (.bool true)) (.t 16))])
 (.cond (.t 17) (.seq (.reg [ji 4 (.mv (.c (.str []))), ji 5 (.mv (.c (.bool false)))])
 .ret)
 .skip))
 (.seq (.reg [ji 18 (.mv (.t 0)), ji 19 (.call 130 [(.t 18)]), ji 20 (.bin .add (.c (.str [10])) (.t 19)), ji 21 (.bin .add (.t 20) (.c (.str [32]))), ji 22 (.mv (.t 1)), ji 23 (.bin .add (.t 21) (.t 22)), ji 6 (.mv (.t 23))])
 (.seq (.reg [ji 7 (.mv (.c (.str [10, 48, 32, 83, 121, 110, 99, 77, 76, 32, 83, 121, 110, 99, 72, 100, 114, 32, 83, 121, 110, 99, 66, 111, 100, 121, 10, 48, 32, 83, 121, 110, 99, 72, 100, 114, 32, 86, 101, 114, 68, 84, 68, 32, 86, 101, 114, 80, 114, 111, 116, 111, 32, 83, 101, 115, 115, 105, 111, 110, 73, 68, 32, 77, 115, 103, 73, 68, 32, 84, 97, 114, 103, 101, 116, 32, 83, 111, 117, 114, 99, 101, 32, 67, 114, 101, 100, 63, 32, 77, 101, 116, 97, 63, 10, 48, 32, 83, 121, 110, 99, 66, 111, 100, 121, 32, 65, 108, 101, 114, 116, 124, 71, 101, 116, 124, 77, 97, 112, 124, 80, 117, 116, 124, 82, 101, 115, 117, 108, 116, 115, 124, 83, 116, 97, 116, 117, 115, 124, 83, 121, 110, 99, 42, 32, 70, 105, 110, 97, 108, 63, 10, 48, 32, 65, 108, 101, 114, 116, 32, 67, 109, 100, 73, 68, 32, 68, 97, 116, 97, 63, 32, 73, 116, 101, 109, 42, 10, 48, 32, 83, 121, 110, 99, 32, 67, 109, 100, 73, 68, 32, 84, 97, 114, 103, 101, 116, 63, 32, 83, 111, 117, 114, 99, 101, 63, 32, 77, 101, 116, 97, 63, 32, 78, 117, 109, 98, 101, 114, 79, 102, 67, 104, 97, 110, 103, 101, 115, 63, 32, 65, 100, 100, 124, 68, 101, 108, 101, 116, 101, 124, 82, 101, 112, 108, 97, 99, 101, 42, 10, 48, 32, 65, 100, 100, 32, 67, 109, 100, 73, 68, 32, 77, 101, 116, 97, 63, 32, 73, 116, 101, 109, 43, 10, 48, 32, 82, 101, 112, 108, 97, 99, 101, 32, 67, 109, 100, 73, 68, 32, 77, 101, 116, 97, 63, 32, 73, 116, 101, 109, 43, 10, 48, 32, 68, 101, 108, 101, 116, 101, 32, 67, 109, 100, 73, 68, 32, 77, 101, 116, 97, 63, 32, 73, 116, 101, 109, 43, 10, 48, 32, 73, 116, 101, 109, 32, 84, 97, 114, 103, 101, 116, 63, 32, 83, 111, 117, 114, 99, 101, 63, 32, 77, 101, 116, 97, 63, 32, 68, 97, 116, 97, 63, 32, 77, 111, 114, 101, 68, 97, 116, 97, 63, 10, 48, 32, 77, 97, 112, 32, 67, 109, 100, 73, 68, 32, 84, 97, 114, 103, 101, 116, 32, 83, 111, 117, 114, 99, 101, 32, 77, 101, 116, 97, 63, 32, 77, 97, 112, 73, 116, 101, 109, 43, 10, 48, 32, 77, 97, 112, 73, 116, 101, 109, 32, 84, 97, 114, 103, 101, 116, 32, 83, 111, 117, 114, 99, 101, 10, 48, 32, 83, 116, 97, 116, 117, 115, 32, 67, 109, 100, 73, 68, 32, 77, 115, 103, 82, 101, 102, 32, 67, 109, 100, 82, 101, 102, 32, 67, 109, 100, 32, 84, 97, 114, 103, 101, 116, 82, 101, 102, 42, 32, 83, 111, 117, 114, 99, 101, 82, 101, 102, 42, 32, 67, 104, 97, 108, 63, 32, 68, 97, 116, 97, 32, 73, 116, 101, 109, 42, 10, 48, 32, 67, 104, 97, 108, 32, 77, 101, 116, 97, 10, 48, 32, 67, 114, 101, 100, 32, 77, 101, 116, 97, 63, 32, 68, 97, 116, 97, 10, 48, 32, 80, 117, 116, 32, 67, 109, 100, 73, 68, 32, 77, 101, 116, 97, 63, 32, 73, 116, 101, 109, 43, 10, 48, 32, 71, 101, 116, 32, 67, 109, 100, 73, 68, 32, 77, 101, 116, 97, 63, 32, 73, 116, 101, 109, 43, 10, 48, 32, 82, 101, 115, 117, 108, 116, 115, 32, 67, 109, 100, 73, 68, 32, 77, 115, 103, 82, 101, 102, 63, 32, 67, 109, 100, 82, 101, 102, 32, 77, 101, 116, 97, 63, 32, 73, 116, 101, 109, 43, 10, 48, 32, 84, 97, 114, 103, 101, 116, 32, 76, 111, 99, 85, 82, 73, 32, 76, 111, 99, 78, 97, 109, 101, 63, 10, 48, 32, 83, 111, 117, 114, 99, 101, 32, 76, 111, 99, 85, 82, 73, 32, 76, 111, 99, 78, 97, 109, 101, 63, 10, 48, 32, 77, 101, 116, 97, 32, 49, 46, 70, 111, 114, 109, 97, 116, 63, 32, 49, 46, 84, 121, 112, 101, 63, 32, 49, 46, 83, 105, 122, 101, 63, 32, 49, 46, 65, 110, 99, 104, 111, 114, 63, 32, 49, 46, 86, 101, 114, 115, 105, 111, 110, 63, 32, 49, 46, 78, 101, 120, 116, 78, 111, 110, 99, 101, 63, 32, 49, 46, 77, 97, 120, 77, 115, 103, 83, 105, 122, 101, 63, 32, 49, 46, 77, 97, 120, 79, 98, 106, 83, 105, 122, 101, 63, 10, 48, 32, 68, 97, 116, 97, 32, 84, 69, 88, 84, 32, 50, 46, 68, 101, 118, 73, 110, 102, 63, 10, 49, 32, 65, 110, 99, 104, 111, 114, 32, 76, 97, 115, 116, 63, 32, 78, 101, 120, 116, 10, 50, 32, 68, 101, 118, 73, 110, 102, 32, 86, 101, 114, 68, 84, 68, 32, 77, 97, 110, 63, 32, 77, 111, 100, 63, 32, 83, 119, 86, 63, 32, 68, 101, 118, 73, 68, 32, 68, 101, 118, 84, 121, 112, 32, 83, 117, 112, 112, 111, 114, 116, 76, 97, 114, 103, 101, 79, 98, 106, 115, 63, 32, 68, 97, 116, 97, 83, 116, 111, 114, 101, 43, 10, 50, 32, 68, 97, 116, 97, 83, 116, 111, 114, 101, 32, 83, 111, 117, 114, 99, 101, 82, 101, 102, 32, 68, 105, 115, 112, 108, 97, 121, 78, 97, 109, 101, 63, 32, 77, 97, 120, 71, 85, 73, 68, 83, 105, 122, 101, 63, 32, 82, 120, 80, 114, 101, 102, 32, 82, 120, 42, 32, 84, 120, 80, 114, 101, 102, 32, 84, 120, 42, 32, 83, 121, 110, 99, 67, 97, 112, 10, 50, 32, 82, 120, 80, 114, 101, 102, 32, 67, 84, 84, 121, 112, 101, 32, 86, 101, 114, 67, 84, 10, 50, 32, 82, 120, 32, 67, 84, 84, 121, 112, 101, 32, 86, 101, 114, 67, 84, 10, 50, 32, 84, 120, 80, 114, 101, 102, 32, 67, 84, 84, 121, 112, 101, 32, 86, 101, 114, 67, 84, 10, 50, 32, 84, 120, 32, 67, 84, 84, 121, 112, 101, 32, 86, 101, 114, 67, 84, 10, 50, 32, 83, 121, 110, 99, 67, 97, 112, 32, 83, 121, 110, 99, 84, 121, 112, 101, 43, 10, 48, 32, 70, 105, 110, 97, 108, 10, 48, 32, 77, 111, 114, 101, 68, 97, 116, 97, 10, 50, 32, 83, 117, 112, 112, 111, 114, 116, 76, 97, 114, 103, 101, 79, 98, 106, 115, 10, 48, 32, 86, 101, 114, 68, 84, 68, 32, 84, 69, 88, 84, 10, 48, 32, 86, 101, 114, 80, 114, 111, 116, 111, 32, 84, 69, 88, 84, 10, 48, 32, 83, 101, 115, 115, 105, 111, 110, 73, 68, 32, 84, 69, 88, 84, 10, 48, 32, 77, 115, 103, 73, 68, 32, 84, 69, 88, 84, 10, 48, 32, 67, 109, 100, 73, 68, 32, 84, 69, 88, 84, 10, 48, 32, 78, 117, 109, 98, 101, 114, 79, 102, 67, 104, 97, 110, 103, 101, 115, 32, 84, 69, 88, 84, 10, 48, 32, 77, 115, 103, 82, 101, 102, 32, 84, 69, 88, 84, 10, 48, 32, 67, 109, 100, 82, 101, 102, 32, 84, 69, 88, 84, 10, 48, 32, 67, 109, 100, 32, 84, 69, 88, 84, 10, 48, 32, 84, 97, 114, 103, 101, 116, 82, 101, 102, 32, 84, 69, 88, 84, 10, 48, 32, 83, 111, 117, 114, 99, 101, 82, 101, 102, 32, 84, 69, 88, 84, 10, 48, 32, 76, 111, 99, 85, 82, 73, 32, 84, 69, 88, 84, 10, 48, 32, 76, 111, 99, 78, 97, 109, 101, 32, 84, 69, 88, 84, 10, 49, 32, 70, 111, 114, 109, 97, 116, 32, 84, 69, 88, 84, 10, 49, 32, 84, 121, 112, 101, 32, 84, 69, 88, 84, 10, 49, 32, 83, 105, 122, 101, 32, 84, 69, 88, 84, 10, 49, 32, 76, 97, 115, 116, 32, 84, 69, 88, 84, 10, 49, 32, 78, 101, 120, 116, 32, 84, 69, 88, 84, 10, 49, 32, 86, 101, 114, 115, 105, 111, 110, 32, 84, 69, 88, 84, 10, 49, 32, 78, 101, 120, 116, 78, 111, 110, 99, 101, 32, 84, 69, 88, 84, 10, 49, 32, 77, 97, 120, 77, 115, 103, 83, 105, 122, 101, 32, 84, 69, 88, 84, 10, 49, 32, 77, 97, 120, 79, 98, 106, 83, 105, 122, 101, 32, 84, 69, 88, 84, 10, 50, 32, 86, 101, 114, 68, 84, 68, 32, 84, 69, 88, 84, 10, 50, 32, 77, 97, 110, 32, 84, 69, 88, 84, 10, 50, 32, 77, 111, 100, 32, 84, 69, 88, 84, 10, 50, 32, 83, 119, 86, 32, 84, 69, 88, 84, 10, 50, 32, 68, 101, 118, 73, 68, 32, 84, 69, 88, 84, 10, 50, 32, 68, 101, 118, 84, 121, 112, 32, 84, 69, 88, 84, 10, 50, 32, 83, 111, 117, 114, 99, 101, 82, 101, 102, 32, 84, 69, 88, 84, 10, 50, 32, 68, 105, 115, 112, 108, 97, 121, 78, 97, 109, 101, 32, 84, 69, 88, 84, 10, 50, 32, 77, 97, 120, 71, 85, 73, 68, 83, 105, 122, 101, 32, 84, 69, 88, 84, 10, 50, 32, 67, 84, 84, 121, 112, 101, 32, 84, 69, 88, 84, 10, 50, 32, 86, 101, 114, 67, 84, 32, 84, 69, 88, 84, 10, 50, 32, 83, 121, 110, 99, 84, 121, 112, 101, 32, 84, 69, 88, 84])))])
 (.block 0 (.loop (.block 1 (.seq (.reg [ji 24 (.mv (.t 7)), ji 25 (.mv (.t 6)), ji 26 (.call 131 [(.t 24), (.t 25)]), ji 8 (.mv (.t 26))])
 (.seq (.seq (.reg [ji 27 (.mv (.t 8)), ji 28 (.bin .lss (.t 27) (ci 0))])
 (.cond (.t 28) (.seq (.reg [ji 4 (.mv (.c (.str []))), ji 5 (.mv (.c (.bool false)))])
 .ret)
 .skip))
 (.seq (.reg [ji 29 (.mv (.t 7)), ji 30 (.mv (.t 8)), ji 31 (.mv (.t 6)), ji 32 (.len true (.t 31)), ji 33 (.bin .add (.t 30) (.t 32)), ji 34 (.slcS (.t 29) (some (.t 33)) none), ji 7 (.mv (.t 34))])
 (.seq (.seq (.reg [ji 35 (.mv (.t 7)), ji 36 (.bin .eql (.t 35) (.c (.str []))), ji 37 (.mv (.t 36)), jg 38 37 false (.mv (.t 7)), jg 39 37 false (.idx (.t 38) (ci 0)), jg 40 37 false (.bin .eql (.t 39) (.c (.int .u8 10))), ji 41 (.pick (.t 37) (.c (.bool true)) (.t 40))])
 (.cond (.t 41) (.seq (.reg [ji 4 (.mv (.c (.str []))), ji 5 (.mv (.c (.bool true)))])
 .ret)
 .skip))
 (.seq (.reg [ji 42 (.mv (.t 7)), ji 43 (.idx (.t 42) (ci 0)), ji 44 (.bin .eql (.t 43) (.c (.int .u8 32)))])
 (.cond (.t 44) (.seq (.reg [ji 46 (.mv (.t 7)), ji 47 (.slcS (.t 46) (some (ci 1)) none), ji 48 (.call 110 [(.t 47), (.c (.str [10]))]), ji 45 (.mv (.t 48)), ji 49 (.ext (.t 45) 0), ji 50 (.ext (.t 45) 1), ji 51 (.ext (.t 45) 2), ji 9 (.mv (.t 49)), ji 10 (.mv (.t 50)), ji 11 (.mv (.t 51))])
 (.seq (.reg [ji 52 (.mv (.t 9)), ji 4 (.mv (.t 52)), ji 5 (.mv (.c (.bool true)))])
 .ret))
 .skip))))))))))))), [.tmp 4, .tmp 5]⟩
theorem cF72 : cFn prog 72 = some F72 := by kernel_rfl
theorem nameC_spec {c : UInt8} (h : isNameC c = true) : c.toNat < 128 ∧ c ≠ 32 ∧ c ≠ 10 := by
 have h1 := nameC_not h
 rw [UInt8.lt_iff_toNat_lt] at h1
 refine ⟨h1, ?_, ?_⟩
 · rintro rfl; revert h; decide
 · rintro rfl; revert h; decide
theorem name_all {n : List UInt8} (h : isName n = true) : n ≠ [] ∧ n.length ≤ 32 ∧ ∀ c ∈ n, c.toNat < 128 ∧ c ≠ 32 ∧ c ≠ 10 := by
 obtain ⟨_, h2, c, l, e, _⟩ := isName_spec h
 refine ⟨by rw [e]; simp, ?_, fun c hc => nameC_spec (h2 c hc)⟩
 subst e
 simp only [isName, Bool.and_eq_true, decide_eq_true_eq] at h
 omega
theorem any_none : ∀ (n : List UInt8), (∀ c ∈ n, c ≠ 32 ∧ c ≠ 10) → Lib.indexAny n [32, 10] = -1
 | [], _ => rfl
 | c :: l, h => by
   have h1 := h c (by simp)
   have : ([32, 10] : List UInt8).contains c = false := by simp [h1.1, h1.2]
   rw [Lib.indexAny, this, any_none l fun d hd => h d (by simp [hd])]
   rfl
theorem containsAny_ok {n : List UInt8} (h : isName n = true) : PF prog G 129 [.str n, .str [32, 10]] (.bool false) := by
 obtain ⟨_, h2, h3⟩ := name_all h
 refine PF.ofBelow Go.Proofs.Tryz.func129 (by rfl) (by rfl) fun w H Z vs hr hsz hv => ?_
 obtain ⟨v, v2, rfl, k1, k2⟩ := args2 hsz hv
 obtain ⟨x, rfl, hx⟩ := k1.str_inv
 obtain ⟨y, rfl, hy⟩ := k2.str_inv
 have hlx : x.size < 4294967281 := by rw [Lib.size_eq, hx]; omega
 have hly : y.size < 4294967281 := by rw [Lib.size_eq, hy]; decide
 refine (Go.Proofs.Tryz.strings_ContainsAny_laid x y w hlx hly (fun j b hb => ?_) (fun j b hb => ?_)).mono fun e w' ⟨he, hw⟩ => ⟨_, he, fun _ _ _ => ?_, hw⟩
 · rw [hx] at hb
   exact (h3 b (List.mem_of_getElem? hb)).1
 · rw [hy] at hb
   have := List.mem_of_getElem? hb
   simp only [List.mem_cons, List.not_mem_nil, or_false] at this
   rcases this with rfl | rfl <;> decide
 · rw [hx, hy, Lib.containsAny, any_none n fun c hc => (h3 c hc).2]
   exact .bool _
theorem index_ok (hG : ∃ m, G 2 = some [.int .i64 m]) (s t : List UInt8) (hs : s.length < 4294967281) : PF prog G 131 [.str s, .str t] (.int .i64 (Lib.index s t)) := by
 obtain ⟨m, hm⟩ := hG
 refine PF.ofBelow Go.Proofs.Tryz.func131 (by rfl) (by rfl) fun w H Z vs hr hsz hv => ?_
 obtain ⟨v, v2, rfl, h1, h2⟩ := args2 hsz hv
 obtain ⟨x, rfl, hx⟩ := h1.str_inv
 obtain ⟨y, rfl, hy⟩ := h2.str_inv
 obtain ⟨c, hc, hc'⟩ := glob1 hr hm
 rw [hc'.int_inv] at hc
 have hlen : x.size < 4294967281 := by rw [Lib.size_eq, hx]; exact hs
 refine (Go.Proofs.Tryz.strings_Index x y m w hlen hc).mono fun e w' ⟨he, hw⟩ => ⟨_, he, fun _ _ _ => ?_, hw ▸ Below.refl _ _⟩
 rw [hx, hy]; exact .int _ _
theorem index_cutO (t : List UInt8) : ∀ (l : List UInt8), match cutO t l with | none => Lib.index l t = -1 | some p => Lib.index l t = (p.1.length : Nat)
 | [] => by
   cases t with
   | nil => rfl
   | cons x t => rfl
 | c :: l => by
   have ih := index_cutO t l
   cases hp : t.isPrefixOf (c :: l) with
   | true =>
     have e : Lib.index (c :: l) t = 0 := by simp only [Lib.index, hp, if_true]
     rw [e]
     simp only [cutO, hp, cond_true]
     rfl
   | false =>
     have e : Lib.index (c :: l) t = if Lib.index l t == -1 then -1 else Lib.index l t + 1 := by simp only [Lib.index, hp, Bool.false_eq_true, if_false]
     rw [e]
     simp only [cutO, hp, cond_false]
     cases ho : cutO t l with
     | none => rw [ho] at ih; simp only at ih; rw [ih]; rfl
     | some p =>
       rw [ho] at ih
       simp only at ih
       rw [ih]
       have : (((p.1.length : Nat) : Int) == -1) = false := by rw [beq_eq_false_iff_ne]; omega
       simp only [this, Bool.false_eq_true, if_false, Option.map_some, List.length_cons]
       omega
theorem line_cut (l : List UInt8) : (Lib.cut l [10]).1 = lineF l := by
 rw [cut_cutO, lineF]
 cases cutO [10] l with
 | none => rfl
 | some p => rfl
theorem digitP_ok (p : Int) (hp : -9223372036854775808 ≤ p ∧ p ≤ 9223372036854775807) : PF prog G 130 [.int .i64 p] (.str (pageD p)) := by
 intro H
 refine CALL.of cF130 (Nat.le_of_ble_eq_true rfl) ?_
 refine au ?_
 cases h1 : decide (p < 0)
 case true =>
  refine au ?_
  exact AC.ret (fin rfl ⟨by rw [pageD, h1]; rfl, rfl⟩)
 refine au ?_
 cases h2 : decide (p > 2)
 case true =>
  refine au ?_
  exact AC.ret (fin rfl ⟨by rw [pageD, h1, h2]; rfl, rfl⟩)
 have g1 := of_decide_eq_false h1
 have g2 := of_decide_eq_false h2
 refine AC.cond_f rfl ?_
 refine AC.skip ?_
 refine AC.seq (AC.reg ?_)
 refine go1 ?_
 have hb : (UInt8.ofNat (48 + p.toNat)).toNat = 48 + p.toNat := by rw [UInt8.toNat_ofNat']; omega
 refine RG.p (d := .int .u8 p) .d (by
  show some (DV.int .u8 (IntKind.wrap .u8 p)) = _
  rw [IntWalk.u8_in _ (by omega)]) ?_
 refine RG.p (d := B8 (UInt8.ofNat (48 + p.toNat))) .d (by
  show some (DV.int .u8 (IntKind.wrap .u8 (48 + p))) = _
  rw [IntWalk.u8_in _ (by omega), B8, hb]
  congr 2; omega) ?_
 refine RG.bslF (cs := [B8 (UInt8.ofNat (48 + p.toNat))]) .d rfl ?_
 refine RG.s .d (ST.b2s (s := [UInt8.ofNat (48 + p.toNat)]) (tag := none) rfl ?_)
 refine au ?_
 exact AC.ret (fin rfl ⟨by rw [pageD, h1, h2]; rfl, rfl⟩)
theorem rulesB_len : rulesB.length < 3000 := Nat.le_of_ble_eq_true (by kernel_rfl)
theorem pageD_len (p : Int) : (pageD p).length = 1 := by
 unfold pageD
 cases (decide (p < 0) || decide (p > 2)) <;> rfl
def ruleB (hd : List UInt8) (f : Nat) : List UInt8 → Option (List UInt8)
 | [] => some []
 | c :: t => bif c == 10 then some [] else bif c == 32 then some (lineF t) else ruleGo hd f (c :: t)
theorem ruleGo_cut {hd : List UInt8} {f : Nat} {l a b : List UInt8} (h : cutO hd l = some (a, b)) : ruleGo hd (f + 1) l = ruleB hd f b := by
 simp only [ruleGo, h]
 cases b <;> rfl
theorem ruleGo_none {hd : List UInt8} {f : Nat} {l : List UInt8} (h : cutO hd l = none) : ruleGo hd (f + 1) l = none := by
 rw [ruleGo, h]
def ruleD (r : Option (List UInt8)) : DV := match r with
 | none => .tup [.str [], .bool false]
 | some r => .tup [.str r, .bool true]
theorem rule_loop (hG : GOK G) {hd : List UInt8} (h0 : hd ≠ []) (hh : hd.length ≤ 100) (H : Hp) : AC prog G none F72.N (ccSnd (ccSnd (ccSnd F72.c)))
  (Fin F72.rs (fun d H' => d = ruleD (ruleGo hd (rulesB.length + 1) rulesB) ∧ H' = H) (fun _ _ => False)) (frOf [(6, .str hd)]) H := by
 have hR := rulesB_len
 refine AC.seq (AC.reg ?_)
 refine RG.p (d := .str rulesB) .d rfl ?_
 refine RG.nilS ?_
 generalize hS : rulesB.length + 1 = N0 at hR ⊢
 generalize hRB : rulesB = RB at hR hS ⊢
 generalize hans : ruleGo hd N0 RB = ans
 have fin0 : ∀ {fr : Fr} {H2 : Hp} {a : List UInt8} {b : Bool}, H2 = H → fr 4 = .str a → fr 5 = .bool b → ruleD ans = .tup [.str a, .bool b] → Fin F72.rs (fun d H' => d = ruleD ans ∧ H' = H) (fun _ _ => False) .ret fr H2 := by
  rintro fr H2 a b rfl h2 h3 h4
  rw [h4]
  exact fin rfl ⟨by show DV.tup [fr 4, fr 5] = _; rw [h2, h3], rfl⟩
 refine AC.bloopH (α := Nat × List UInt8) (β := Unit) (fun a => a.2.length) (fun a => [(6, .str hd), (7, .str a.2)]) (fun a H' => H' = H ∧ ans = ruleGo hd a.1 a.2 ∧ a.2.length < a.1 ∧ a.2.length ≤ 3000) (fun _ => []) (fun _ _ => False) ?_ ?_ (N0, RB) _ ⟨rfl, hans.symm, by dsimp only; omega, by dsimp only; omega⟩ ⟨rfl, rfl, trivial⟩
 · intro _ _ _ h; exact h.elim
 · rintro ⟨f, l⟩ H' ⟨rfl, h2, h3, h4⟩ ih ex
   dsimp only at h2 h3 h4 ih ⊢
   obtain ⟨f, rfl⟩ : ∃ f', f = f' + 1 := ⟨f - 1, by omega⟩
   have hix := index_cutO hd l
   repeat (first | refine go1 ?_ | refine RG.zD ?_ | refine RG.callP .d rfl (index_ok hG.ml l hd (by omega)) ?_ | refine nav ?_)
   cases ho : cutO hd l with
   | none =>
     rw [ho] at hix
     rw [ruleGo_none ho] at h2
     rw [hix]
     refine au ?_
     exact AC.ret (fin0 rfl rfl rfl (by rw [h2]; rfl))
   | some p =>
     obtain ⟨a, b⟩ := p
     rw [ho] at hix
     dsimp only at hix
     rw [ruleGo_cut ho] at h2
     have hl := cutO_spec hd l a b ho
     have hll := congrArg List.length hl
     simp only [List.length_append] at hll
     have hdl : 0 < hd.length := List.length_pos_iff.2 h0
     have hneg : decide ((((a.length : Nat) : Int)) < 0) = false := by simp
     rw [hix]
     refine au ?_
     have hdr : l.drop ((((a.length : Nat) : Int) + ((hd.length : Nat) : Int))).toNat = b := by
      rw [show (((a.length : Nat) : Int) + ((hd.length : Nat) : Int)).toNat = (a ++ hd).length by rw [List.length_append]; omega, hl, List.drop_left]
     rw [hdr]
     cases b with
     | nil =>
       refine au ?_
       exact AC.ret (fin0 rfl rfl rfl (by rw [h2]; rfl))
     | cons c t =>
       have e0 : ((c :: t : List UInt8) == []) = false := rfl
       rw [ruleB] at h2
       refine go1 ?_
       refine RG.at (b := c) .d wh wh (by omega) rfl ?_
       refine RG.p (d := .bool (c == 10)) .d (congrArg (fun b => some (DV.bool b)) (u8_beq c 10 (by decide))) ?_
       cases k1 : c == 10
       case true =>
        rw [k1, cond_true] at h2
        refine au ?_
        exact AC.ret (fin0 rfl rfl rfl (by rw [h2]; rfl))
       rw [k1, cond_false] at h2
       refine go ?_
       refine RG.nilS (AC.cond_f rfl ?_)
       refine AC.skip ?_
       refine AC.seq (AC.reg ?_)
       refine go1 ?_
       refine RG.at (b := c) .d wh wh (by omega) rfl ?_
       refine RG.p (d := .bool (c == 32)) .d (congrArg (fun b => some (DV.bool b)) (u8_beq c 32 (by decide))) ?_
       cases k2 : c == 32
       case false =>
        rw [k2, cond_false] at h2
        refine RG.nilS (AC.cond_f rfl ?_)
        refine AC.skip ?_
        exact ih (f, c :: t) _ ⟨rfl, h2, by dsimp only; omega, by dsimp only; omega⟩ (by dsimp only; omega) _ ⟨rfl, rfl, trivial⟩
       rw [k2, cond_true] at h2
       refine RG.nilS (AC.cond_t rfl ?_)
       refine AC.seq (AC.reg ?_)
       refine go1 ?_
       refine RG.from (s := c :: t) (i := 1) .d rfl rfl (by rw [List.length_cons]; omega) ?_
       refine RG.callP .d rfl (cut_ok hG.ml _ _ (by show t.length < _; rw [List.length_cons] at hll; omega)) ?_
       rw [show (c :: t : List UInt8).drop ((1 : Int)).toNat = t from rfl, line_cut]
       refine au ?_
       exact AC.ret (fin0 rfl rfl rfl (by rw [h2]; rfl))
theorem ruleH_ne (p : Int) (n : List UInt8) : ruleH p n ≠ [] := by simp [ruleH]
theorem Rule_ok (hG : GOK G) {p : Int} {n : List UInt8} (hp : 0 ≤ p ∧ p < 3) (hn : isName n = true) : PF prog G 72 [.int .i64 p, .str n] (ruleD (ruleF p n)) := by
 intro H
 obtain ⟨h1, h2, _⟩ := name_all hn
 have hne : (n == []) = false := by
  cases n with
  | nil => exact absurd rfl h1
  | cons => rfl
 have hpl := pageD_len p
 refine CALL.of cF72 (Nat.le_of_ble_eq_true rfl) ?_
 repeat (first | refine go1 ?_ | refine RG.zD ?_ | refine RG.callP .d rfl (containsAny_ok hn) ?_ | refine nav ?_)
 rw [hne]
 refine au ?_
 refine RG.callP .d rfl (digitP_ok p (by omega)) ?_
 refine RG.addS .d wh wh (by simp; omega) ?_
 refine RG.addS .d wh wh (by simp; omega) ?_
 refine go1 ?_
 refine RG.addS .d wh wh (by simp; omega) ?_
 refine go1 ?_
 refine RG.nilS ?_
 rw [ruleF, hne, cond_false]
 refine AC.to [(6, .str (ruleH p n))] ⟨rfl, trivial⟩ ?_
 exact rule_loop hG (ruleH_ne p n) (by simp [ruleH]; omega) H
theorem splitK_one (c : UInt8) : ∀ (s : List UInt8), Lib.splitK [c] 0 (Lib.count s [c]) s = splitB c s
 | [] => rfl
 | x :: l => by
   have ih := splitK_one c l
   by_cases h : x = c
   · subst h
     rw [Lib.count_cons_eq, Nat.add_comm, Lib.splitK]
     have e : Lib.index (x :: l) [x] = 0 := by simp [Lib.index]
     rw [e, splitB]
     simp only [beq_self_eq_true, cond_true]
     rw [if_neg (by decide)]
     show [] :: Lib.splitK [x] 0 (Lib.count l [x]) l = _
     rw [ih]
   · rw [Lib.count_cons_ne x c l h]
     have hb : (x == c) = false := by simpa using h
     rw [splitB, hb, cond_false]
     have e : Lib.index (x :: l) [c] = if Lib.index l [c] == -1 then -1 else Lib.index l [c] + 1 := by
      have : List.isPrefixOf [c] (x :: l) = false := by simp [List.isPrefixOf, Ne.symm h]
      simp only [Lib.index, this, Bool.false_eq_true, if_false]
     cases hk : Lib.count l [c] with
     | zero =>
       rw [hk] at ih
       rw [← ih]; rfl
     | succ k =>
       rw [hk] at ih
       rw [Lib.splitK, e]
       rw [Lib.splitK] at ih
       by_cases h1 : Lib.index l [c] = -1
       · rw [h1] at ih ⊢
         have e1 : ((-1 : Int) == -1) = true := rfl
         simp only [e1, if_true] at ih ⊢
         rw [← ih]
       · have h2 : (Lib.index l [c] == -1) = false := by simpa using h1
         have hge := Lib.index_ge l [c]
         rw [h2] at ih ⊢
         simp only [Bool.false_eq_true, if_false, Nat.add_zero] at ih ⊢
         have h3 : (Lib.index l [c] + 1 == -1) = false := by rw [beq_eq_false_iff_ne]; omega
         rw [h3]
         simp only [Bool.false_eq_true, if_false]
         rw [← ih]
         simp only
         have hn : (Lib.index l [c] + 1).toNat = (Lib.index l [c]).toNat + 1 := by omega
         rw [hn, List.take_succ_cons, show (Lib.index l [c]).toNat + 1 + [c].length = ((Lib.index l [c]).toNat + [c].length) + 1 by omega, List.drop_succ_cons]
theorem split_ok (hG : ∃ m, G 2 = some [.int .i64 m]) (s : List UInt8) (c : UInt8) (hs : s.length < 4294967281) :
  PF prog G 186 [.str s, .str [c]] (.lst ((splitB c s).map DV.str) (splitB c s).length 1 none) := by
 obtain ⟨m, hm⟩ := hG
 refine PF.ofNew Go.Proofs.Tryz.func186 (by rfl) (by rfl) (List.length_map _) fun w H Z vs hr hsz hv => ?_
 obtain ⟨v, v2, rfl, h1, h2⟩ := args2 hsz hv
 obtain ⟨x, rfl, hx⟩ := h1.str_inv
 obtain ⟨y, rfl, hy⟩ := h2.str_inv
 obtain ⟨q, hc, hc'⟩ := glob1 hr hm
 rw [hc'.int_inv] at hc
 have hlen : x.size < 4294967281 := by rw [Lib.size_eq, hx]; exact hs
 have hy1 : 1 ≤ y.size := by rw [Lib.size_eq, hy]; exact Nat.le_refl 1
 have hcB : Lib.countB x y = Lib.count s [c] := by
  show Lib.count x.data.toList y.data.toList = _
  rw [hx, hy]
 have hdata := Lib.splitB_data y 0 (Lib.countB x y) x
 rw [hx, hy, hcB, splitK_one] at hdata
 have hall := Lib.splitB_all y hy1 0 _ x rfl
 rw [hcB] at hall
 have hln : (splitB c s).length = Lib.count s [c] + 1 := by rw [← hdata, List.length_map]; exact hall
 refine (Go.Proofs.Tryz.strings_Split x y m w hlen hc hy1).mono fun e w' ⟨he, hw⟩ => ⟨_, _, ?_, hw, ?_, fun j v hj => ?_, fun j v d hj hd w H Z => ?_⟩
 · rw [he, hcB, hln]
 · rw [hcB]; simp [hall, hln]
 · rw [List.getElem?_toArray, List.getElem?_map, Option.map_eq_some_iff] at hj
   obtain ⟨z, _, rfl⟩ := hj
   rfl
 · rw [List.getElem?_toArray, List.getElem?_map, Option.map_eq_some_iff] at hj
   obtain ⟨z, hz, rfl⟩ := hj
   rw [← hdata, List.getElem?_map, List.getElem?_map] at hd
   rw [hcB] at hz
   rw [hz] at hd
   simp only [Option.map_some, Option.some.injEq] at hd
   subst hd
   exact .str _ _ rfl
def F134 : FN := ⟨43, (.seq (.reg [ji 5 (.box 24 (.t 2)), ji 6 (.mv (.c (.bool false)))])
 (.seq (.seq (.reg [ji 10 (.mv (.t 1)), ji 11 (.call 186 [(.t 10), (.c (.str [124]))]), ji 12 (.len false (.t 11)), ji 13 (.mv (ci 0))])
 (.block 0 (.loop (.seq (.reg [ji 14 (.bin .lss (.t 13) (.t 12))])
 (.seq (.cond (.t 14) .skip
 (.exit 0))
 (.seq (.block 1 (.seq (.reg [ji 15 (.iadr 1 (.t 11) (.t 13)), ji 16 (.ld false 1 (.t 15)), ji 8 (.mv (.t 16))])
 (.seq (.reg [ji 17 (.mv (.t 0)), ji 9 (.mv (.t 17))])
 (.seq (.seq (.reg [ji 18 (.mv (.t 8)), ji 19 (.len true (.t 18)), ji 20 (.bin .gtr (.t 19) (ci 1)), ji 21 (.mv (.t 20)), jg 22 21 true (.mv (.t 8)), jg 23 21 true (.idx (.t 22) (ci 1)), jg 24 21 true (.bin .eql (.t 23) (.c (.int .u8 46))), ji 25 (.pick (.t 21) (.t 24) (.c (.bool false)))])
 (.cond (.t 25) (.draw [ji 26 (.mv (.t 8)), ji 27 (.idx (.t 26) (ci 0)), ji 28 (.bin .sub (.t 27) (.c (.int .u8 48))), ji 29 (.conv .i64 (.t 28)), ji 30 (.mv (.t 8)), ji 31 (.slcS (.t 30) (some (ci 2)) none), ji 9 (.mv (.t 29)), ji 8 (.mv (.t 31))] [[], [0], [1], [2], [], [4], [3, 0, 1, 2, 3], [5, 6, 0, 1, 2, 3, 4, 5, 6]])
 .skip))
 (.seq (.reg [ji 32 (.fadr 0 (.t 5)), ji 33 (.ld false 1 (.t 32)), ji 34 (.mv (.t 9)), ji 35 (.bin .eql (.t 33) (.t 34)), ji 36 (.mv (.t 35)), jg 37 36 true (.fadr 1 (.t 5)), jg 38 36 true (.ld false 1 (.t 37)), jg 39 36 true (.mv (.t 8)), jg 40 36 true (.bin .eql (.t 38) (.t 39)), ji 41 (.pick (.t 36) (.t 40) (.c (.bool false)))])
 (.cond (.t 41) (.seq (.reg [ji 6 (.mv (.c (.bool true)))])
 .ret)
 .skip))))))
 (.reg [ji 42 (.bin .add (.t 13) (ci 1)), ji 13 (.mv (.t 42))])))))))
 (.seq (.reg [ji 6 (.mv (.c (.bool false)))])
 .ret))), [.tmp 6]⟩
theorem cF134 : cFn prog 134 = some F134 := by kernel_rfl
theorem u8_sub (c : UInt8) (k : Nat) (hk : k < 256) : IntKind.wrap .u8 ((c.toNat : Int) - (k : Nat)) = ((c - UInt8.ofNat k).toNat : Nat) := by
 have hc := c.toNat_lt
 have h1 : (UInt8.ofNat k).toNat = k := by rw [UInt8.toNat_ofNat']; omega
 rw [UInt8.toNat_sub, h1]
 show ((c.toNat : Int) - (k : Nat)) % 256 = _
 omega
def partN (p : Int) : List UInt8 → Int × List UInt8
 | c :: d :: r => bif d == 46 then (((c - 48).toNat : Nat), r) else (p, c :: d :: r)
 | n => (p, n)
theorem oneN_part (p : Int) (n : List UInt8) (e : El) : oneN p n e = (e.page == (partN p n).1 && e.name == (partN p n).2) := by
 match n with
 | [] => rfl
 | [c] => rfl
 | c :: d :: r =>
   rw [oneN, partN]
   cases d == 46 <;> rfl
theorem one_okF (hG : GOK G) (p : Int) (ns : List UInt8) (e : El) (hs : ns.length ≤ 1000000) : PF prog G 134 [.int .i64 p, .str ns, .agg (elC e)] (.bool (oneF p ns e)) := by
 intro H
 refine CALL.of cF134 (Nat.le_of_ble_eq_true rfl) ?_
 refine AC.seq (AC.reg ?_)
 refine RG.box (d := .agg (elC e)) (ys := elC e) .d rfl rfl fun b hb => ?_
 rw [eta_el]
 generalize hHH : H.upd b (some (.cells [.int .i64 e.page, .str e.name, .str e.text, .bool e.op, .lst (elsC e.kids) e.kids.length 5 none] 24)) = HH
 have hHb : HH b = some (.cells [.int .i64 e.page, .str e.name, .str e.text, .bool e.op, .lst (elsC e.kids) e.kids.length 5 none] 24) := by rw [← hHH]; exact Hp.upd_same
 have hsub : SubH H HH := by rw [← hHH]; exact SubH.fresh hb
 repeat (first | refine go1 ?_ | refine RG.zD ?_ | refine RG.callP .d rfl (split_ok hG.ml ns 124 (by omega)) ?_ | refine nal ?_)
 have hO : oneF p ns e = (splitB 124 ns).any fun n => oneN p n e := rfl
 have hPL : ∀ (l : List UInt8), (splitB 124 l).length ≤ l.length + 1 := by
  intro l
  induction l with
  | nil => simp [splitB]
  | cons x l ih =>
    rw [splitB]
    cases x == 124
    · rw [cond_false]
      cases h : splitB 124 l with
      | nil => simp
      | cons y r => rw [h] at ih; simp only [List.length_cons] at ih ⊢; omega
    · simp only [cond_true, List.length_cons]; omega
 have hpl := hPL ns
 generalize splitB 124 ns = parts at hO hpl
 have done : ∀ {fr : Fr} {q : Bool}, q = oneF p ns e → fr 6 = .bool q → Fin F134.rs (fun d' H' => d' = .bool (oneF p ns e) ∧ H' = H) (fun _ _ => False) .ret fr HH := by
  intro fr q h1 h2
  exact finD (H' := H) rfl hsub ⟨by show fr 6 = _; rw [h2, h1], rfl⟩
 refine AC.bloopH (α := Nat) (β := Unit) (fun i => parts.length - i) (fun i => [(0, .int .i64 p), (5, .ptr b 0), (11, .lst (parts.map DV.str) parts.length 1 none), (12, .int .i64 parts.length), (13, .int .i64 i)])
  (fun i H' => H' = HH ∧ i ≤ parts.length ∧ oneF p ns e = (parts.drop i).any fun n => oneN p n e) (fun _ => []) (fun _ H' => H' = HH ∧ oneF p ns e = false) ?_ ?_ 0 _ ⟨rfl, Nat.zero_le _, hO⟩ ⟨rfl, rfl, rfl, rfl, rfl, trivial⟩
 · rintro _ He fr ⟨rfl, h⟩ _
   show AC _ _ _ _ _ _ _ _
   refine au ?_
   exact AC.ret (done h.symm rfl)
 · rintro i H' ⟨rfl, h2, h3⟩ ih ex
   refine AC.seq (AC.reg ?_)
   refine go ?_
   cases e1 : decide ((i : Int) < parts.length)
   · have e := of_decide_eq_false e1
     have hd : parts.drop i = [] := List.drop_eq_nil_of_le (by omega)
     rw [hd, List.any_nil] at h3
     exact RG.nilS (AC.seq (AC.cond_f rfl (AC.exit (ex () _ _ ⟨rfl, h3⟩ trivial))))
   have e0 := of_decide_eq_true e1
   have hi : i < parts.length := by omega
   rw [List.drop_eq_getElem_cons hi, List.any_cons, oneN_part] at h3
   refine RG.nilS (AC.seq (AC.cond_t rfl (AC.skip (AC.seq (AC.block (AC.seq (AC.reg ?_)))))))
   refine RG.p .d (evP_iadr wh wh (by omega)) ?_
   refine RG.p .d (evP_ldc wh (partD_one (d := .str parts[i]) (by simp [hi]))) ?_
   generalize parts[i] = n at h3
   refine go ?_
   refine RG.nilS (AC.seq (AC.reg ?_))
   refine go ?_
   refine RG.nilS ?_
   generalize hpn : partN p n = pn at h3
   refine AC.seqI (I := fun fr' HX => HX = H' ∧ Agrees fr' [(0, .int .i64 p), (5, .ptr b 0), (8, .str pn.2), (9, .int .i64 pn.1), (11, .lst (parts.map DV.str) parts.length 1 none), (12, .int .i64 parts.length), (13, .int .i64 i)]) (AC.seq (AC.reg ?_)) ?_
   · match n, hpn with
     | [], hpn =>
       subst hpn
       refine go ?_
       exact RG.nilS (AC.cond_f rfl (AC.skip ⟨rfl, rfl, rfl, rfl, rfl, rfl, rfl, rfl, trivial⟩))
     | [c], hpn =>
       subst hpn
       refine go ?_
       exact RG.nilS (AC.cond_f rfl (AC.skip ⟨rfl, rfl, rfl, rfl, rfl, rfl, rfl, rfl, trivial⟩))
     | c :: d :: r, hpn =>
       have hg : decide ((((c :: d :: r : List UInt8).length : Nat) : Int) > 1) = true := by rw [decide_eq_true_eq, List.length_cons, List.length_cons]; omega
       refine go1 ?_
       refine go1 ?_
       refine go1 ?_
       rw [hg]
       refine go1 ?_
       refine go1 ?_
       refine RG.at (b := d) (i := 1) .d rfl rfl (by omega) rfl ?_
       refine RG.p (d := .bool (d == 46)) .d (congrArg (fun b => some (DV.bool b)) (u8_beq d 46 (by decide))) ?_
       refine go ?_
       rw [partN] at hpn
       cases c1 : d == 46
       · rw [c1, cond_false] at hpn
         subst hpn
         exact RG.nilS (AC.cond_f rfl (AC.skip ⟨rfl, rfl, rfl, rfl, rfl, rfl, rfl, rfl, trivial⟩))
       · rw [c1, cond_true] at hpn
         subst hpn
         refine RG.nilS (AC.cond_t rfl ?_)
         refine AC.drawP [7] rfl ?_
         first|refine VP.z0 0 ?_|refine VP.z1 0 ?_|refine VP.z2 0 ?_|refine VP.z3 0 ?_|refine VP.z4 0 ?_|refine VP.z5 0 ?_|refine VP.z6 0 ?_|refine VP.z7 0 ?_|refine VP.z8 0 ?_
         refine VP.v 1 rfl (evP_at (b := c) (i := 0) rfl rfl (by omega) rfl) ?_
         refine VP.v (d := .int .u8 ((c - 48).toNat : Nat)) 2 rfl (congrArg (fun b => some (DV.int .u8 b)) (u8_sub c 48 (by decide))) ?_
         have hlt := (c - 48).toNat_lt
         refine VP.v (d := .int .i64 ((c - 48).toNat : Nat)) 3 rfl (by
          show some (DV.int .i64 (IntKind.wrap .i64 (((c - 48).toNat : Nat) : Int))) = _
          rw [IntWalk.i64_in _ (by omega)]) ?_
         first|refine VP.z0 4 ?_|refine VP.z1 4 ?_|refine VP.z2 4 ?_|refine VP.z3 4 ?_|refine VP.z4 4 ?_|refine VP.z5 4 ?_|refine VP.z6 4 ?_|refine VP.z7 4 ?_|refine VP.z8 4 ?_
         refine VP.v 5 rfl (evP_from (s := c :: d :: r) (i := 2) rfl rfl ⟨by decide, by rw [List.length_cons, List.length_cons]; omega⟩) ?_
         first|refine VP.z0 6 ?_|refine VP.z1 6 ?_|refine VP.z2 6 ?_|refine VP.z3 6 ?_|refine VP.z4 6 ?_|refine VP.z5 6 ?_|refine VP.z6 6 ?_|refine VP.z7 6 ?_|refine VP.z8 6 ?_
         refine VP.pe 7 rfl rfl (EF.of_evP (d := .str r) rfl) (fun _ _ _ h => h.elim) (fun d' H2 ⟨f1, f2⟩ => ⟨stabP_nil, ?_⟩)
         subst f1; subst f2
         exact VP.pd ⟨rfl, rfl, rfl, rfl, rfl, rfl, rfl, rfl, trivial⟩
   rintro fr1 H1 ⟨rfl, hf1⟩
   refine AC.to _ hf1 ?_
   refine au ?_
   cases c2 : e.page == pn.1
   · rw [c2, Bool.false_and, Bool.false_or] at h3
     refine au ?_
     exact ih (i + 1) _ ⟨rfl, by omega, h3⟩ (by omega) _ ⟨rfl, rfl, rfl, rfl, rfl, trivial⟩
   · rw [c2, Bool.true_and] at h3
     refine au ?_
     cases c3 : e.name == pn.2
     · rw [c3, Bool.false_or] at h3
       refine au ?_
       exact ih (i + 1) _ ⟨rfl, by omega, h3⟩ (by omega) _ ⟨rfl, rfl, rfl, rfl, rfl, trivial⟩
     · rw [c3, Bool.true_or] at h3
       refine au ?_
       exact AC.ret (done h3.symm rfl)
def F185 : FN := ⟨4, (.seq (.reg [ji 1 (.box 9 (.t 0)), ji 2 (.mv (.c .nilfn))])
 (.seq (.reg [ji 3 (.mkfn (.func 219) [] [(.t 1)]), ji 2 (.mv (.t 3))])
 .ret)), [.tmp 2]⟩
theorem cF185 : cFn prog 185 = some F185 := by kernel_rfl
def F219 : FN := ⟨56, (.seq (.reg [ji 3 (.mv (.c (.int .i64 (-1))))])
 (.seq (.seq (.reg [ji 4 (.mv (ci 0))])
 (.block 0 (.loop (.seq (.seq (.reg [ji 8 (.mv (.t 4)), ji 9 (.ld false 1 (.t 1)), ji 10 (.len true (.t 9)), ji 11 (.bin .lss (.t 8) (.t 10))])
 (.cond (.t 11) .skip
 (.exit 0)))
 (.block 1 (.seq (.reg [ji 5 (.mv (ci 1))])
 (.seq (.reg [ji 12 (.ld false 1 (.t 1)), ji 13 (.mv (.t 4)), ji 14 (.idx (.t 12) (.t 13)), ji 15 (.conv .i32 (.t 14)), ji 6 (.mv (.t 15))])
 (.seq (.reg [ji 16 (.ld false 1 (.t 1)), ji 17 (.mv (.t 4)), ji 18 (.idx (.t 16) (.t 17)), ji 19 (.iadrA 256 1 (.g 3) (.t 18)), ji 20 (.ld false 1 (.t 19)), ji 21 (.bin .neq (.t 20) (.c (.int .u8 0))), ji 7 (.mv (.t 21))])
 (.seq (.seq (.reg [ji 22 (.mv (.t 6)), ji 23 (.bin .geq (.t 22) (.c (.int .i32 128)))])
 (.cond (.t 23) (.seq (.reg [ji 25 (.ld false 1 (.t 1)), ji 26 (.mv (.t 4)), ji 27 (.slcS (.t 25) (some (.t 26)) none), ji 28 (.call 207 [(.t 27)]), ji 24 (.mv (.t 28)), ji 29 (.ext (.t 24) 0), ji 30 (.ext (.t 24) 1), ji 6 (.mv (.t 29)), ji 5 (.mv (.t 30))])
 (.reg [ji 31 (.mv (.t 6)), ji 32 (.call 220 [(.t 31)]), ji 7 (.mv (.t 32))]))
 .skip))
 (.seq (.seq (.reg [ji 33 (.mv (.t 7))])
 (.cond (.t 33) (.seq (.reg [ji 34 (.mv (.t 3)), ji 35 (.bin .geq (.t 34) (ci 0))])
 (.cond (.t 35) (.seq (.seq (.reg [ji 36 (.mv (.t 0)), ji 37 (.ld false 1 (.t 1)), ji 38 (.mv (.t 3)), ji 39 (.mv (.t 4)), ji 40 (.slcS (.t 37) (some (.t 38)) (some (.t 39))), ji 41 (.calv (.t 36) [(.t 40)]), ji 42 (.un .not (.t 41))])
 (.cond (.t 42) .ret
 .skip))
 (.reg [ji 3 (.mv (.c (.int .i64 (-1))))]))
 .skip))
 (.seq (.reg [ji 43 (.mv (.t 3)), ji 44 (.bin .lss (.t 43) (ci 0))])
 (.cond (.t 44) (.reg [ji 45 (.mv (.t 4)), ji 3 (.mv (.t 45))])
 .skip))))
 (.reg [ji 46 (.mv (.t 4)), ji 47 (.mv (.t 5)), ji 48 (.bin .add (.t 46) (.t 47)), ji 4 (.mv (.t 48))])))))))))))
 (.seq (.reg [ji 49 (.mv (.t 3)), ji 50 (.bin .geq (.t 49) (ci 0))])
 (.cond (.t 50) (.reg [ji 51 (.mv (.t 0)), ji 52 (.ld false 1 (.t 1)), ji 53 (.mv (.t 3)), ji 54 (.slcS (.t 52) (some (.t 53)) none), ji 55 (.calv (.t 51) [(.t 54)])])
 .skip)))), []⟩
theorem cF219 : cFn prog 219 = some F219 := by kernel_rfl
def F133 : FN := ⟨4, (.seq (.reg [ji 1 (.box 9 (.t 0)), ji 2 (.mv (.c .nilfn))])
 (.seq (.reg [ji 3 (.mkfn (.func 184) [] [(.t 1)]), ji 2 (.mv (.t 3))])
 .ret)), [.tmp 2]⟩
theorem cF133 : cFn prog 133 = some F133 := by kernel_rfl
def F184 : FN := ⟨11, (.seq (.reg [ji 2 (.box 85 (.t 0))])
 (.seq (.reg [ji 4 (.ld false 1 (.t 1)), ji 5 (.call 185 [(.t 4)])])
 (.block 0 (.rng (.t 5) [6] (.reg [ji 3 (.mv (.t 6))])
 (.block 1 (.seq (.reg [ji 7 (.ld false 1 (.t 2)), ji 8 (.mv (.t 3)), ji 9 (.calv (.t 7) [(.t 8)]), ji 10 (.un .not (.t 9))])
 (.cond (.t 10) .ret
 .skip))))))), []⟩
theorem cF184 : cFn prog 184 = some F184 := by kernel_rfl
def spT : List DV := (List.range 256).map fun c => .int .u8 (bif isSp (UInt8.ofNat c) then 1 else 0)
structure GOS (G : Gl) : Prop where
 ok : GOK G
 sp : G 3 = some spT
theorem spT_at (c : UInt8) : partD false 0 1 (spT.drop (((c.toNat : Nat) : Int).toNat * 1)) = some (.int .u8 (bif isSp c then 1 else 0)) := by
 have hc : c.toNat < 256 := c.toNat_lt
 rw [Int.toNat_natCast]
 refine partD_one ?_
 simp [spT, hc]
theorem evP_iadrAC {fr : Fr} {H : Hp} {x y : X} {cs : List DV} {len sz : Nat} {k : IntKind} {i : Int} (hx : XV G fr x = .cptr cs) (hy : XV G fr y = .int k i) (hr : 0 ≤ i ∧ i < len) : evP G fr H (.iadrA len sz x y) = some (.cptr (cs.drop (i.toNat * sz))) := by
 show iadrAD len sz (XV G fr x) (XV G fr y) = _
 rw [hx, hy]
 simp only [iadrAD, if_pos hr]
theorem evP_slc2 {fr : Fr} {H : Hp} {x l h : X} {s : List UInt8} {lo hi : Int} (hx : XV G fr x = .str s) (hl : XV G fr l = .int .i64 lo) (hh : XV G fr h = .int .i64 hi) (hr : 0 ≤ lo ∧ lo ≤ hi ∧ hi ≤ s.length) : evP G fr H (.slcS x (some l) (some h)) = some (.str ((s.take hi.toNat).drop lo.toNat)) := by
 show slcSD (some (XV G fr l)) (some (XV G fr h)) (XV G fr x) = _
 rw [hx, hl, hh]
 have h1 : (0 : Int) ≤ hi ∧ hi ≤ (s.length : Nat) := by omega
 have h2 : (0 : Int) ≤ lo ∧ lo ≤ ((hi.toNat : Nat) : Int) := by omega
 simp only [slcSD, bndD, if_pos h1, Option.bind_some, if_pos h2]
def strB (b : Nat) (s : List UInt8) : List (Nat × DO) := [(b, .cells [.str s] 9)]
theorem FieldsSeq_ok (s : List UInt8) (H : Hp) : CALL prog G 185 [.str s] H (fun r H' => ∃ b, r = .func (.func 219) [] [.ptr b 0] ∧ H b = none ∧ H' = addB (strB b s) H) (fun _ _ => False) := by
 refine CALL.of cF185 (Nat.le_of_ble_eq_true rfl) ?_
 refine AC.seq (AC.reg ?_)
 refine RG.box .d rfl rfl fun b hb => ?_
 refine au ?_
 exact AC.ret (fin rfl ⟨b, rfl, hb, rfl⟩)
theorem Words_ok (s : List UInt8) (H : Hp) : CALL prog G 133 [.str s] H (fun r H' => ∃ b, r = .func (.func 184) [] [.ptr b 0] ∧ H b = none ∧ H' = addB (strB b s) H) (fun _ _ => False) := by
 refine CALL.of cF133 (Nat.le_of_ble_eq_true rfl) ?_
 refine AC.seq (AC.reg ?_)
 refine RG.box .d rfl rfl fun b hb => ?_
 refine au ?_
 exact AC.ret (fin rfl ⟨b, rfl, hb, rfl⟩)
def wordAt (s : List UInt8) (st : Int) (i : Nat) : List UInt8 := bif decide (st < 0) then [] else (s.drop st.toNat).take (i - st.toNat)
theorem wordAt_step {s : List UInt8} {st : Int} {i : Nat} (hi : i < s.length) (h : st < 0 ∨ (0 ≤ st ∧ st < i)) : wordAt s st i ++ [s[i]] = wordAt s (bif decide (st < 0) then (i : Nat) else st) (i + 1) := by
 rcases h with h | ⟨h, h2⟩
 · have e1 : decide (st < 0) = true := by simp [h]
   have e2 : decide (((i : Nat) : Int) < 0) = false := by simp
   simp only [wordAt, e1, e2, cond_true, cond_false, Int.toNat_natCast, List.nil_append]
   rw [List.drop_eq_getElem_cons hi, show i + 1 - i = 1 by omega]; rfl
 · have e1 : decide (st < 0) = false := by simp; omega
   simp only [wordAt, e1, cond_false]
   obtain ⟨k, rfl⟩ : ∃ k : Nat, st = (k : Nat) := ⟨st.toNat, by omega⟩
   rw [Int.toNat_natCast, show i + 1 - k = (i - k) + 1 by omega, List.take_succ_eq_append_getElem (by rw [List.length_drop]; omega)]
   congr 2
   rw [List.getElem_drop]
   congr 1; omega
theorem wordAt_nil {s : List UInt8} {st : Int} {i : Nat} (hi : i ≤ s.length) (h : st < 0 ∨ (0 ≤ st ∧ st < i)) : (wordAt s st i == []) = decide (st < 0) := by
 rcases h with h | ⟨h, h2⟩
 · have e1 : decide (st < 0) = true := by simp [h]
   rw [wordAt, e1]; rfl
 · have e1 : decide (st < 0) = false := by simp; omega
   rw [wordAt, e1, cond_false, beq_eq_false_iff_ne]
   intro hc
   have := congrArg List.length hc
   rw [List.length_take, List.length_drop, List.length_nil] at this
   omega
theorem Fields1_ok (hG : GOS G) {b : Nat} {s : List UInt8} (hl : s.length ≤ 1000000) (ha : ∀ c ∈ s, c.toNat < 128) : ITER prog G 219 [] [.ptr b 0] (fun w => [.str w]) (wordsF s) (strB b s) := by
 intro σ yv step R J E s0 A0 hy hyv hR hJ hB
 have hbA : ∀ A, addB (strB b s) A b = some (.cells [.str s] 9) := fun A => Hp.upd_same
 refine CALL.of cF219 (Nat.le_of_ble_eq_true rfl) ?_
 refine al ?_
 have post : ∀ (q : σ) (A : Hp), runG step s0 (wordsF s) = (q, true) → J q A → freeB (strB b s) A → ∃ A', ((runG step s0 (wordsF s)).2 = true → J (runG step s0 (wordsF s)).1 A') ∧ ((runG step s0 (wordsF s)).2 = false → E (runG step s0 (wordsF s)).1 A') ∧ freeB (strB b s) A' ∧ addB (strB b s) A = addB (strB b s) A' :=
  fun q A h1 h2 h3 => ⟨A, by rw [h1]; exact fun _ => h2, by rw [h1]; exact fun h => (by cases h), h3, rfl⟩
 have postE : ∀ (q : σ) (A : Hp), runG step s0 (wordsF s) = (q, false) → E q A → freeB (strB b s) A → ∃ A', ((runG step s0 (wordsF s)).2 = true → J (runG step s0 (wordsF s)).1 A') ∧ ((runG step s0 (wordsF s)).2 = false → E (runG step s0 (wordsF s)).1 A') ∧ freeB (strB b s) A' ∧ addB (strB b s) A = addB (strB b s) A' :=
  fun q A h1 h2 h3 => ⟨A, by rw [h1]; exact fun h => (by cases h), by rw [h1]; exact fun _ => h2, h3, rfl⟩
 have w0 : wordsGo (s.drop 0) (wordAt s (-1) 0) = wordsF s := rfl
 refine AC.bloopH (α := Nat × Int × σ) (β := Int) (fun a => s.length - a.1) (fun a => [(0, yv), (1, .ptr b 0), (3, .int .i64 a.2.1), (4, .int .i64 a.1)])
  (fun a H' => ∃ A, J a.2.2 A ∧ freeB (strB b s) A ∧ H' = addB (strB b s) A ∧ a.1 ≤ s.length ∧ (a.2.1 < 0 ∨ (0 ≤ a.2.1 ∧ a.2.1 < a.1)) ∧ runG step s0 (wordsF s) = runG step a.2.2 (wordsGo (s.drop a.1) (wordAt s a.2.1 a.1)) ∧ okR R step a.2.2 (wordsGo (s.drop a.1) (wordAt s a.2.1 a.1)))
  (fun st => [(0, yv), (1, .ptr b 0), (3, .int .i64 st)])
  (fun st H' => ∃ A q, J q A ∧ freeB (strB b s) A ∧ H' = addB (strB b s) A ∧ (st < 0 ∨ (0 ≤ st ∧ st < s.length)) ∧ runG step s0 (wordsF s) = runG step q (wordsGo [] (wordAt s st s.length)) ∧ okR R step q (wordsGo [] (wordAt s st s.length))) ?_ ?_ (0, -1, s0) _ ⟨A0, hJ, hB, rfl, Nat.zero_le _, .inl (show (-1 : Int) < 0 by decide), by dsimp only; rw [w0], by dsimp only; rw [w0]; exact hR⟩ ⟨rfl, rfl, rfl, rfl, trivial⟩
 · rintro st He fr ⟨A, q, h1, h2, rfl, h4, h5, h6⟩ hfr
   refine AC.to _ hfr ?_
   show AC _ _ _ _ _ _ _ _
   have hn := wordAt_nil (s := s) (st := st) (i := s.length) (Nat.le_refl _) h4
   refine au ?_
   have e1 : decide (st ≥ 0) = !(decide (st < 0)) := by rw [Bool.eq_iff_iff]; simp
   rw [e1]
   rw [wordsGo, hn] at h5 h6
   cases c1 : decide (st < 0)
   · rw [c1, cond_false] at h5 h6
     have hs0 := of_decide_eq_false c1
     have hc := CALV.frameB h2 (hy q (wordAt s st s.length) A h6.1 h1)
     refine AC.cond_t rfl (AC.reg ?_)
     refine go1 ?_
     refine RG.ld .d rfl (hbA A) rfl ?_
     refine go1 ?_
     refine RG.from .d wh wh (by omega) ?_
     have hw : s.drop st.toNat = wordAt s st s.length := by
      rw [wordAt, c1, cond_false, List.take_of_length_le (by rw [List.length_drop]; omega)]
     rw [hw]
     refine RG.calV .d rfl rfl hc (fun r H' ⟨A', ⟨k1, k2, k3⟩, k4, k5⟩ => ?_) (fun r H' ⟨_, k, _⟩ => k.elim)
     subst k5
     rw [runG] at h5
     refine RG.nil (fin rfl ?_)
     cases c2 : (step q (wordAt s st s.length)).2
     · rw [c2, cond_false] at h5
       exact postE _ _ h5 (k3 c2) k4
     · rw [c2, cond_true] at h5
       exact post _ _ h5 (k2 c2) k4
   · rw [c1, cond_true] at h5
     refine AC.cond_f rfl ?_
     refine AC.skip (fin rfl ?_)
     exact post q A h5 h1 h2
 · rintro ⟨i, st, q⟩ H' ⟨A, h1, h2, rfl, h4, h5, h6, h7⟩ ih ex
   dsimp only at h1 h4 h5 h6 h7 ih ⊢
   refine AC.seq (AC.seq (AC.reg ?_))
   refine go1 ?_
   refine RG.ld .d rfl (hbA A) rfl ?_
   refine go ?_
   cases e1 : decide ((i : Int) < s.length)
   · have e := of_decide_eq_false e1
     have hil : i = s.length := by omega
     subst hil
     rw [List.drop_length] at h6 h7
     refine RG.nilS (AC.cond_f rfl (AC.exit (ex st _ _ ⟨A, q, h1, h2, rfl, h5, h6, h7⟩ ⟨rfl, rfl, rfl, trivial⟩)))
   have e0 := of_decide_eq_true e1
   have hi : i < s.length := by omega
   have hcl := ha _ (List.getElem_mem hi)
   have hwn := wordAt_nil (s := s) (st := st) (i := i) (by omega) h5
   have hws := wordAt_step (s := s) (st := st) (i := i) hi h5
   rw [List.drop_eq_getElem_cons hi, wordsGo, hwn] at h6 h7
   have hat : s[(((i : Nat) : Int)).toNat]? = some s[i] := by rw [Int.toNat_natCast]; exact List.getElem?_eq_getElem hi
   generalize hcc : s[i] = c at h6 h7 hcl hws hat
   refine RG.nilS (AC.cond_t rfl ?_)
   refine AC.skip ?_
   refine AC.block ?_
   refine AC.seq (AC.reg ?_)
   refine go ?_
   refine RG.nilS (AC.seq (AC.reg ?_))
   refine RG.ld .d rfl (hbA A) rfl ?_
   refine go1 ?_
   refine RG.at .d wh wh (by omega) hat ?_
   refine RG.p (d := .int .i32 (c.toNat : Nat)) .d (by
    show some (DV.int .i32 (IntKind.wrap .i32 ((c.toNat : Nat) : Int))) = _
    rw [IntWalk.i32_in _ (by omega)]) ?_
   refine go ?_
   refine RG.nilS (AC.seq (AC.reg ?_))
   refine RG.ld .d rfl (hbA A) rfl ?_
   refine go1 ?_
   refine RG.at .d wh wh (by omega) hat ?_
   refine RG.p .d (evP_iadrAC (cs := spT) (by show (match G 3 with | some cs => DV.cptr cs | none => _) = _; rw [hG.sp]) rfl (by omega)) ?_
   refine RG.p .d (evP_ldc rfl (spT_at c)) ?_
   refine RG.p (d := .bool (isSp c)) .d (by
    show some (DV.bool ((bif isSp c then (1 : Int) else 0) != 0)) = _
    cases isSp c <;> rfl) ?_
   refine go ?_
   refine RG.nilS ?_
   have h128 : decide (((c.toNat : Nat) : Int) ≥ 128) = false := by simp; omega
   refine au ?_
   rw [h128]
   refine au ?_
   have e2 : decide (st ≥ 0) = !(decide (st < 0)) := by rw [Bool.eq_iff_iff]; simp
   cases c1 : isSp c
   case false =>
    rw [c1, cond_false, hws] at h6 h7
    refine au ?_
    cases c2 : decide (st < 0)
    · have g := of_decide_eq_false c2
      rw [c2, cond_false] at h6 h7
      refine au ?_
      exact RG.nil (ih (i + 1, st, q) _ ⟨A, h1, h2, rfl, by dsimp only; omega, by dsimp only; omega, h6, h7⟩ (by dsimp only; omega) _ ⟨rfl, rfl, rfl, rfl, trivial⟩)
    · rw [c2, cond_true] at h6 h7
      refine au ?_
      exact RG.nil (ih (i + 1, ((i : Nat) : Int), q) _ ⟨A, h1, h2, rfl, by dsimp only; omega, by dsimp only; omega, h6, h7⟩ (by dsimp only; omega) _ ⟨rfl, rfl, rfl, rfl, trivial⟩)
   case true =>
    rw [c1, cond_true] at h6 h7
    refine au ?_
    rw [e2]
    cases c2 : decide (st < 0)
    · have g := of_decide_eq_false c2
      rw [c2, cond_false] at h6 h7
      have hc := CALV.frameB h2 (hy q (wordAt s st i) A h7.1 h1)
      have hsl : (s.take i).drop st.toNat = wordAt s st i := by
       rw [wordAt, c2, cond_false, List.drop_take]
      refine AC.cond_t rfl ?_
      refine AC.seq ?_
      refine AC.seq (AC.reg ?_)
      refine go1 ?_
      refine RG.ld .d rfl (hbA A) rfl ?_
      refine go1 ?_
      refine go1 ?_
      have hsl' : (s.take (((i : Nat) : Int)).toNat).drop st.toNat = wordAt s st i := by rw [Int.toNat_natCast]; exact hsl
      refine RG.p (d := .str (wordAt s st i)) .d (by rw [← hsl']; exact evP_slc2 (s := s) (lo := st) (hi := (i : Nat)) rfl rfl rfl (by omega)) ?_
      refine RG.calV .d rfl rfl hc (fun r H' ⟨A', ⟨k1, k2, k3⟩, k4, k5⟩ => ?_) (fun r H' ⟨_, k, _⟩ => k.elim)
      subst k1; subst k5
      rw [runG] at h6
      refine go ?_
      cases c3 : (step q (wordAt s st i)).2
      · rw [c3, cond_false] at h6
        refine au ?_
        exact AC.ret (fin rfl (postE _ _ h6 (k3 c3) k4))
      · rw [c3, cond_true] at h6
        have h8 := h7.2 c3
        have hwn1 : wordAt s (-1) (i + 1) = [] := rfl
        refine au ?_
        exact RG.nil (ih (i + 1, -1, (step q (wordAt s st i)).1) _ ⟨A', k2 c3, k4, rfl, by dsimp only; omega, .inl (show (-1 : Int) < 0 by decide), by dsimp only; rw [hwn1]; exact h6, by dsimp only; rw [hwn1]; exact h8⟩ (by dsimp only; omega) _ ⟨rfl, rfl, rfl, rfl, trivial⟩)
    · have g := of_decide_eq_true c2
      rw [c2, cond_true] at h6 h7
      have hwn1 : wordAt s st (i + 1) = [] := by rw [wordAt, c2]; rfl
      refine au ?_
      exact RG.nil (ih (i + 1, st, q) _ ⟨A, h1, h2, rfl, by dsimp only; omega, .inl g, by dsimp only; rw [hwn1]; exact h6, by dsimp only; rw [hwn1]; exact h7⟩ (by dsimp only; omega) _ ⟨rfl, rfl, rfl, rfl, trivial⟩)
end Go.Run.Tryz
