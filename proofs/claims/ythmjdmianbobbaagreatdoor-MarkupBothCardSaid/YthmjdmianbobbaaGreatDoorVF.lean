/- Part 6 of a proof: texts N12 L1 L2 L3 L4 N13 N14 N15. -/
import Derived.Test.YthmjdmianbobbaaGreatDoorVE
import Derived.Lib.ValidLaws
namespace Go.Run.Tryz
open Go Go.Run Go.RowKit
open Go.Proofs.Tryz (prog)
def F172 : FN := ⟨80, (.seq (.reg [ji 2 (.mv (.c (.str [])))])
 (.seq (.reg [ji 11 (.mv (.t 0)), ji 12 (.nilc (.t 11)), ji 13 (.fadr 1 (.t 12)), ji 14 (.ld false 1 (.t 13)), ji 3 (.mv (.t 14))])
 (.seq (.seq (.reg [ji 15 (.bld [(.str []), (.str [])] [(0, 1, (.c (.str [38, 97, 109, 112, 59]))), (1, 1, (.c (.str [38])))]), ji 16 (.bld [(.str []), (.str [])] [(0, 1, (.c (.str [38, 108, 116, 59]))), (1, 1, (.c (.str [60])))]), ji 17 (.bld [(.str []), (.str [])] [(0, 1, (.c (.str [38, 103, 116, 59]))), (1, 1, (.c (.str [62])))]), ji 18 (.bld [(.str []), (.str [])] [(0, 1, (.c (.str [38, 113, 117, 111, 116, 59]))), (1, 1, (.c (.str [34])))]), ji 19 (.bld [(.str []), (.str [])] [(0, 1, (.c (.str [38, 97, 112, 111, 115, 59]))), (1, 1, (.c (.str [39])))]), ji 20 (.bsl 209 5 2 [(.str []), (.str []), (.str []), (.str []), (.str []), (.str []), (.str []), (.str []), (.str []), (.str [])] [(0, 2, (.t 15)), (2, 2, (.t 16)), (4, 2, (.t 17)), (6, 2, (.t 18)), (8, 2, (.t 19))]), ji 21 (.len false (.t 20)), ji 22 (.mv (ci 0))])
 (.block 0 (.loop (.seq (.reg [ji 23 (.bin .lss (.t 22) (.t 21))])
 (.seq (.cond (.t 23) .skip
 (.exit 0))
 (.seq (.block 1 (.seq (.reg [ji 24 (.iadr 2 (.t 20) (.t 22)), ji 25 (.ld true 2 (.t 24)), ji 5 (.alloc [(.str []), (.str [])] 209), jn (.st 2 (.t 5) (.t 25))])
 (.seq (.reg [ji 26 (.mv (.t 0)), ji 27 (.fadr 0 (.t 5)), ji 28 (.ld false 1 (.t 27)), ji 29 (.call 50 [(.t 26), (.t 28)])])
 (.cond (.t 29) (.seq (.reg [ji 30 (.fadr 1 (.t 5)), ji 31 (.ld false 1 (.t 30)), ji 2 (.mv (.t 31))])
 .ret)
 .skip))))
 (.reg [ji 32 (.bin .add (.t 22) (ci 1)), ji 22 (.mv (.t 32))])))))))
 (.seq (.reg [ji 33 (.mv (.t 0)), ji 34 (.call 50 [(.t 33), (.c (.str [38, 35]))]), ji 35 (.mv (.t 3)), ji 36 (.call 54 [(.t 34), (.t 35), (ci 3)])])
 (.seq (.reg [ji 37 (.mv (.t 0)), ji 38 (.call 169 [(.t 37), (.c (.func (.func 171) [] [])), (ci 7)]), ji 6 (.mv (.t 38))])
 (.seq (.reg [ji 39 (.mv (.t 6)), ji 40 (.bin .neq (.t 39) (.c (.str []))), ji 41 (.mv (.t 40)), jg 42 41 true (.mv (.t 0)), jg 43 41 true (.call 50 [(.t 42), (.c (.str [59]))]), ji 44 (.pick (.t 41) (.t 43) (.c (.bool false))), ji 45 (.mv (.t 3)), ji 46 (.call 54 [(.t 44), (.t 45), (ci 3)])])
 (.seq (.reg [ji 7 (.mv (.c (.int .i32 0)))])
 (.seq (.seq (.reg [ji 47 (.mv (.t 6)), ji 48 (.s2b 5 (.t 47)), ji 49 (.len false (.t 48)), ji 50 (.mv (ci 0))])
 (.block 2 (.loop (.seq (.reg [ji 51 (.bin .lss (.t 50) (.t 49))])
 (.seq (.cond (.t 51) .skip
 (.exit 2))
 (.seq (.block 3 (.seq (.reg [ji 52 (.iadr 1 (.t 48) (.t 50)), ji 53 (.ld false 1 (.t 52)), ji 9 (.mv (.t 53))])
 (.reg [ji 54 (.mv (.t 7)), ji 55 (.bin .mul (.c (.int .i32 10)) (.t 54)), ji 56 (.mv (.t 9)), ji 57 (.bin .sub (.t 56) (.c (.int .u8 48))), ji 58 (.conv .i32 (.t 57)), ji 59 (.bin .add (.t 55) (.t 58)), ji 7 (.mv (.t 59))])))
 (.reg [ji 60 (.bin .add (.t 50) (ci 1)), ji 50 (.mv (.t 60))])))))))
 (.seq (.reg [ji 61 (.mv (.t 7)), ji 62 (.bin .geq (.t 61) (.c (.int .i32 32))), ji 63 (.mv (.t 62)), jg 64 63 false (.mv (.t 7)), jg 65 63 false (.call 208 [(.c (.str [9, 10, 13])), (.t 64)]), jg 66 63 false (.mv (.t 65)), jg 67 66 true (.mv (.t 7)), jg 68 66 true (.bin .gtr (.t 67) (.c (.int .i32 0))), jg 69 63 false (.pick (.t 66) (.t 68) (.c (.bool false))), ji 70 (.pick (.t 63) (.c (.bool true)) (.t 69)), ji 10 (.mv (.t 70))])
 (.seq (.reg [ji 71 (.mv (.t 10)), ji 72 (.mv (.t 71)), jg 73 72 true (.mv (.t 7)), jg 74 72 true (.call 209 [(.t 73)]), ji 75 (.pick (.t 72) (.t 74) (.c (.bool false))), ji 76 (.mv (.t 3)), ji 77 (.call 54 [(.t 75), (.t 76), (ci 2)])])
 (.seq (.reg [ji 78 (.mv (.t 7)), ji 79 (.i2s (.t 78)), ji 2 (.mv (.t 79))])
 .ret))))))))))), [.tmp 2]⟩
theorem cF172 : cFn prog 172 = some F172 := by kernel_rfl
variable {G : Gl}
def numF (l : List UInt8) : Int := l.foldl (fun n c => 10 * n + ((c.toNat : Int) - 48)) 0
def ents : List (List UInt8 × List UInt8) := [([38, 97, 109, 112, 59], [38]), ([38, 108, 116, 59], [60]), ([38, 103, 116, 59], [62]), ([38, 113, 117, 111, 116, 59], [34]), ([38, 97, 112, 111, 115, 59], [39])]
def entityF (s : List UInt8) (i : Nat) : RES (List UInt8 × Nat) :=
 match ents.find? (fun p => p.1.isPrefixOf (s.drop i)) with
 | some p => .ok (p.2, i + p.1.length)
 | none =>
   bif !(List.isPrefixOf [38, 35] (s.drop i)) then .error (i, 3) else
   let k := span isDigit 7 (s.drop (i + 2))
   let ds := (s.drop (i + 2)).take k
   bif !(!(ds == []) && List.isPrefixOf [59] (s.drop (i + 2 + k))) then .error (i, 3) else
   let n := numF ds
   bif !((decide (n ≥ 32) || (decide (0 ≤ Lib.indexByte [9, 10, 13] n.toNat.toUInt8) && decide (n > 0))) && Lib.validRune n) then .error (i, 2) else
   .ok ((Utf8.encode n).data.toList, i + 2 + k + 1)
theorem SubH.updB {A B : Hp} (h : SubH A B) (b : Nat) (o : Option DO) : SubH (A.upd b o) (B.upd b o) := by
 intro k x hk
 by_cases e : k = b
 · subst e; rw [Hp.upd_same] at hk ⊢; exact hk
 · rw [Hp.upd_ne e] at hk ⊢; exact h k x hk
def entT : List DV := [.str [38, 97, 109, 112, 59], .str [38], .str [38, 108, 116, 59], .str [60], .str [38, 103, 116, 59], .str [62], .str [38, 113, 117, 111, 116, 59], .str [34], .str [38, 97, 112, 111, 115, 59], .str [39]]
theorem ent_row (s : List UInt8) : ∀ n, n < 5 → ∃ p, partD true 0 2 (entT.drop (n * 2)) = some (.agg [.str p.1, .str p.2]) ∧ p.1.length ≤ 6 ∧
  ∀ f : List UInt8 × List UInt8 → Bool, (ents.drop n).find? f = match f p with | true => some p | false => (ents.drop (n + 1)).find? f
 | 0, _ => ⟨_, rfl, by decide, fun f => rfl⟩
 | 1, _ => ⟨_, rfl, by decide, fun f => rfl⟩
 | 2, _ => ⟨_, rfl, by decide, fun f => rfl⟩
 | 3, _ => ⟨_, rfl, by decide, fun f => rfl⟩
 | 4, _ => ⟨_, rfl, by decide, fun f => rfl⟩
 | n + 5, h => by omega
theorem digit_range {c : UInt8} (h : isDigit c = true) : 48 ≤ c.toNat ∧ c.toNat ≤ 57 := by
 simp only [isDigit, Bool.and_eq_true, decide_eq_true_eq, UInt8.le_iff_toNat_le] at h
 exact h
theorem numF_snoc (l : List UInt8) (c : UInt8) : numF (l ++ [c]) = 10 * numF l + ((c.toNat : Int) - 48) := by simp [numF]
theorem numF_from : ∀ (l : List UInt8) (n : Int), 0 ≤ n → (∀ c ∈ l, isDigit c = true) → 0 ≤ l.foldl (fun n c => 10 * n + ((c.toNat : Int) - 48)) n ∧ l.foldl (fun n c => 10 * n + ((c.toNat : Int) - 48)) n < (n + 1) * 10 ^ l.length
 | [], n, hn, _ => by simp; omega
 | c :: l, n, hn, h => by
   have hd := digit_range (h c (by simp))
   obtain ⟨h1, h2⟩ := numF_from l (10 * n + ((c.toNat : Int) - 48)) (by omega) (fun d hd => h d (by simp [hd]))
   refine ⟨h1, Int.lt_of_lt_of_le h2 ?_⟩
   rw [List.length_cons, Int.pow_succ, Int.mul_comm (10 ^ l.length) 10, ← Int.mul_assoc]
   exact Int.mul_le_mul_of_nonneg_right (by omega) (Int.le_of_lt (Int.pow_pos (by omega)))
theorem numF_range (l : List UInt8) (h : ∀ c ∈ l, isDigit c = true) : 0 ≤ numF l ∧ numF l < 10 ^ l.length := by
 have := numF_from l 0 (by omega) h
 simpa [numF] using this
theorem numF_seven {l : List UInt8} (h : ∀ c ∈ l, isDigit c = true) (hl : l.length ≤ 7) : 0 ≤ numF l ∧ numF l < 10000000 := by
 have h1 := numF_range l h
 have h2 : l.length = 0 ∨ l.length = 1 ∨ l.length = 2 ∨ l.length = 3 ∨ l.length = 4 ∨ l.length = 5 ∨ l.length = 6 ∨ l.length = 7 := by omega
 rcases h2 with h | h | h | h | h | h | h | h <;> rw [h] at h1 <;> omega
theorem span_max (p : UInt8 → Bool) : ∀ (m : Nat) (l : List UInt8), span p m l ≤ m
 | 0, l => by simp [span]
 | m + 1, [] => by simp [span]
 | m + 1, c :: l => by
   have := span_max p m l
   simp only [span]
   cases p c <;> simp <;> omega
theorem span_all (p : UInt8 → Bool) : ∀ (m : Nat) (l : List UInt8), ∀ c ∈ l.take (span p m l), p c = true
 | 0, l, c, h => by simp [span] at h
 | m + 1, [], c, h => by simp at h
 | m + 1, d :: l, c, h => by
   simp only [span] at h
   cases e : p d with
   | false => rw [e] at h; simp at h
   | true =>
     rw [e] at h
     simp only [cond_true, List.take_succ_cons, List.mem_cons] at h
     rcases h with rfl | h
     · exact e
     · exact span_all p m l c h
theorem entity_ok {b : Nat} {s : List UInt8} {i : Nat} {ty : TypeId} {H : Hp} (hb : H b = rd s i ty) (hi : i ≤ s.length) (hs : s.length ≤ 4611686018427387000) :
  CALL prog G 172 [.ptr b 0] H (Kr1 (entityF s i) (fun v => .str v.1) (·.2) s b ty H) (Kp1 (entityF s i) s b ty H) := by
 refine CALL.of cF172 (Nat.le_of_ble_eq_true rfl) ?_
 refine AC.seq (AC.reg ?_)
 refine go ?_
 refine RG.nilS (AC.seq (AC.reg ?_))
 refine go ?_
 refine RG.nilS (AC.seq (AC.seq (AC.reg ?_)))
 refine go ?_
 refine RG.st (ST.bsl (cs := entT) rfl fun g hg => ?_)
 refine RG.drop (SubH.fresh hg) ?_
 refine go ?_
 refine RG.nilS ?_
 refine AC.bloopH (α := Nat) (β := Unit) (fun n => 5 - n) (fun n => [(0, .ptr b 0), (3, .int .i64 i), (20, .lst entT 5 2 (some (g, 0))), (21, .int .i64 5), (22, .int .i64 n)])
  (fun n H' => H' = H ∧ n ≤ 5 ∧ ents.find? (fun p => p.1.isPrefixOf (s.drop i)) = (ents.drop n).find? (fun p => p.1.isPrefixOf (s.drop i))) (fun _ => [(0, .ptr b 0), (3, .int .i64 i)])
  (fun _ H' => H' = H ∧ ents.find? (fun p => p.1.isPrefixOf (s.drop i)) = none) ?_ ?_ 0 H ⟨rfl, by omega, rfl⟩ ⟨rfl, rfl, rfl, rfl, rfl, trivial⟩
 · intro _ He fr ⟨h1, hfind⟩ hfr
   subst h1
   have hF : entityF s i = (bif !(List.isPrefixOf [38, 35] (s.drop i)) then .error (i, 3) else
     bif !(!((s.drop (i + 2)).take (span isDigit 7 (s.drop (i + 2))) == []) && List.isPrefixOf [59] (s.drop (i + 2 + span isDigit 7 (s.drop (i + 2))))) then .error (i, 3) else
     bif !((decide (numF ((s.drop (i + 2)).take (span isDigit 7 (s.drop (i + 2)))) ≥ 32) || (decide (0 ≤ Lib.indexByte [9, 10, 13] (numF ((s.drop (i + 2)).take (span isDigit 7 (s.drop (i + 2))))).toNat.toUInt8) && decide (numF ((s.drop (i + 2)).take (span isDigit 7 (s.drop (i + 2)))) > 0))) && Lib.validRune (numF ((s.drop (i + 2)).take (span isDigit 7 (s.drop (i + 2)))))) then .error (i, 2) else
     .ok ((Utf8.encode (numF ((s.drop (i + 2)).take (span isDigit 7 (s.drop (i + 2)))))).data.toList, i + 2 + span isDigit 7 (s.drop (i + 2)) + 1)) := by
    simp only [entityF, hfind]
   refine AC.to _ hfr (AC.seq (AC.reg ?_))
   refine go ?_
   refine RG.callR .d rfl (has_ok (t := [38, 35]) hb hi (by simp; omega)) ?_
   refine go ?_
   refine RG.call .d rfl (need_ok _ i 3 _) (fun d H' ⟨e1, e2, e3⟩ => ?_) (fun d H' ⟨e1, e2, e3⟩ => ?_)
   rotate_left
   · rw [e1] at hF e3
     exact ⟨H', SubH.refl _, (i, 3), i, by rw [hF]; rfl, e2, hi, e3⟩
   subst e2; subst e3
   rw [e1] at hF ⊢
   simp only [Bool.not_true, cond_false, cond_true, List.length_cons, List.length_nil] at hF ⊢
   have hi2 : i + 2 ≤ s.length := by
    have := (List.isPrefixOf_iff_prefix.1 e1).length_le
    simp at this; omega
   refine RG.nilS (AC.seq (AC.reg ?_))
   refine go ?_
   refine RG.callR .d rfl (while_ok (p := isDigit) (m := 7) digit_ok (b := b) (s := s) (i := i + 2) (ty := ty) Hp.upd_same hi2 (by omega)) ?_
   have hk1 := span_le isDigit 7 (s.drop (i + 2))
   have hk2 := span_max isDigit 7 (s.drop (i + 2))
   have hk3 := span_all isDigit 7 (s.drop (i + 2))
   generalize hkk : span isDigit 7 (s.drop (i + 2)) = k at hk1 hk2 hk3 hF
   generalize hdd : (s.drop (i + 2)).take k = ds at hk3 hF
   have hdl : ds.length ≤ 7 := by rw [← hdd, List.length_take]; omega
   simp only [List.length_drop] at hk1
   rw [Hp.upd_upd]
   refine go ?_
   refine RG.nilS (AC.seq (AC.reg ?_))
   refine go ?_
   cases e4 : ds == []
   rotate_left
   · refine go ?_
     refine RG.call .d rfl (need_ok false i 3 _) (fun d H' ⟨f1, f2, f3⟩ => by cases f1) (fun d H' ⟨f1, f2, f3⟩ => ?_)
     rw [e4] at hF
     exact ⟨H', SubH.refl _, (i, 3), i + 2 + k, by rw [hF]; rfl, f2, by omega, f3⟩
   rw [e4] at hF
   refine go ?_
   refine RG.callR .d rfl (has_ok (t := [59]) (b := b) (s := s) (i := i + 2 + k) (ty := ty) Hp.upd_same (by omega) (by simp; omega)) ?_
   rw [Hp.upd_upd]
   refine go ?_
   refine RG.call .d rfl (need_ok _ i 3 _) (fun d H' ⟨f1, f2, f3⟩ => ?_) (fun d H' ⟨f1, f2, f3⟩ => ?_)
   rotate_left
   · rw [f1] at hF f3
     exact ⟨H', SubH.refl _, (i, 3), i + 2 + k, by rw [hF]; rfl, f2, by omega, f3⟩
   subst f2; subst f3
   rw [f1] at hF ⊢
   simp only [Bool.not_true, Bool.not_false, Bool.and_true, cond_false, cond_true, List.length_cons, List.length_nil] at hF ⊢
   have hi3 : i + 2 + k + 1 ≤ s.length := by
    have := (List.isPrefixOf_iff_prefix.1 f1).length_le
    simp at this; omega
   obtain ⟨hn1, hn2⟩ := numF_seven hk3 hdl
   refine RG.nilS (AC.seq (AC.reg ?_))
   refine go ?_
   refine RG.nilS (AC.seq (AC.seq (AC.reg ?_)))
   refine go ?_
   refine RG.s .d (ST.s2b rfl ?_)
   refine go ?_
   refine RG.nilS ?_
   refine AC.bloopH (α := Nat) (β := Unit) (fun n => ds.length - n) (fun n => [(0, .ptr b 0), (3, .int .i64 i), (7, .int .i32 (numF (ds.take n))), (48, .lst (ds.map B8) ds.length 1 none), (49, .int .i64 ds.length), (50, .int .i64 n)])
    (fun n H' => H' = He.upd b (rd s (i + 2 + k + 1) ty) ∧ n ≤ ds.length) (fun _ => [(0, .ptr b 0), (3, .int .i64 i), (7, .int .i32 (numF ds))])
    (fun _ H' => H' = He.upd b (rd s (i + 2 + k + 1) ty)) ?_ ?_ 0 _ ⟨rfl, Nat.zero_le _⟩ ⟨rfl, rfl, rfl, rfl, rfl, rfl, trivial⟩
   · intro _ He2 fr h1 hfr
     subst h1
     generalize hnn : numF ds = n at hF hn1 hn2 hfr
     refine AC.to _ hfr (AC.seq (AC.reg ?_))
     have last : ∀ (x : Bool), (entityF s i = bif !x then .error (i, 2) else .ok ((Utf8.encode n).data.toList, i + 2 + k + 1)) →
        RG prog G none 80 [ji 76 (.mv (.t 3)), ji 77 (.call 54 [(.t 75), (.t 76), (ci 2)])] (Sq prog G none 80 (.seq (.reg [ji 78 (.mv (.t 7)), ji 79 (.i2s (.t 78)), ji 2 (.mv (.t 79))])
 .ret) (Fin [.tmp 2] (Kr1 (entityF s i) (fun v => .str v.1) (·.2) s b ty He) (Kp1 (entityF s i) s b ty He))) (frOf [(3, .int .i64 i), (7, .int .i32 n), (75, .bool x)]) (He.upd b (rd s (i + 2 + k + 1) ty)) := by
      intro x hE
      refine go ?_
      refine RG.call .d rfl (need_ok x i 2 _) (fun d H' ⟨g1, g2, g3⟩ => ?_) (fun d H' ⟨g1, g2, g3⟩ => ?_)
      · subst g2; subst g3; subst g1
        refine RG.nilS (AC.seq (AC.reg ?_))
        refine go1 ?_
        refine RG.s .d (ST.i2s rfl ?_)
        refine go ?_
        exact RG.nilS (AC.ret (fin rfl ⟨_, hE, rfl, rfl⟩))
      · subst g1
        exact ⟨H', SubH.refl _, (i, 2), i + 2 + k + 1, by rw [hE]; rfl, g2, hi3, g3⟩
     have fin1 : ∀ (v : Bool), (decide (n ≥ 32) || (decide (0 ≤ Lib.indexByte [9, 10, 13] n.toNat.toUInt8) && decide (n > 0))) = v →
       AC prog G none 80 (.seq (.reg [ji 71 (.mv (.t 10)), ji 72 (.mv (.t 71)), jg 73 72 true (.mv (.t 7)), jg 74 72 true (.call 209 [(.t 73)]), ji 75 (.pick (.t 72) (.t 74) (.c (.bool false))), ji 76 (.mv (.t 3)), ji 77 (.call 54 [(.t 75), (.t 76), (ci 2)])])
 (.seq (.reg [ji 78 (.mv (.t 7)), ji 79 (.i2s (.t 78)), ji 2 (.mv (.t 79))])
 .ret)) (Fin [.tmp 2] (Kr1 (entityF s i) (fun v => .str v.1) (·.2) s b ty He) (Kp1 (entityF s i) s b ty He)) (frOf [(3, .int .i64 i), (7, .int .i32 n), (10, .bool v)]) (He.upd b (rd s (i + 2 + k + 1) ty)) := by
      intro v hv
      rw [hv] at hF
      refine AC.seq (AC.reg ?_)
      cases v
      · refine go1 ?_
        refine go1 ?_
        refine go1 ?_
        refine go1 ?_
        refine go1 ?_
        refine RG.to [(3, .int .i64 i), (7, .int .i32 n), (75, .bool false)] ⟨rfl, rfl, rfl, trivial⟩ (last false (by rw [hF]; rfl))
      · refine go1 ?_
        refine go1 ?_
        refine go1 ?_
        refine RG.callP .d rfl (validRune_ok n) ?_
        refine go1 ?_
        refine RG.to [(3, .int .i64 i), (7, .int .i32 n), (75, .bool (Lib.validRune n))] ⟨rfl, rfl, rfl, trivial⟩ (last (Lib.validRune n) (by rw [hF]; rfl))
     refine go ?_
     cases q1 : decide (n ≥ 32)
     · have hlt := of_decide_eq_false q1
       refine go ?_
       refine RG.callP .d rfl (containsRune_ok [9, 10, 13] n (by omega) (by omega)) ?_
       refine go ?_
       cases q2 : decide (0 ≤ Lib.indexByte [9, 10, 13] n.toNat.toUInt8)
       · refine go ?_
         exact RG.nilS (AC.to [(3, .int .i64 i), (7, .int .i32 n), (10, .bool false)] ⟨rfl, rfl, rfl, trivial⟩ (fin1 false (by rw [q1, q2]; rfl)))
       · refine go ?_
         exact RG.nilS (AC.to [(3, .int .i64 i), (7, .int .i32 n), (10, .bool (decide (n > 0)))] ⟨rfl, rfl, rfl, trivial⟩ (fin1 (decide (n > 0)) (by rw [q1, q2]; rfl)))
     · refine go ?_
       exact RG.nilS (AC.to [(3, .int .i64 i), (7, .int .i32 n), (10, .bool true)] ⟨rfl, rfl, rfl, trivial⟩ (fin1 true (by rw [q1]; rfl)))
   · intro n H' ⟨h1, h2⟩ ih ex
     subst h1
     refine AC.seq (AC.reg ?_)
     refine go ?_
     cases e1 : decide ((n : Int) < ds.length)
     · have e := of_decide_eq_false e1
       have ht : ds.take n = ds := List.take_of_length_le (by omega)
       exact RG.nilS (AC.seq (AC.cond_f rfl (AC.exit (ex () _ _ rfl ⟨rfl, rfl, by rw [ht]; rfl, trivial⟩))))
     · have e := of_decide_eq_true e1
       have hn : n < ds.length := by omega
       refine RG.nilS (AC.seq (AC.cond_t rfl (AC.skip (AC.seq (AC.block (AC.seq (AC.reg ?_)))))))
       refine RG.p .d (evP_iadr wh wh (by omega)) ?_
       refine RG.p .d (evP_ldc wh (partD_one (d := B8 ds[n]) (by simp [hn]))) ?_
       refine go ?_
       have hd := digit_range (hk3 ds[n] (List.getElem_mem hn))
       have hp1 := numF_seven (l := ds.take n) (fun c hc => hk3 c (List.mem_of_mem_take hc)) (by rw [List.length_take]; omega)
       have hsn : numF (ds.take (n + 1)) = 10 * numF (ds.take n) + ((ds[n].toNat : Int) - 48) := by
        rw [List.take_succ_eq_append_getElem hn, numF_snoc]
       have hp2 := numF_seven (l := ds.take (n + 1)) (fun c hc => hk3 c (List.mem_of_mem_take hc)) (by rw [List.length_take]; omega)
       refine RG.nilS (AC.reg ?_)
       refine go1 ?_
       refine RG.p (d := .int .i32 (10 * numF (ds.take n))) .d (by
        show some (DV.int .i32 (IntKind.i32.wrap (10 * numF (ds.take n)))) = _
        rw [IntWalk.i32_in _ (by omega)]) ?_
       refine go1 ?_
       refine RG.p (d := .int .u8 ((ds[n].toNat : Int) - 48)) .d (by
        show some (DV.int .u8 (IntKind.u8.wrap ((ds[n].toNat : Int) - 48))) = _
        rw [IntWalk.u8_in _ (by omega)]) ?_
       refine RG.p (d := .int .i32 ((ds[n].toNat : Int) - 48)) .d (by
        show some (DV.int .i32 (IntKind.i32.wrap ((ds[n].toNat : Int) - 48))) = _
        rw [IntWalk.i32_in _ (by omega)]) ?_
       refine RG.p (d := .int .i32 (numF (ds.take (n + 1)))) .d (by
        show some (DV.int .i32 (IntKind.i32.wrap (10 * numF (ds.take n) + ((ds[n].toNat : Int) - 48)))) = _
        rw [← hsn, IntWalk.i32_in _ (by omega)]) ?_
       refine go ?_
       refine RG.nil (AC.reg ?_)
       refine go ?_
       exact RG.nil (ih (n + 1) _ ⟨rfl, by omega⟩ (by omega) _ ⟨rfl, rfl, rfl, rfl, rfl, rfl, trivial⟩)
 · intro n H' ⟨h1, h2, h3⟩ ih ex
   subst h1
   refine AC.seq (AC.reg ?_)
   refine go ?_
   cases e1 : decide ((n : Int) < 5)
   · have e := of_decide_eq_false e1
     have hn : n = 5 := by omega
     subst hn
     exact RG.nilS (AC.seq (AC.cond_f rfl (AC.exit (ex () _ _ ⟨rfl, h3⟩ ⟨rfl, rfl, trivial⟩))))
   · have e := of_decide_eq_true e1
     obtain ⟨p, hp1, hp2, hp3⟩ := ent_row s n (by omega)
     rw [hp3] at h3
     refine RG.nilS (AC.seq (AC.cond_t rfl (AC.skip (AC.seq (AC.block (AC.seq (AC.reg ?_)))))))
     have hp1' : partD true 0 2 (entT.drop (((n : Nat) : Int).toNat * 2)) = some (.agg [.str p.1, .str p.2]) := hp1
     refine RG.p .d (evP_iadr wh wh (by omega)) ?_
     refine RG.p .d (evP_ldc wh hp1') ?_
     refine RG.alloc .d fun q hq => ?_
     have hbq : b ≠ q := fun e => by rw [e, hq] at hb; cases hb
     refine go ?_
     refine RG.nilS (AC.seq (AC.reg ?_))
     refine go ?_
     refine RG.callR .d rfl (has_ok (b := b) (s := s) (i := i) (ty := ty) (by rw [Hp.upd_upd, Hp.upd_ne hbq]; exact hb) hi (by omega)) ?_
     rw [Hp.upd_upd, Hp.upd_comm (Ne.symm hbq)]
     have hq' : ∀ o, (H'.upd b o) q = none := fun o => by rw [Hp.upd_ne (Ne.symm hbq)]; exact hq
     cases hpre : p.1.isPrefixOf (s.drop i)
     · refine RG.nilS (AC.cond_f rfl (AC.skip ?_))
       rw [hpre] at h3
       have hid : H'.upd b (rd s i ty) = H' := Hp.upd_id hb
       rw [cond_false, hid]
       refine AC.drop (SubH.fresh hq) (AC.reg ?_)
       refine go ?_
       exact RG.nil (ih (n + 1) _ ⟨rfl, by omega, h3⟩ (by omega) _ ⟨rfl, rfl, rfl, rfl, rfl, trivial⟩)
     · rw [hpre] at h3
       have hF : entityF s i = .ok (p.2, i + p.1.length) := by simp only [entityF, h3]
       refine RG.nilS (AC.cond_t rfl (AC.seq (AC.reg ?_)))
       refine go ?_
       exact RG.nilS (AC.ret (finD (H' := H'.upd b (rd s (i + p.1.length) ty)) rfl (SubH.fresh (hq' _)) ⟨_, hF, rfl, rfl⟩))
open Go Go.Run
inductive El where
 | mk (page : Int) (name text : List UInt8) (op : Bool) (kids : List El)
mutual
def elC : El → List DV
 | .mk p n t o ks => [.int .i64 p, .str n, .str t, .bool o, .lst (elsC ks) ks.length 5 none]
def elsC : List El → List DV
 | [] => []
 | k :: ks => elC k ++ elsC ks
end
theorem elC_length : ∀ (e : El), (elC e).length = 5
 | .mk _ _ _ _ _ => rfl
theorem elsC_length : ∀ (ks : List El), (elsC ks).length = ks.length * 5
 | [] => rfl
 | k :: ks => by rw [elsC, List.length_append, elC_length, elsC_length ks, List.length_cons]; omega
theorem elsC_append : ∀ (a b : List El), elsC (a ++ b) = elsC a ++ elsC b
 | [], b => rfl
 | k :: a, b => by rw [List.cons_append, elsC, elsC, elsC_append a b, List.append_assoc]
mutual
def dp : El → Nat
 | .mk _ _ _ _ ks => 1 + dps ks
def dps : List El → Nat
 | [] => 0
 | k :: ks => max (dp k) (dps ks)
end
mutual
def pre (m : Nat) : El → Nat → List (Nat × El)
 | .mk p n t o ks, d => bif Nat.blt m d then [] else (d, .mk p n t o ks) :: pres m ks (d + 1)
def pres (m : Nat) : List El → Nat → List (Nat × El)
 | [], _ => []
 | k :: ks, d => pre m k d ++ pres m ks d
end
def letters64 : List UInt8 := [65, 66, 67, 68, 69, 70, 71, 72, 73, 74, 75, 76, 77, 78, 79, 80, 81, 82, 83, 84, 85, 86, 87, 88, 89, 90, 97, 98, 99, 100, 101, 102, 103, 104, 105, 106, 107, 108, 109, 110, 111, 112, 113, 114, 115, 116, 117, 118, 119, 120, 121, 122, 48, 49, 50, 51, 52, 53, 54, 55, 56, 57, 43, 47]
def lt64 (k : Nat) : UInt8 := letters64.getD k 0
def encW (w n : Nat) : List UInt8 := [lt64 (w / 262144 % 64), lt64 (w / 4096 % 64), bif Nat.blt n 2 then 61 else lt64 (w / 64 % 64), bif Nat.blt n 3 then 61 else lt64 (w % 64)]
def word3 (a b c : UInt8) : Nat := a.toNat * 65536 + b.toNat * 256 + c.toNat
def encF : List UInt8 → List UInt8
 | [] => []
 | [a] => encW (word3 a 0 0) 1
 | [a, b] => encW (word3 a b 0) 2
 | a :: b :: c :: l => encW (word3 a b c) 3 ++ encF l
def at64 (c : UInt8) : Int := Lib.indexByte letters64 c
def bytes3 (w : Nat) : List UInt8 := [UInt8.ofNat (w / 65536), UInt8.ofNat (w / 256), UInt8.ofNat w]
def decGo : List UInt8 → List UInt8 → Nat → Nat → Nat → Bool → List UInt8 × Int
 | [], b, _, n, _, odd => bif !(n == 0) then ([], 1) else bif odd then ([], 3) else (b, 0)
 | c :: l, b, w, n, g, odd =>
   bif isWs c then decGo l b w n g odd else
   bif decide (at64 c < 0) && !(c == 61) then ([], 3) else
   bif decide (0 < g) && n == 0 then ([], 6) else
   bif (c == 61 && decide (n < 2)) || (!(c == 61) && decide (0 < g)) then ([], 3) else
   let g' := bif c == 61 then g + 1 else g
   let w' := w * 64 % 4294967296 ||| (bif c == 61 then 0 else (at64 c).toNat)
   bif decide (n + 1 < 4) then decGo l b w' (n + 1) g' odd else
   decGo l (b ++ (bytes3 w').take (3 - g')) 0 0 g' (odd || !(w' % 2 ^ (8 * g') == 0))
def decF (s : List UInt8) : List UInt8 × Int := decGo s [] 0 0 0 false
def shownF (t : List UInt8) : Bool := Lib.validD t && !(t.any isCtl)
def check1 : El → Int
 | .mk p n t o ks =>
   bif decide (p < 0) || decide (p ≥ 3) then 5 else bif !isName n then 14 else bif decide (((ks.length : Nat) : Int) > 200) then 4 else
   bif decide (((ks.length : Nat) : Int) > 0) && !(t == []) then 7 else bif decide (((t.length : Nat) : Int) > 4000) then 8 else
   bif (o && t == []) || (!o && !shownF t) then 3 else 0
def firstErr : List (Nat × El) → Int
 | [] => 0
 | p :: l => bif check1 p.2 == 0 then firstErr l else check1 p.2
def looked (e : El) : List (Nat × El) := (pre 13 e 1).take 5000
def weightF (e : El) : Nat := ((pre 5000 e 1).take 5000).length
def checkF (e : El) : Int := bif (looked e).any (fun p => decide (12 < p.1)) then 9 else bif decide (2000 < weightF e) then 4 else firstErr (looked e)
def spaceMark : List UInt8 := [120, 109, 108, 110, 115, 61, 34]
def codeMark : List UInt8 := [101, 110, 99, 61, 34]
def b64 : List UInt8 := [98, 54, 52]
def rawM : List UInt8 := [60, 33, 91, 67, 68, 65, 84, 65, 91]
def rawEnd : List UInt8 := [93, 93, 62]
def remM : List UInt8 := [60, 33, 45, 45]
def remEnd : List UInt8 := [45, 45, 62]
def headF : List UInt8 := [60, 63, 120, 109, 108, 32, 118, 101, 114, 115, 105, 111, 110, 61, 34, 49, 46, 48, 34, 63, 62]
def headB : List UInt8 := [60, 63, 120, 109, 108]
def headE : List UInt8 := [63, 62]
mutual
def putF (pg : Int) : El → List UInt8
 | .mk p n t o ks =>
   let text := bif o then encF t else esc t
   [60] ++ n ++ (bif p == pg then [] else [32] ++ spaceMark ++ spaceOf p ++ [34]) ++ (bif o then [32] ++ codeMark ++ b64 ++ [34] else []) ++
    (bif text == [] && Nat.beq ks.length 0 then [47, 62] else [62] ++ text ++ putsF p ks ++ [60, 47] ++ n ++ [62])
def putsF (pg : Int) : List El → List UInt8
 | [] => []
 | k :: ks => putF pg k ++ putsF pg ks
end
def docF (e : El) : List UInt8 := headF ++ putF 0 e
def writeF (e : El) : List UInt8 × Int := bif !(checkF e == 0) then ([], checkF e) else bif decide ((((docF e).length : Nat) : Int) > 12000) then ([], 8) else (docF e, 0)
def uptoF (s t : List UInt8) (i : Nat) : RES (List UInt8 × Nat) :=
 match cutO t (s.drop i) with
 | some p => .ok (p.1, i + (p.1.length + t.length))
 | none => .error ((s.length : Nat), 1)
def attrsF (s : List UInt8) : Nat → Nat → Int → Bool → Bool → RES (Bool × Nat × Int × Bool)
 | 0, _, _, _, _ => .error (0, 0)
 | f + 1, i, pg, nm, by_ =>
   let j := i + wsN (s.drop i)
   bif List.isPrefixOf [47, 62] (s.drop j) then .ok (true, j + 2, pg, by_)
   else bif List.isPrefixOf [62] (s.drop j) then .ok (false, j + 1, pg, by_)
   else bif !(decide (0 < wsN (s.drop i))) then .error ((j : Nat), 3)
   else bif List.isPrefixOf spaceMark (s.drop j) then
    bif nm then .error ((j : Nat), 11) else
    match uptoF s [34] (j + 7) with
    | .error e => .error e
    | .ok (v, k) => bif decide (pageOf v ≥ 0) then attrsF s f k (pageOf v) true by_ else .error ((j : Nat), 5)
   else bif List.isPrefixOf codeMark (s.drop j) then
    bif by_ then .error ((j : Nat), 11) else
    match uptoF s [34] (j + 5) with
    | .error e => .error e
    | .ok (v, k) => bif v == b64 then attrsF s f k pg nm true else .error ((j : Nat), 5)
   else .error ((j : Nat), 3)
def withinF (s : List UInt8) (kid : Nat → RES (El × Nat)) (more : Bool) : Nat → Nat → List UInt8 → List El → RES (List UInt8 × List El × Nat)
 | 0, _, _, _ => .error (0, 0)
 | f + 1, i, b, ks =>
   bif List.isPrefixOf [60, 47] (s.drop i) then .ok (b, ks, i + 2) else
   match s.drop i with
   | [] => .error ((i : Nat), 1)
   | c :: l =>
     bif c == 38 then
      match entityF s i with
      | .error e => .error e
      | .ok (x, j) => withinF s kid more f j (b ++ x) ks
     else bif List.isPrefixOf rawM (s.drop i) then
      match uptoF s rawEnd (i + 9) with
      | .error e => .error e
      | .ok (x, j) => withinF s kid more f j (b ++ x) ks
     else bif List.isPrefixOf remM (s.drop i) then
      match uptoF s remEnd (i + 4) with
      | .error e => .error e
      | .ok (_, j) => withinF s kid more f j b ks
     else bif !(c == 60) then withinF s kid more f (i + 1) (b ++ [c]) ks
     else bif !(match l with | [] => false | c2 :: _ => isLetter c2) then .error ((i : Nat), 3)
     else bif !more then .error ((i : Nat), 9)
     else bif !(decide (ks.length < 200)) then .error ((i : Nat), 4)
     else match kid i with
      | .error e => .error e
      | .ok (x, j) => withinF s kid more f j b (ks ++ [x])
def trimF (t : List UInt8) : List UInt8 := (trimR isWs t).dropWhile isWs
def nameOk : List UInt8 → Bool
 | [] => false
 | c :: l => isLetter c && decide ((((c :: l).length : Nat) : Int) ≤ 32)
def endF (p : Int) (n t : List UInt8) (by_ : Bool) (ks : List El) (e q : Nat) : RES (El × Nat) :=
 bif decide (0 < ks.length) then (bif !by_ && trimF t == [] then .ok (.mk p n [] false ks, q) else .error ((e : Nat), 7))
 else bif by_ then (bif (decF t).2 == 0 then .ok (.mk p n (decF t).1 (!((decF t).1 == [])) [], q) else .error ((e : Nat), (decF t).2))
 else .ok (.mk p n t false [], q)
def elemB (s : List UInt8) (kid : Int → Nat → RES (El × Nat)) (more : Bool) (pg : Int) (i : Nat) : RES (El × Nat) :=
 bif s.drop i == [] then .error ((i : Nat), 1) else
 bif !(List.isPrefixOf [60] (s.drop i)) then .error ((i : Nat), 3) else
 let k := span isNameC s.length (s.drop (i + 1))
 let n := (s.drop (i + 1)).take k
 bif !(nameOk n) then .error (((i + 1 : Nat) : Int), 14) else
 match attrsF s (s.length + 1) (i + 1 + k) pg false false with
 | .error e => .error e
 | .ok (true, j, p, _) => .ok (.mk p n [] false [], j)
 | .ok (false, j, p, by_) =>
   match withinF s (kid p) more (s.length + 1) j [] [] with
   | .error e => .error e
   | .ok (t, ks, m) =>
     match closeF s n m with
     | .error e => .error e
     | .ok q => endF p n t by_ ks (m - 2) q
def elemF (s : List UInt8) : Nat → Int → Nat → RES (El × Nat)
 | 0 => elemB s (fun _ _ => .error (0, 0)) false
 | d + 1 => elemB s (elemF s d) true
def El0 : El := .mk 0 [] [] false []
def readR (s : List UInt8) : RES El :=
 match (bif List.isPrefixOf headB s then uptoF s headE 5 else .ok ([], 0)) with
 | .error e => .error e
 | .ok (_, i) =>
   match elemF s 11 0 (i + wsN (s.drop i)) with
   | .error e => .error e
   | .ok (x, j) =>
     let k := j + wsN (s.drop j)
     bif s.drop k == [] then (bif checkF x == 0 then .ok x else .error (0, checkF x)) else .error ((k : Nat), 6)
def readF (s : List UInt8) : El × Int × Int :=
 bif decide (((s.length : Nat) : Int) > 12000) then (El0, 0, 8) else
 bif !(Lib.validD s) then (El0, 0, 16) else
 match readR s with
 | .error e => (El0, e.1, e.2)
 | .ok x => (x, 0, 0)
open Go Go.Run
open Go.Proofs.Tryz (prog)
theorem at64_all : (List.range 64).all (fun k => at64 (lt64 k) == (k : Int) && !(isWs (lt64 k)) && !(lt64 k == 61) && decide (lt64 k < 128) && !(lt64 k == 38) && !(lt64 k == 60) && !(lt64 k == 62) && !isCtl (lt64 k)) = true := by kernel_rfl
theorem lt64_spec (k : Nat) (h : k < 64) : at64 (lt64 k) = k ∧ isWs (lt64 k) = false ∧ (lt64 k == 61) = false ∧ lt64 k < 128 ∧ (lt64 k == 38) = false ∧ (lt64 k == 60) = false ∧ (lt64 k == 62) = false ∧ isCtl (lt64 k) = false := by
 have := List.all_eq_true.1 at64_all k (List.mem_range.2 h)
 simp only [Bool.and_eq_true, beq_iff_eq, Bool.not_eq_true', decide_eq_true_eq] at this
 obtain ⟨⟨⟨⟨⟨⟨⟨h1, h2⟩, h3⟩, h4⟩, h5⟩, h6⟩, h7⟩, h8⟩ := this
 exact ⟨h1, h2, h3, h4, h5, h6, h7, h8⟩
theorem or64 (w k : Nat) (h : k < 64) (hw : w < 67108864) : w * 64 % 4294967296 ||| k = w * 64 + k := by
 have h1 : w * 64 % 4294967296 = 2 ^ 6 * w := by omega
 rw [h1, ← Nat.two_pow_add_eq_or_of_lt (i := 6) (by omega)]
 omega
theorem dec_step (k : Nat) (h : k < 64) (l b : List UInt8) (w n : Nat) (odd : Bool) (hw : w < 67108864) (hn : n < 3) : decGo (lt64 k :: l) b w n 0 odd = decGo l b (w * 64 + k) (n + 1) 0 odd := by
 obtain ⟨h1, h2, h3, _⟩ := lt64_spec k h
 have e4 : decide (n + 1 < 4) = true := by simp; omega
 have e5 : decide (((k : Nat) : Int) < 0) = false := by simp
 simp only [decGo, h2, h1, h3, e5, e4, cond_false, cond_true, Bool.false_and, decide_false, Bool.and_false, Bool.or_self, Nat.lt_irrefl, Bool.not_false, Bool.and_true, Int.toNat_natCast, or64 w k h hw]
theorem dec_last (k : Nat) (h : k < 64) (l b : List UInt8) (w : Nat) (odd : Bool) (hw : w < 67108864) : decGo (lt64 k :: l) b w 3 0 odd = decGo l (b ++ bytes3 (w * 64 + k)) 0 0 0 odd := by
 obtain ⟨h1, h2, h3, _⟩ := lt64_spec k h
 have e5 : decide (((k : Nat) : Int) < 0) = false := by simp
 have e6 : (w * 64 + k) % 2 ^ (8 * 0) = 0 := by simp; omega
 have e7 : (bytes3 (w * 64 + k)).take (3 - 0) = bytes3 (w * 64 + k) := rfl
 simp only [decGo, h2, h1, h3, e5, cond_false, cond_true, Bool.false_and, decide_false, Bool.and_false, Bool.or_self, Nat.lt_irrefl, Bool.not_false, Bool.and_true, Int.toNat_natCast, or64 w k h hw, e6, e7]
 simp
theorem dec_gap2 (l b : List UInt8) (w : Nat) (odd : Bool) : decGo (61 :: l) b w 2 0 odd = decGo l b (w * 64 % 4294967296) 3 1 odd := by
 have h2 : isWs 61 = false := by decide
 have h3 : at64 61 = -1 := by kernel_rfl
 simp only [decGo, h2, h3]
 simp
theorem dec_gap3 (l b : List UInt8) (w g : Nat) (hg : g < 2) (odd : Bool) : decGo (61 :: l) b w 3 g odd = decGo l (b ++ (bytes3 (w * 64 % 4294967296)).take (3 - (g + 1))) 0 0 (g + 1) (odd || !(w * 64 % 4294967296 % 2 ^ (8 * (g + 1)) == 0)) := by
 have h2 : isWs 61 = false := by decide
 have h3 : at64 61 = -1 := by kernel_rfl
 simp only [decGo, h2, h3]
 simp
theorem bytes3_word (a b c : UInt8) : bytes3 (word3 a b c) = [a, b, c] := by
 have ha := a.toNat_lt; have hb := b.toNat_lt; have hc := c.toNat_lt
 have e1 : UInt8.ofNat (word3 a b c / 65536) = a := UInt8.toNat.inj (by rw [UInt8.toNat_ofNat', word3]; omega)
 have e2 : UInt8.ofNat (word3 a b c / 256) = b := UInt8.toNat.inj (by rw [UInt8.toNat_ofNat', word3]; omega)
 have e3 : UInt8.ofNat (word3 a b c) = c := UInt8.toNat.inj (by rw [UInt8.toNat_ofNat', word3]; omega)
 rw [bytes3, e1, e2, e3]
theorem word3_lt (a b c : UInt8) : word3 a b c < 16777216 := by
 have ha := a.toNat_lt; have hb := b.toNat_lt; have hc := c.toNat_lt
 rw [word3]; omega
theorem dec_enc : ∀ (t bs : List UInt8), decGo (encF t) bs 0 0 0 false = (bs ++ t, 0)
 | [], bs => by simp [encF, decGo]
 | [a], bs => by
   have hW := word3_lt a 0 0
   have ha := a.toNat_lt
   have hm : word3 a 0 0 = a.toNat * 65536 := by simp [word3]
   rw [encF, encW]
   have c1 : Nat.blt 1 2 = true := rfl
   have c2 : Nat.blt 1 3 = true := rfl
   rw [c1, c2, cond_true, cond_true, dec_step _ (by omega) _ _ _ _ _ (by omega) (by omega), dec_step _ (by omega) _ _ _ _ _ (by omega) (by omega), dec_gap2, dec_gap3 _ _ _ _ (by omega)]
   have e : (((0 * 64 + word3 a 0 0 / 262144 % 64) * 64 + word3 a 0 0 / 4096 % 64) * 64 % 4294967296) * 64 % 4294967296 = word3 a 0 0 := by omega
   rw [e, bytes3_word]
   have e2 : word3 a 0 0 % 2 ^ (8 * (1 + 1)) = 0 := by
    show word3 a 0 0 % 65536 = 0
    omega
   rw [e2]
   simp [decGo]
 | [a, b], bs => by
   have hW := word3_lt a b 0
   have hm : word3 a b 0 % 256 = 0 := by simp [word3]; omega
   rw [encF, encW]
   have c1 : Nat.blt 2 2 = false := rfl
   have c2 : Nat.blt 2 3 = true := rfl
   rw [c1, c2, cond_true, cond_false, dec_step _ (by omega) _ _ _ _ _ (by omega) (by omega), dec_step _ (by omega) _ _ _ _ _ (by omega) (by omega), dec_step _ (by omega) _ _ _ _ _ (by omega) (by omega), dec_gap3 _ _ _ _ (by omega)]
   have e : ((((0 * 64 + word3 a b 0 / 262144 % 64) * 64 + word3 a b 0 / 4096 % 64) * 64 + word3 a b 0 / 64 % 64)) * 64 % 4294967296 = word3 a b 0 := by omega
   rw [e, bytes3_word]
   have e2 : word3 a b 0 % 2 ^ (8 * (0 + 1)) = 0 := hm
   rw [e2]
   simp [decGo]
 | a :: b :: c :: t, bs => by
   have hW := word3_lt a b c
   rw [encF, encW]
   have c1 : Nat.blt 3 2 = false := rfl
   have c2 : Nat.blt 3 3 = false := rfl
   rw [c1, c2, cond_false, cond_false, List.cons_append, List.cons_append, List.cons_append, List.cons_append, List.nil_append, dec_step _ (by omega) _ _ _ _ _ (by omega) (by omega), dec_step _ (by omega) _ _ _ _ _ (by omega) (by omega), dec_step _ (by omega) _ _ _ _ _ (by omega) (by omega), dec_last _ (by omega) _ _ _ _ (by omega)]
   have e : (((0 * 64 + word3 a b c / 262144 % 64) * 64 + word3 a b c / 4096 % 64) * 64 + word3 a b c / 64 % 64) * 64 + word3 a b c % 64 = word3 a b c := by omega
   rw [e, bytes3_word, dec_enc t]
   simp
theorem decF_encF (t : List UInt8) : decF (encF t) = (t, 0) := dec_enc t []
def safeB (c : UInt8) : Bool := decide (c < 128) && !(c == 38) && !(c == 60) && !(c == 62) && !isCtl c
theorem lt64_safe (k : Nat) (h : k < 64) : safeB (lt64 k) = true := by
 obtain ⟨_, _, _, h4, h5, h6, h7, h8⟩ := lt64_spec k h
 simp [safeB, h4, h5, h6, h7, h8]
theorem encW_safe (w n : Nat) : ∀ c ∈ encW w n, safeB c = true := by
 intro c hc
 have m : ∀ x, x % 64 < 64 := fun x => Nat.mod_lt _ (by omega)
 have h61 : safeB 61 = true := by decide
 simp only [encW, List.mem_cons, List.not_mem_nil, or_false] at hc
 rcases hc with h | h | h | h
 · rw [h]; exact lt64_safe _ (m _)
 · rw [h]; exact lt64_safe _ (m _)
 · rw [h]; cases Nat.blt n 2
   · exact lt64_safe _ (m _)
   · exact h61
 · rw [h]; cases Nat.blt n 3
   · exact lt64_safe _ (m _)
   · exact h61
theorem encF_safe : ∀ (t : List UInt8), ∀ c ∈ encF t, safeB c = true
 | [], c, h => by simp [encF] at h
 | [a], c, h => encW_safe _ _ c h
 | [a, b], c, h => encW_safe _ _ c h
 | a :: b :: d :: t, c, h => by
   rw [encF] at h
   rcases List.mem_append.1 h with h | h
   · exact encW_safe _ _ c h
   · exact encF_safe t c h
theorem encF_nil : ∀ (t : List UInt8), encF t = [] → t = []
 | [], _ => rfl
 | [a], h => by simp [encF, encW] at h
 | [a, b], h => by simp [encF, encW] at h
 | a :: b :: c :: t, h => by simp [encF, encW] at h
theorem esc_safe : ∀ (l : List UInt8), (∀ c ∈ l, safeB c = true) → esc l = l
 | [], _ => rfl
 | c :: l, h => by
   have h0 := h c (by simp)
   simp only [safeB, Bool.and_eq_true, Bool.not_eq_true'] at h0
   rw [esc, h0.1.1.1.2, h0.1.1.2, h0.1.2, esc_safe l (fun d hd => h d (by simp [hd]))]
   rfl
theorem esc_nil : ∀ (l : List UInt8), esc l = [] → l = []
 | [], _ => rfl
 | c :: l, h => by
   rw [esc] at h
   revert h
   cases c == 38 <;> cases c == 60 <;> cases c == 62 <;> simp
theorem decodeN_mono {n m b0 b1 b2 b3 c1 c2 c3 : Nat} (hm : n ≤ m) (h1 : 1 < n → c1 = b1) (h2 : 2 < n → c2 = b2) (h3 : 3 < n → c3 = b3)
  (hok : ¬ ((Lib.decodeN n b0 b1 b2 b3).1 = 65533 ∧ (Lib.decodeN n b0 b1 b2 b3).2 = 1)) : Lib.decodeN m b0 c1 c2 c3 = Lib.decodeN n b0 b1 b2 b3 := by
 unfold Lib.decodeN at hok ⊢
 by_cases q1 : b0 < 128
 · rw [if_pos q1, if_pos q1]
 rw [if_neg q1] at hok
 rw [if_neg q1, if_neg q1]
 by_cases q2 : b0 / 32 = 6 ∧ (1 < n ∧ b1 / 64 = 2)
 · have e1 := h1 q2.2.1
   subst e1
   have q2' : b0 / 32 = 6 ∧ (1 < m ∧ c1 / 64 = 2) := ⟨q2.1, by omega, q2.2.2⟩
   rw [if_pos q2, if_pos q2']
 rw [if_neg q2] at hok
 by_cases q3 : b0 / 16 = 14 ∧ (1 < n ∧ b1 / 64 = 2) ∧ (2 < n ∧ b2 / 64 = 2)
 · have e1 := h1 q3.2.1.1
   have e2 := h2 q3.2.2.1
   subst e1; subst e2
   have q3' : b0 / 16 = 14 ∧ (1 < m ∧ c1 / 64 = 2) ∧ (2 < m ∧ c2 / 64 = 2) := ⟨q3.1, ⟨by omega, q3.2.1.2⟩, by omega, q3.2.2.2⟩
   have q2' : ¬ (b0 / 32 = 6 ∧ (1 < m ∧ c1 / 64 = 2)) := by omega
   rw [if_neg q2, if_pos q3, if_neg q2', if_pos q3']
 rw [if_neg q3] at hok
 by_cases q4 : b0 / 8 = 30 ∧ (1 < n ∧ b1 / 64 = 2) ∧ (2 < n ∧ b2 / 64 = 2) ∧ (3 < n ∧ b3 / 64 = 2)
 · have e1 := h1 q4.2.1.1
   have e2 := h2 q4.2.2.1.1
   have e3 := h3 q4.2.2.2.1
   subst e1; subst e2; subst e3
   have q4' : b0 / 8 = 30 ∧ (1 < m ∧ c1 / 64 = 2) ∧ (2 < m ∧ c2 / 64 = 2) ∧ (3 < m ∧ c3 / 64 = 2) := ⟨q4.1, ⟨by omega, q4.2.1.2⟩, ⟨by omega, q4.2.2.1.2⟩, by omega, q4.2.2.2.2⟩
   have q2' : ¬ (b0 / 32 = 6 ∧ (1 < m ∧ c1 / 64 = 2)) := by omega
   have q3' : ¬ (b0 / 16 = 14 ∧ (1 < m ∧ c1 / 64 = 2) ∧ (2 < m ∧ c2 / 64 = 2)) := by omega
   rw [if_neg q2, if_neg q3, if_pos q4, if_neg q2', if_neg q3', if_pos q4']
 · rw [if_neg q4] at hok
   exact absurd ⟨rfl, rfl⟩ hok
theorem decodeN_size {n b0 b1 b2 b3 : Nat} (hn : 1 ≤ n) (hok : ¬ ((Lib.decodeN n b0 b1 b2 b3).1 = 65533 ∧ (Lib.decodeN n b0 b1 b2 b3).2 = 1)) :
  (b0 < 128 ∧ (Lib.decodeN n b0 b1 b2 b3).2 = 1) ∨ (128 ≤ b0 ∧ 128 ≤ b1 ∧ 2 ≤ n ∧ (Lib.decodeN n b0 b1 b2 b3).2 = 2 ∧ Lib.decodeN 2 b0 b1 b2 b3 = Lib.decodeN n b0 b1 b2 b3) ∨
   (128 ≤ b0 ∧ 128 ≤ b1 ∧ 128 ≤ b2 ∧ 3 ≤ n ∧ (Lib.decodeN n b0 b1 b2 b3).2 = 3 ∧ Lib.decodeN 3 b0 b1 b2 b3 = Lib.decodeN n b0 b1 b2 b3) ∨
   (128 ≤ b0 ∧ 128 ≤ b1 ∧ 128 ≤ b2 ∧ 128 ≤ b3 ∧ 4 ≤ n ∧ (Lib.decodeN n b0 b1 b2 b3).2 = 4 ∧ Lib.decodeN 4 b0 b1 b2 b3 = Lib.decodeN n b0 b1 b2 b3) := by
 by_cases q1 : b0 < 128
 · left
   refine ⟨q1, ?_⟩
   unfold Lib.decodeN
   rw [if_pos q1]
 right
 by_cases q2 : b0 / 32 = 6 ∧ (1 < n ∧ b1 / 64 = 2)
 · left
   have q2' : b0 / 32 = 6 ∧ (1 < 2 ∧ b1 / 64 = 2) := ⟨q2.1, by omega, q2.2.2⟩
   unfold Lib.decodeN at hok ⊢
   rw [if_neg q1, if_pos q2] at hok
   rw [if_neg q1, if_pos q2, if_neg q1, if_pos q2']
   split at hok
   · rename_i hc
     rw [if_pos hc]
     exact ⟨by omega, by omega, by omega, rfl, rfl⟩
   · exact absurd ⟨rfl, rfl⟩ hok
 right
 by_cases q3 : b0 / 16 = 14 ∧ (1 < n ∧ b1 / 64 = 2) ∧ (2 < n ∧ b2 / 64 = 2)
 · left
   have q2' : ¬ (b0 / 32 = 6 ∧ (1 < 3 ∧ b1 / 64 = 2)) := by omega
   have q3' : b0 / 16 = 14 ∧ (1 < 3 ∧ b1 / 64 = 2) ∧ (2 < 3 ∧ b2 / 64 = 2) := ⟨q3.1, ⟨by omega, q3.2.1.2⟩, by omega, q3.2.2.2⟩
   unfold Lib.decodeN at hok ⊢
   rw [if_neg q1, if_neg q2, if_pos q3] at hok
   rw [if_neg q1, if_neg q2, if_pos q3, if_neg q1, if_neg q2', if_pos q3']
   split at hok
   · rename_i hc
     rw [if_pos hc]
     exact ⟨by omega, by omega, by omega, by omega, rfl, rfl⟩
   · exact absurd ⟨rfl, rfl⟩ hok
 right
 by_cases q4 : b0 / 8 = 30 ∧ (1 < n ∧ b1 / 64 = 2) ∧ (2 < n ∧ b2 / 64 = 2) ∧ (3 < n ∧ b3 / 64 = 2)
 · have q2' : ¬ (b0 / 32 = 6 ∧ (1 < 4 ∧ b1 / 64 = 2)) := by omega
   have q3' : ¬ (b0 / 16 = 14 ∧ (1 < 4 ∧ b1 / 64 = 2) ∧ (2 < 4 ∧ b2 / 64 = 2)) := by omega
   have q4' : b0 / 8 = 30 ∧ (1 < 4 ∧ b1 / 64 = 2) ∧ (2 < 4 ∧ b2 / 64 = 2) ∧ (3 < 4 ∧ b3 / 64 = 2) := ⟨q4.1, ⟨by omega, q4.2.1.2⟩, ⟨by omega, q4.2.2.1.2⟩, by omega, q4.2.2.2.2⟩
   unfold Lib.decodeN at hok ⊢
   rw [if_neg q1, if_neg q2, if_neg q3, if_pos q4] at hok
   rw [if_neg q1, if_neg q2, if_neg q3, if_pos q4, if_neg q1, if_neg q2', if_neg q3', if_pos q4']
   split at hok
   · rename_i hc
     rw [if_pos hc]
     exact ⟨by omega, by omega, by omega, by omega, by omega, rfl, rfl⟩
   · exact absurd ⟨rfl, rfl⟩ hok
 · unfold Lib.decodeN at hok
   rw [if_neg q1, if_neg q2, if_neg q3, if_neg q4] at hok
   exact absurd ⟨rfl, rfl⟩ hok
theorem getD_append_lt {l r : List UInt8} {j : Nat} (h : j < l.length) : (l ++ r).getD j 0 = l.getD j 0 := by
 simp [List.getD, List.getElem?_append_left h]
theorem decodeL_app {l : List UInt8} (r : List UInt8) (hne : l ≠ []) (hok : ¬ ((Lib.decodeL l).1 = 65533 ∧ (Lib.decodeL l).2 = 1)) : Lib.decodeL (l ++ r) = Lib.decodeL l := by
 have hl : 0 < l.length := List.length_pos_iff.2 hne
 rw [Lib.decodeL_N] at hok
 rw [Lib.decodeL_N, Lib.decodeL_N, getD_append_lt hl]
 exact decodeN_mono (by simp) (fun h => by rw [getD_append_lt h]) (fun h => by rw [getD_append_lt h]) (fun h => by rw [getD_append_lt h]) hok
theorem valid_app : ∀ (n : Nat) (a b : List UInt8), a.length ≤ n → Lib.validD a = true → Lib.validD (a ++ b) = Lib.validD b
 | 0, a, b, hn, _ => by
   have : a = [] := List.eq_nil_of_length_eq_zero (by omega)
   subst this; rfl
 | n + 1, a, b, hn, h => by
   by_cases hne : a = []
   · subst hne; rfl
   have hl : 0 < a.length := List.length_pos_iff.2 hne
   rw [Lib.validD_step a hne] at h
   split at h
   · cases h
   rename_i hok
   have hw := Lib.decodeL_width a
   have hle := Lib.decodeL_le a hne
   rw [Lib.validD_step (a ++ b) (by simp [hne]), decodeL_app b hne hok, if_neg hok, List.drop_append_of_le_length hle]
   exact valid_app n _ b (by rw [List.length_drop]; omega) h
theorem valid_append {a : List UInt8} (b : List UInt8) (h : Lib.validD a = true) : Lib.validD (a ++ b) = Lib.validD b := valid_app a.length a b (Nat.le_refl _) h
theorem valid_asc {a : List UInt8} (b : List UInt8) (h : ∀ c ∈ a, c < 128) : Lib.validD (a ++ b) = Lib.validD b := by
 have := Lib.validD_ascii a.length (a ++ b) (fun c hc => by
  rw [List.take_left] at hc
  have := h c hc
  rw [UInt8.lt_iff_toNat_lt] at this
  exact this)
 rw [this, List.drop_left]
theorem esc_high : ∀ (l r : List UInt8), (∀ c ∈ l, 128 ≤ c.toNat) → esc (l ++ r) = l ++ esc r
 | [], r, _ => rfl
 | c :: l, r, h => by
   have h0 := h c (by simp)
   have e1 : (c == 38) = false := by rw [beq_eq_false_iff_ne]; intro e; subst e; revert h0; decide
   have e2 : (c == 60) = false := by rw [beq_eq_false_iff_ne]; intro e; subst e; revert h0; decide
   have e3 : (c == 62) = false := by rw [beq_eq_false_iff_ne]; intro e; subst e; revert h0; decide
   rw [List.cons_append, esc, e1, e2, e3, esc_high l r (fun d hd => h d (by simp [hd]))]
   rfl
theorem getD_toNat {l : List UInt8} {j : Nat} (h : j < l.length) : (l.getD j 0) = l[j] := by simp [List.getD, h]
theorem esc_valid : ∀ (n : Nat) (t r : List UInt8), t.length ≤ n → Lib.validD t = true → Lib.validD (esc t ++ r) = Lib.validD r
 | 0, t, r, hn, _ => by
   have : t = [] := List.eq_nil_of_length_eq_zero (by omega)
   subst this; rfl
 | n + 1, [], r, _, _ => rfl
 | n + 1, c :: t, r, hn, h => by
   have hne : c :: t ≠ [] := by simp
   have hl : 0 < (c :: t).length := by simp
   rw [Lib.validD_step _ hne] at h
   split at h
   · cases h
   rename_i hok
   have hle := Lib.decodeL_le (c :: t) hne
   have hw := Lib.decodeL_width (c :: t)
   have ih := esc_valid n ((c :: t).drop (Lib.decodeL (c :: t)).2) r (by rw [List.length_drop]; omega) h
   have hsz := decodeN_size (n := (c :: t).length) hl (by rw [← Lib.decodeL_N]; exact hok)
   rw [← Lib.decodeL_N] at hsz
   have hi : ∀ k, k = (Lib.decodeL (c :: t)).2 → 2 ≤ k → k ≤ (c :: t).length → (∀ j, j < k → 128 ≤ ((c :: t).getD j 0).toNat) → Lib.decodeN k ((c :: t).getD 0 0).toNat ((c :: t).getD 1 0).toNat ((c :: t).getD 2 0).toNat ((c :: t).getD 3 0).toNat = Lib.decodeL (c :: t) → Lib.validD (esc (c :: t) ++ r) = Lib.validD r := by
    intro k hk h2 hkl hb hd
    have hta : ((c :: t).take k) ++ (c :: t).drop k = c :: t := List.take_append_drop k _
    have hge : ∀ d ∈ (c :: t).take k, 128 ≤ d.toNat := by
     intro d hd
     obtain ⟨j, hj, rfl⟩ := List.getElem_of_mem hd
     have hj' : j < k := by rw [List.length_take] at hj; omega
     have := hb j hj'
     rw [getD_toNat (by omega)] at this
     rw [List.getElem_take]; exact this
    have hv : Lib.validD ((c :: t).take k) = true := by
     have hne2 : (c :: t).take k ≠ [] := by simp; omega
     have hlk : ((c :: t).take k).length = k := by rw [List.length_take]; omega
     have hg : ∀ j, j < k → ((c :: t).take k).getD j 0 = (c :: t).getD j 0 := fun j hj => by
      simp [List.getD, List.getElem?_take, hj]
     have hdec : Lib.decodeL ((c :: t).take k) = Lib.decodeL (c :: t) := by
      rw [Lib.decodeL_N, hlk, hg 0 (by omega), ← hd]
      refine (decodeN_mono (Nat.le_refl k) (fun q => ?_) (fun q => ?_) (fun q => ?_) ?_)
      · rw [hg 1 (by omega)]
      · rw [hg 2 (by omega)]
      · rw [hg 3 (by omega)]
      · rw [hd]; exact hok
     rw [Lib.validD_step _ hne2, hdec, if_neg hok, ← hk, List.drop_of_length_le (by omega)]
     rfl
    rw [← hta, esc_high _ _ hge, List.append_assoc, valid_append _ hv]
    rw [hk]; exact ih
   rcases hsz with ⟨h1, h2⟩ | ⟨h1, h2, h3, h4, h5⟩ | ⟨h1, h2, h2', h3, h4, h5⟩ | ⟨h1, h2, h2', h2'', h3, h4, h5⟩
   · rw [h2, List.drop_succ_cons, List.drop_zero] at ih
     rw [esc, List.append_assoc, valid_asc _ _, ih]
     intro d hd
     have hc : c < 128 := by rw [UInt8.lt_iff_toNat_lt]; simpa using h1
     revert hd
     cases c == 38 <;> cases c == 60 <;> cases c == 62 <;> simp only [cond_true, cond_false, List.mem_cons, List.not_mem_nil, or_false] <;> intro hd <;>
      first | (rcases hd with rfl | rfl | rfl | rfl | rfl <;> decide) | (rcases hd with rfl | rfl | rfl | rfl <;> decide) | (rw [hd]; exact hc)
   · refine hi 2 h4.symm (by omega) h3 (fun j hj => ?_) h5
     rcases j with _ | _ | j
     · exact h1
     · exact h2
     · omega
   · refine hi 3 h4.symm (by omega) h3 (fun j hj => ?_) h5
     rcases j with _ | _ | _ | j
     · exact h1
     · exact h2
     · exact h2'
     · omega
   · refine hi 4 h4.symm (by omega) h3 (fun j hj => ?_) h5
     rcases j with _ | _ | _ | _ | j
     · exact h1
     · exact h2
     · exact h2'
     · exact h2''
     · omega
open Go Go.Run
open Go.Proofs.Tryz (prog)
mutual
def okE : El → Prop
 | .mk p n t o ks => check1 (.mk p n t o ks) = 0 ∧ okEs ks
def okEs : List El → Prop
 | [] => True
 | k :: ks => okE k ∧ okEs ks
end
theorem bif_zero {b : Bool} {k x : Int} (hk : k ≠ 0) (h : (bif b then k else x) = 0) : b = false ∧ x = 0 := by
 cases b
 · exact ⟨rfl, h⟩
 · exact absurd h hk
theorem check1_ok {p : Int} {n t : List UInt8} {o : Bool} {ks : List El} (h : check1 (.mk p n t o ks) = 0) :
  (0 ≤ p ∧ p < 3) ∧ isName n = true ∧ ks.length ≤ 200 ∧ (0 < ks.length → t = []) ∧ t.length ≤ 4000 ∧ (o = true → t ≠ []) ∧ (o = false → shownF t = true) := by
 unfold check1 at h
 obtain ⟨h1, h⟩ := bif_zero (by omega) h
 obtain ⟨h2, h⟩ := bif_zero (by omega) h
 obtain ⟨h3, h⟩ := bif_zero (by omega) h
 obtain ⟨h4, h⟩ := bif_zero (by omega) h
 obtain ⟨h5, h⟩ := bif_zero (by omega) h
 obtain ⟨h6, h⟩ := bif_zero (by omega) h
 simp only [Bool.or_eq_false_iff, decide_eq_false_iff_not] at h1 h3 h5
 refine ⟨by omega, by simpa using h2, by omega, fun hk => ?_, by omega, fun ho => ?_, fun ho => ?_⟩
 · have : decide (((ks.length : Nat) : Int) > 0) = true := by simp; omega
   rw [this] at h4
   simpa using h4
 · subst ho
   simpa using h6
 · subst ho
   simpa using h6
theorem drop_add {s a r : List UInt8} {i : Nat} (h : s.drop i = a ++ r) : s.drop (i + a.length) = r := by
 rw [← List.drop_drop, h, List.drop_left]
theorem drop_len {s a r : List UInt8} {i : Nat} (h : s.drop i = a ++ r) (hne : a ≠ []) : i + a.length ≤ s.length := by
 have := congrArg List.length h
 have hl : 0 < a.length := List.length_pos_iff.2 hne
 simp only [List.length_drop, List.length_append] at this
 omega
theorem span_app (p : UInt8 → Bool) : ∀ (a r : List UInt8) (m : Nat), a.length ≤ m → (∀ c ∈ a, p c = true) → (∀ c l, r = c :: l → p c = false) → span p m (a ++ r) = a.length
 | [], [], m, _, _, _ => by simp [span]
 | [], c :: l, 0, _, _, _ => by simp [span]
 | [], c :: l, m + 1, _, _, h => by simp [span, h c l rfl]
 | c :: a, r, 0, h, _, _ => by simp at h
 | c :: a, r, m + 1, h, h1, h2 => by
   have := span_app p a r m (by simpa using h) (fun d hd => h1 d (by simp [hd])) h2
   simp [span, h1 c (by simp), this]
theorem ws0 {c : UInt8} {l : List UInt8} (h : isWs c = false) : wsN (c :: l) = 0 := by simp [wsN, List.dropWhile_cons, h]
theorem ws1 {c : UInt8} {l : List UInt8} (h : isWs c = false) : wsN (32 :: c :: l) = 1 := by
 have h32 : isWs 32 = true := by decide
 simp [wsN, List.dropWhile_cons, h, h32]
theorem cutO_quote : ∀ (a r : List UInt8), (∀ c ∈ a, (c == 34) = false) → cutO [34] (a ++ 34 :: r) = some (a, r)
 | [], r, _ => by simp [cutO, List.isPrefixOf]
 | c :: a, r, h => by
   have h0 := h c (by simp)
   have h1 : ((34 : UInt8) == c) = false := by rw [beq_eq_false_iff_ne] at h0 ⊢; exact fun e => h0 e.symm
   simp [cutO, List.isPrefixOf, h1, cutO_quote a r (fun d hd => h d (by simp [hd]))]
section
variable {s : List UInt8}
theorem attrs_end1 {f i : Nat} {pg : Int} {nm by_ : Bool} {r : List UInt8} (h : s.drop i = 47 :: 62 :: r) : attrsF s (f + 1) i pg nm by_ = .ok (true, i + 2, pg, by_) := by
 have hw : wsN (s.drop i) = 0 := by rw [h]; exact ws0 (by decide)
 have e1 : List.isPrefixOf [47, 62] (s.drop i) = true := by rw [h]; simp [List.isPrefixOf]
 simp only [attrsF, hw, Nat.add_zero, e1, cond_true]
theorem attrs_end2 {f i : Nat} {pg : Int} {nm by_ : Bool} {r : List UInt8} (h : s.drop i = 62 :: r) : attrsF s (f + 1) i pg nm by_ = .ok (false, i + 1, pg, by_) := by
 have hw : wsN (s.drop i) = 0 := by rw [h]; exact ws0 (by decide)
 have e1 : List.isPrefixOf [47, 62] (s.drop i) = false := by rw [h]; simp [List.isPrefixOf]
 have e2 : List.isPrefixOf [62] (s.drop i) = true := by rw [h]; simp [List.isPrefixOf]
 simp only [attrsF, hw, Nat.add_zero, e1, e2, cond_true, cond_false]
theorem attrs_code {f i : Nat} {pg : Int} {nm : Bool} {r : List UInt8} (h : s.drop i = [32] ++ codeMark ++ b64 ++ [34] ++ r) : attrsF s (f + 1) i pg nm false = attrsF s f (i + 10) pg nm true := by
 have h' : s.drop i = 32 :: 101 :: 110 :: 99 :: 61 :: 34 :: 98 :: 54 :: 52 :: 34 :: r := h
 have hw : wsN (s.drop i) = 1 := by rw [h']; exact ws1 (by decide)
 have hd : s.drop (i + 1) = 101 :: 110 :: 99 :: 61 :: 34 :: 98 :: 54 :: 52 :: 34 :: r := drop_add (a := [32]) h'
 have e1 : List.isPrefixOf [47, 62] (s.drop (i + 1)) = false := by rw [hd]; simp [List.isPrefixOf]
 have e2 : List.isPrefixOf [62] (s.drop (i + 1)) = false := by rw [hd]; simp [List.isPrefixOf]
 have e3 : List.isPrefixOf spaceMark (s.drop (i + 1)) = false := by rw [hd]; simp [List.isPrefixOf, spaceMark]
 have e4 : List.isPrefixOf codeMark (s.drop (i + 1)) = true := by rw [hd]; simp [List.isPrefixOf, codeMark]
 have hd2 : s.drop (i + 1 + 5) = b64 ++ 34 :: r := drop_add (a := [101, 110, 99, 61, 34]) (r := b64 ++ 34 :: r) hd
 have hu : uptoF s [34] (i + 1 + 5) = .ok (b64, i + 10) := by
  rw [uptoF, hd2, cutO_quote _ _ (by decide)]
  simp [b64]
 have e5 : (b64 == b64) = true := by decide
 simp only [attrsF, hw, e1, e2, e3, e4, hu, e5, cond_true, cond_false, Nat.lt_succ_self, decide_true, Bool.not_true]
theorem spaceOf_spec {p : Int} (h : 0 ≤ p ∧ p < 3) : pageOf (spaceOf p) = p ∧ (∀ c ∈ spaceOf p, (c == 34) = false ∧ c < 128) := by
 obtain ⟨n, rfl⟩ : ∃ n : Nat, p = n := ⟨p.toNat, by omega⟩
 match n, h with
 | 0, _ => exact ⟨by decide, by decide⟩
 | 1, _ => exact ⟨by decide, by decide⟩
 | 2, _ => exact ⟨by decide, by decide⟩
 | n + 3, h => omega
theorem attrs_space {f i : Nat} {pg p : Int} {by_ : Bool} {r : List UInt8} (hp : 0 ≤ p ∧ p < 3) (h : s.drop i = [32] ++ spaceMark ++ spaceOf p ++ [34] ++ r) :
  attrsF s (f + 1) i pg false by_ = attrsF s f (i + 9 + (spaceOf p).length) p true by_ := by
 obtain ⟨k1, k2⟩ := spaceOf_spec hp
 have h' : s.drop i = 32 :: 120 :: 109 :: 108 :: 110 :: 115 :: 61 :: 34 :: (spaceOf p ++ 34 :: r) := by rw [h]; simp [spaceMark]
 have hw : wsN (s.drop i) = 1 := by rw [h']; exact ws1 (by decide)
 have hd : s.drop (i + 1) = 120 :: 109 :: 108 :: 110 :: 115 :: 61 :: 34 :: (spaceOf p ++ 34 :: r) := drop_add (a := [32]) h'
 have e1 : List.isPrefixOf [47, 62] (s.drop (i + 1)) = false := by rw [hd]; simp [List.isPrefixOf]
 have e2 : List.isPrefixOf [62] (s.drop (i + 1)) = false := by rw [hd]; simp [List.isPrefixOf]
 have e3 : List.isPrefixOf spaceMark (s.drop (i + 1)) = true := by rw [hd]; simp [List.isPrefixOf, spaceMark]
 have hd2 : s.drop (i + 1 + 7) = spaceOf p ++ 34 :: r := drop_add (a := [120, 109, 108, 110, 115, 61, 34]) hd
 have hu : uptoF s [34] (i + 1 + 7) = .ok (spaceOf p, i + 9 + (spaceOf p).length) := by
  rw [uptoF, hd2, cutO_quote _ _ (fun c hc => (k2 c hc).1)]
  simp only [List.length_singleton, Except.ok.injEq, Prod.mk.injEq, true_and]
  omega
 have e5 : decide (p ≥ 0) = true := by simp; omega
 simp only [attrsF, hw, e1, e2, e3, hu, k1, e5, cond_true, cond_false, Nat.lt_succ_self, decide_true, Bool.not_true]
variable {kid : Nat → RES (El × Nat)} {more : Bool} {f i : Nat} {b : List UInt8} {ks : List El}
theorem within_end {r : List UInt8} (h : s.drop i = 60 :: 47 :: r) : withinF s kid more (f + 1) i b ks = .ok (b, ks, i + 2) := by
 have e1 : List.isPrefixOf [60, 47] (s.drop i) = true := by rw [h]; simp [List.isPrefixOf]
 simp only [withinF, e1, cond_true]
theorem within_chr {c : UInt8} {r : List UInt8} (h : s.drop i = c :: r) (h1 : (c == 38) = false) (h2 : (c == 60) = false) : withinF s kid more (f + 1) i b ks = withinF s kid more f (i + 1) (b ++ [c]) ks := by
 have h2' : ((60 : UInt8) == c) = false := by rw [beq_eq_false_iff_ne] at h2 ⊢; exact fun e => h2 e.symm
 have e1 : List.isPrefixOf [60, 47] (c :: r) = false := by simp [List.isPrefixOf, h2']
 have e2 : List.isPrefixOf rawM (c :: r) = false := by simp [List.isPrefixOf, rawM, h2']
 have e3 : List.isPrefixOf remM (c :: r) = false := by simp [List.isPrefixOf, remM, h2']
 simp only [withinF, h, e1, e2, e3, h1, h2, cond_false, Bool.not_false, cond_true]
theorem within_ent {q : List UInt8 × List UInt8} {r : List UInt8} (hq : q ∈ ents.take 3) (h : s.drop i = q.1 ++ r) : withinF s kid more (f + 1) i b ks = withinF s kid more f (i + q.1.length) (b ++ q.2) ks := by
 have key : entityF s i = .ok (q.2, i + q.1.length) ∧ ∃ l, s.drop i = 38 :: l := by
  simp only [ents, List.take, List.mem_cons, List.not_mem_nil, or_false] at hq
  rcases hq with rfl | rfl | rfl
  · refine ⟨?_, _, h⟩
    have hf : ents.find? (fun p => p.1.isPrefixOf (s.drop i)) = some ([38, 97, 109, 112, 59], [38]) := by rw [h]; simp [ents, List.find?, List.isPrefixOf]
    simp only [entityF, hf]
  · refine ⟨?_, _, h⟩
    have hf : ents.find? (fun p => p.1.isPrefixOf (s.drop i)) = some ([38, 108, 116, 59], [60]) := by rw [h]; simp [ents, List.find?, List.isPrefixOf]
    simp only [entityF, hf]
  · refine ⟨?_, _, h⟩
    have hf : ents.find? (fun p => p.1.isPrefixOf (s.drop i)) = some ([38, 103, 116, 59], [62]) := by rw [h]; simp [ents, List.find?, List.isPrefixOf]
    simp only [entityF, hf]
 obtain ⟨k1, l, hl⟩ := key
 have e1 : List.isPrefixOf [60, 47] (38 :: l) = false := by simp [List.isPrefixOf]
 have e2 : ((38 : UInt8) == 38) = true := by decide
 simp only [withinF, hl, e1, e2, k1, cond_false, cond_true]
theorem within_esc : ∀ (t r : List UInt8) (f i : Nat) (b : List UInt8), t.length < f → s.drop i = esc t ++ r → withinF s kid more f i b ks = withinF s kid more (f - t.length) (i + (esc t).length) (b ++ t) ks
 | [], r, f, i, b, _, _ => by simp [esc]
 | c :: t, r, 0, i, b, hf, _ => by simp at hf
 | c :: t, r, f + 1, i, b, hf, h => by
   have hlen : f + 1 - (c :: t).length = f - t.length := by simp
   have hf' : t.length < f := by simpa using hf
   rw [hlen]
   have go : ∀ (q : List UInt8) (x : List UInt8), esc (c :: t) = q ++ esc t → x = [c] → withinF s kid more (f + 1) i b ks = withinF s kid more f (i + q.length) (b ++ x) ks → withinF s kid more (f + 1) i b ks = withinF s kid more (f - t.length) (i + (esc (c :: t)).length) (b ++ c :: t) ks := by
    intro q x hq hx hw
    rw [hq, List.append_assoc] at h
    rw [hw, within_esc t r f _ _ hf' (drop_add h), hq, List.length_append, hx, ← Nat.add_assoc]
    simp
   cases c1 : c == 38
   · cases c2 : c == 60
     · cases c3 : c == 62
       · have he : esc (c :: t) = [c] ++ esc t := by rw [esc, c1, c2, c3]; rfl
         refine go [c] [c] he rfl (within_chr (r := esc t ++ r) ?_ c1 c2)
         rw [h, he]; rfl
       · have he : esc (c :: t) = [38, 103, 116, 59] ++ esc t := by rw [esc, c1, c2, c3]; rfl
         have hc : c = 62 := by simpa using c3
         refine go [38, 103, 116, 59] [62] he (by rw [hc]) (within_ent (q := ([38, 103, 116, 59], [62])) (r := esc t ++ r) (by simp [ents]) ?_)
         rw [h, he, List.append_assoc]
     · have he : esc (c :: t) = [38, 108, 116, 59] ++ esc t := by rw [esc, c1, c2]; rfl
       have hc : c = 60 := by simpa using c2
       refine go [38, 108, 116, 59] [60] he (by rw [hc]) (within_ent (q := ([38, 108, 116, 59], [60])) (r := esc t ++ r) (by simp [ents]) ?_)
       rw [h, he, List.append_assoc]
   · have he : esc (c :: t) = [38, 97, 109, 112, 59] ++ esc t := by rw [esc, c1]; rfl
     have hc : c = 38 := by simpa using c1
     refine go [38, 97, 109, 112, 59] [38] he (by rw [hc]) (within_ent (q := ([38, 97, 109, 112, 59], [38])) (r := esc t ++ r) (by simp [ents]) ?_)
     rw [h, he, List.append_assoc]
theorem letter_not {c : UInt8} (h : isLetter c = true) : (c == 47) = false ∧ (c == 33) = false ∧ (c == 60) = false ∧ isWs c = false ∧ c < 128 := by
 have key : ∀ n : _root_.Fin 256, isLetter (UInt8.ofNat n.val) = true → ((UInt8.ofNat n.val) == 47) = false ∧ ((UInt8.ofNat n.val) == 33) = false ∧ ((UInt8.ofNat n.val) == 60) = false ∧ isWs (UInt8.ofNat n.val) = false ∧ (UInt8.ofNat n.val) < 128 := by decide +kernel
 have e : UInt8.ofNat c.toNat = c := by simp
 have := key ⟨c.toNat, c.toNat_lt⟩
 rw [e] at this
 exact this h
theorem within_kid {c : UInt8} {r : List UInt8} {x : El} {j : Nat} (h : s.drop i = 60 :: c :: r) (hc : isLetter c = true) (hk : ks.length < 200) (hx : kid i = .ok (x, j)) : withinF s kid true (f + 1) i b ks = withinF s kid true f j b (ks ++ [x]) := by
 obtain ⟨c1, c2, _⟩ := letter_not hc
 have c1' : ((47 : UInt8) == c) = false := by rw [beq_eq_false_iff_ne] at c1 ⊢; exact fun e => c1 e.symm
 have c2' : ((33 : UInt8) == c) = false := by rw [beq_eq_false_iff_ne] at c2 ⊢; exact fun e => c2 e.symm
 have e1 : List.isPrefixOf [60, 47] (60 :: c :: r) = false := by simp [List.isPrefixOf, c1']
 have e2 : List.isPrefixOf rawM (60 :: c :: r) = false := by simp [List.isPrefixOf, rawM, c2']
 have e3 : List.isPrefixOf remM (60 :: c :: r) = false := by simp [List.isPrefixOf, remM, c2']
 have e4 : ((60 : UInt8) == 38) = false := by decide
 have e5 : ((60 : UInt8) == 60) = true := by decide
 have e6 : decide (ks.length < 200) = true := by simpa using hk
 simp only [withinF, h, e1, e2, e3, e4, e5, e6, hc, hx, cond_false, cond_true, Bool.not_true]
theorem kids_read {p : Int} : ∀ (ks acc : List El) (f i : Nat) (r : List UInt8), (∀ k ∈ ks, ∀ i r, s.drop i = putF p k ++ r → kid i = .ok (k, i + (putF p k).length)) →
  (∀ k ∈ ks, ∃ c x, putF p k = 60 :: c :: x ∧ isLetter c = true) → ks.length < f → acc.length + ks.length ≤ 200 → s.drop i = putsF p ks ++ 60 :: 47 :: r →
  withinF s kid true f i [] acc = .ok ([], acc ++ ks, i + (putsF p ks).length + 2)
 | [], acc, 0, i, r, _, _, hf, _, _ => by simp at hf
 | [], acc, f + 1, i, r, _, _, _, _, h => by
   rw [within_end (r := r) (by rw [h]; rfl)]
   simp [putsF]
 | k :: ks, acc, 0, i, r, _, _, hf, _, _ => by simp at hf
 | k :: ks, acc, f + 1, i, r, h1, h2, hf, hl, h => by
   obtain ⟨c, x, e, hc⟩ := h2 k (by simp)
   rw [putsF, List.append_assoc] at h
   have hk := h1 k (by simp) i _ h
   have hd : s.drop i = 60 :: c :: (x ++ (putsF p ks ++ 60 :: 47 :: r)) := by rw [h, e]; rfl
   simp only [List.length_cons] at hl hf
   rw [within_kid hd hc (by omega) hk, kids_read ks (acc ++ [k]) f _ r (fun k' hk' => h1 k' (by simp [hk'])) (fun k' hk' => h2 k' (by simp [hk'])) (by omega) (by simp; omega) (drop_add h)]
   simp [putsF, Nat.add_assoc]
theorem nameC_not {c : UInt8} (h : isNameC c = true) : c < 128 := by
 have key : ∀ n : _root_.Fin 256, isNameC (UInt8.ofNat n.val) = true → (UInt8.ofNat n.val) < 128 := by decide +kernel
 have e : UInt8.ofNat c.toNat = c := by simp
 have := key ⟨c.toNat, c.toNat_lt⟩
 rw [e] at this
 exact this h
theorem isName_spec {n : List UInt8} (h : isName n = true) : nameOk n = true ∧ (∀ c ∈ n, isNameC c = true) ∧ ∃ c l, n = c :: l ∧ isLetter c = true := by
 cases n with
 | nil => simp [isName] at h
 | cons c l =>
   simp only [isName, Bool.and_eq_true, decide_eq_true_eq, Bool.not_eq_true', List.any_eq_false, Bool.not_eq_true] at h
   obtain ⟨h1, h2, h3⟩ := h
   refine ⟨by simp only [nameOk, h2, Bool.true_and, decide_eq_true_eq]; omega, fun d hd => ?_, c, l, rfl, h2⟩
   have := h3 d hd
   simpa using this
theorem close_read {n r : List UInt8} {m : Nat} (hn : isName n = true) (h : s.drop m = n ++ 62 :: r) : closeF s n m = .ok (m + n.length + 1) := by
 obtain ⟨_, h2, c, l, h3, _⟩ := isName_spec hn
 have hl : m + n.length ≤ s.length := drop_len h (by rw [h3]; simp)
 have hk : span isNameC s.length (s.drop m) = n.length := by
  rw [h]
  exact span_app _ _ _ _ (by omega) h2 (fun c l e => by cases e; decide)
 have hd := drop_add h
 have e1 : ((s.drop m).take n.length == n) = true := by rw [h, List.take_left]; simp
 have hw : wsN (s.drop (m + n.length)) = 0 := by rw [hd]; exact ws0 (by decide)
 have e2 : (s.drop (m + n.length) == []) = false := by rw [hd]; rfl
 have e3 : List.isPrefixOf [62] (s.drop (m + n.length)) = true := by rw [hd]; simp [List.isPrefixOf]
 simp only [closeF, hk, e1, hw, Nat.add_zero, e2, e3, Bool.not_true, cond_false, cond_true]
theorem put_head {p pg : Int} {n t : List UInt8} {o : Bool} {ks : List El} (h : isName n = true) : ∃ c x, putF pg (.mk p n t o ks) = 60 :: c :: x ∧ isLetter c = true := by
 obtain ⟨_, _, c, l, rfl, hc⟩ := isName_spec h
 refine ⟨c, (putF pg (.mk p (c :: l) t o ks)).drop 2, ?_, hc⟩
 simp only [putF, List.append_assoc, List.cons_append, List.nil_append]
 rfl
def attrT (pg p : Int) (o : Bool) : List UInt8 := (bif p == pg then [] else [32] ++ spaceMark ++ spaceOf p ++ [34]) ++ (bif o then [32] ++ codeMark ++ b64 ++ [34] else [])
theorem attrs_read {pg p : Int} {o : Bool} {f i : Nat} {r : List UInt8} (hp : 0 ≤ p ∧ p < 3) (h : s.drop i = attrT pg p o ++ r) :
  ∃ nm, attrsF s (f + 2) i pg false false = attrsF s (f + (bif p == pg then 1 else 0) + (bif o then 0 else 1)) (i + (attrT pg p o).length) p nm o := by
 cases e1 : p == pg
 · cases o
   · refine ⟨true, ?_⟩
     have ha : attrT pg p false = [32] ++ spaceMark ++ spaceOf p ++ [34] := by simp [attrT, e1]
     rw [ha] at h ⊢
     rw [attrs_space hp h]
     simp only [cond_false, List.length_append, List.length_singleton]
     congr 1
     simp [spaceMark]; omega
   · refine ⟨true, ?_⟩
     have ha : attrT pg p true = ([32] ++ spaceMark ++ spaceOf p ++ [34]) ++ ([32] ++ codeMark ++ b64 ++ [34]) := by simp [attrT, e1]
     rw [ha] at h ⊢
     rw [List.append_assoc] at h
     have hd := drop_add h
     rw [attrs_space hp h]
     have hi : i + ([32] ++ spaceMark ++ spaceOf p ++ [34]).length = i + 9 + (spaceOf p).length := by simp [spaceMark]; omega
     rw [hi] at hd
     rw [attrs_code hd]
     simp only [cond_false, cond_true]
     congr 1
     rw [List.length_append, ← Nat.add_assoc, hi]
     simp [codeMark, b64]
 · have hpp : p = pg := by simpa using e1
   subst hpp
   cases o
   · refine ⟨false, ?_⟩
     have ha : attrT p p false = [] := by simp [attrT]
     rw [ha]; rfl
   · refine ⟨false, ?_⟩
     have ha : attrT p p true = [32] ++ codeMark ++ b64 ++ [34] := by simp [attrT]
     rw [ha] at h ⊢
     rw [attrs_code h]
     rfl
end
theorem kids_le : ∀ (ks : List El) (p : Int), okEs ks → ks.length ≤ (putsF p ks).length
 | [], _, _ => Nat.le_refl _
 | .mk p n t o q :: ks, pg, h => by
   have ih := kids_le ks pg h.2
   obtain ⟨c, x, e, _⟩ := put_head (p := p) (pg := pg) (t := t) (o := o) (ks := q) (check1_ok h.1.1).2.1
   simp only [putsF, List.length_append, e, List.length_cons]
   omega
theorem esc_len : ∀ (t : List UInt8), t.length ≤ (esc t).length
 | [] => Nat.le_refl _
 | c :: t => by
   have := esc_len t
   rw [esc]
   cases c == 38 <;> cases c == 60 <;> cases c == 62 <;> simp <;> omega
def ElemReads (e : El) : Prop := ∀ (d : Nat) (pg : Int) (s : List UInt8) (i : Nat) (r : List UInt8), okE e → dp e ≤ d + 1 → s.drop i = putF pg e ++ r → elemF s d pg i = .ok (e, i + (putF pg e).length)
theorem elem_read (p : Int) (n t : List UInt8) (o : Bool) (ks : List El) (ih : ∀ k ∈ ks, ElemReads k) (ihk : ∀ k ∈ ks, dp k ≤ dps ks) (iho : ∀ k ∈ ks, okEs ks → okE k) : ElemReads (.mk p n t o ks) := by
 intro d pg s i r hok hdp h
 obtain ⟨hc1, hcs⟩ := hok
 obtain ⟨hp, hn, hkl, hkt, _, ho1, ho2⟩ := check1_ok hc1
 obtain ⟨hn1, hn2, c, l, hcl, hlet⟩ := isName_spec hn
 -- the text
 generalize htx : (bif o then encF t else esc t) = tx
 have hfull : putF pg (.mk p n t o ks) = [60] ++ (n ++ (attrT pg p o ++ (bif tx == [] && Nat.beq ks.length 0 then [47, 62] else [62] ++ (tx ++ (putsF p ks ++ ([60, 47] ++ (n ++ [62]))))))) := by
  simp only [putF, htx, attrT, List.append_assoc]
 have hlen : ∀ a b : List UInt8, (a ++ b).length = a.length + b.length := fun a b => List.length_append
 rw [hfull] at h
 generalize hrest : (bif tx == [] && Nat.beq ks.length 0 then [47, 62] else [62] ++ (tx ++ (putsF p ks ++ ([60, 47] ++ (n ++ [62]))))) = rest at h hfull
 have h0 : s.drop i = [60] ++ (n ++ (attrT pg p o ++ (rest ++ r))) := by rw [h]; simp
 have h1 : s.drop (i + 1) = n ++ (attrT pg p o ++ (rest ++ r)) := drop_add h0
 have h2 : s.drop (i + 1 + n.length) = attrT pg p o ++ (rest ++ r) := drop_add h1
 have h3 : s.drop (i + 1 + n.length + (attrT pg p o).length) = rest ++ r := drop_add h2
 have hnl : i + 1 + n.length ≤ s.length := drop_len h1 (by rw [hcl]; simp)
 have e1 : (s.drop i == []) = false := by rw [h0]; rfl
 have e2 : List.isPrefixOf [60] (s.drop i) = true := by rw [h0]; simp [List.isPrefixOf]
 have hstop : ∀ c l, attrT pg p o ++ (rest ++ r) = c :: l → isNameC c = false := by
  intro c l e
  have hh : c = 32 ∨ c = 47 ∨ c = 62 := by
   cases q1 : p == pg
   · simp [attrT, q1] at e; exact .inl e.1.symm
   · cases q2 : o
     · have ha : attrT pg p o = [] := by simp [attrT, q1, q2]
       rw [ha, ← hrest] at e
       cases q3 : (tx == [] && Nat.beq ks.length 0) <;> rw [q3] at e <;> simp at e
       · exact .inr (.inr e.1.symm)
       · exact .inr (.inl e.1.symm)
     · simp [attrT, q1, q2] at e; exact .inl e.1.symm
  rcases hh with rfl | rfl | rfl <;> decide
 have hk : span isNameC s.length (s.drop (i + 1)) = n.length := by
  rw [h1]; exact span_app _ _ _ _ (by omega) hn2 hstop
 have ht : (s.drop (i + 1)).take n.length = n := by rw [h1, List.take_left]
 obtain ⟨f0, hf0⟩ : ∃ f0, s.length + 1 = f0 + 2 := ⟨s.length - 1, by omega⟩
 obtain ⟨nm, hat⟩ := attrs_read (f := f0) hp h2
 generalize hj : i + 1 + n.length + (attrT pg p o).length = j at h3 hat
 obtain ⟨f1, hf1⟩ : ∃ f1, f0 + (bif p == pg then 1 else 0) + (bif o then 0 else 1) = f1 + 1 := by
  cases q1 : p == pg
  · cases q2 : o
    · exact ⟨f0, rfl⟩
    · have hal := drop_len h2 (by simp [attrT, q1])
      simp [attrT, q1, q2, spaceMark] at hal
      exact ⟨f0 - 1, by simp; omega⟩
  · cases q2 : o
    · exact ⟨f0 + 1, rfl⟩
    · exact ⟨f0, rfl⟩
 rw [hf1] at hat
 have helem : ∀ kid more, elemB s kid more pg i = match attrsF s (f1 + 1) j p nm o with
   | .error e => .error e
   | .ok (true, j, p, _) => .ok (.mk p n [] false [], j)
   | .ok (false, j, p, by_) =>
     match withinF s (kid p) more (s.length + 1) j [] [] with
     | .error e => .error e
     | .ok (t, ks, m) =>
       match closeF s n m with
       | .error e => .error e
       | .ok q => endF p n t by_ ks (m - 2) q := by
  intro kid more
  simp only [elemB, e1, e2, hk, ht, hn1, Bool.not_true, cond_false]
  rw [hf0, hat]
  first | done | rfl
 have hplen : i + (putF pg (.mk p n t o ks)).length = j + rest.length := by
  rw [hfull, hlen, hlen, hlen, ← hj]; simp; omega
 have hbody : ∀ kid more, (ks ≠ [] → more = true ∧ ∀ k ∈ ks, ∀ i r, s.drop i = putF p k ++ r → kid p i = .ok (k, i + (putF p k).length)) → elemB s kid more pg i = .ok (.mk p n t o ks, i + (putF pg (.mk p n t o ks)).length) := by
  intro kid more hkid
  rw [helem, hplen]
  cases q3 : (tx == [] && Nat.beq ks.length 0)
  · -- it has a text or kids
    rw [q3, cond_false] at hrest
    subst hrest
    have h4 : s.drop j = 62 :: (tx ++ (putsF p ks ++ ([60, 47] ++ (n ++ 62 :: r)))) := by rw [h3]; simp
    rw [attrs_end2 h4]
    dsimp only
    have h5 : s.drop (j + 1) = tx ++ (putsF p ks ++ ([60, 47] ++ (n ++ 62 :: r))) := drop_add (a := [62]) h4
    have htl : j + 1 + tx.length + (putsF p ks).length + 2 + n.length + 1 ≤ s.length := by
     have := congrArg List.length h5
     simp only [List.length_drop, List.length_append, List.length_cons, List.length_nil] at this
     omega
    have hpost : ∀ m, m = j + 1 + tx.length + (putsF p ks).length + 2 → closeF s n m = .ok (m + n.length + 1) := by
     intro m hm
     refine close_read hn (r := r) ?_
     have a1 := drop_add h5
     have a2 := drop_add a1
     have a3 := drop_add a2
     rw [hm]
     exact a3
    have hjl : ∀ m, m = j + 1 + tx.length + (putsF p ks).length + 2 → j + ([62] ++ (tx ++ (putsF p ks ++ ([60, 47] ++ (n ++ [62]))))).length = m + n.length + 1 := by
     intro m hm; simp; omega
    by_cases hks : ks = []
    · subst hks
      -- a text
      have htx0 : tx = esc (bif o then encF t else t) := by
       rw [← htx]
       cases o
       · rfl
       · exact (esc_safe _ (encF_safe t)).symm
      have hh : withinF s (kid p) more (s.length + 1) (j + 1) [] [] = .ok ((bif o then encF t else t), [], j + 1 + tx.length + 2) := by
       have hel := esc_len (bif o then encF t else t)
       rw [← htx0] at hel
       have hlt : (bif o then encF t else t).length < s.length + 1 := by omega
       rw [within_esc (bif o then encF t else t) (putsF p [] ++ ([60, 47] ++ (n ++ 62 :: r))) (s.length + 1) (j + 1) [] hlt (by rw [h5, htx0]), ← htx0]
       obtain ⟨g, hg⟩ : ∃ g, s.length + 1 - (bif o then encF t else t).length = g + 1 := ⟨s.length - (bif o then encF t else t).length, by omega⟩
       rw [hg, within_end (r := n ++ 62 :: r) (by rw [drop_add h5]; rfl)]
       rfl
      rw [hh]
      dsimp only
      rw [hpost _ (by simp [putsF]), hjl (j + 1 + tx.length + 2) (by simp [putsF])]
      dsimp only
      cases o
      · simp [endF]
      · have hne := ho1 rfl
        simp only [endF, cond_true, decF_encF]
        simp [hne]
    · -- kids
      have hk0 : 0 < ks.length := List.length_pos_iff.2 hks
      have ht0 := hkt hk0
      subst ht0
      have ho0 : o = false := by
       cases o
       · rfl
       · exact absurd rfl (ho1 rfl)
      subst ho0
      have htx0 : tx = [] := by rw [← htx]; rfl
      subst htx0
      obtain ⟨hm, hkid2⟩ := hkid hks
      subst hm
      have hkl2 := kids_le ks p hcs
      simp only [List.length_nil, Nat.add_zero] at htl
      rw [kids_read ks [] (s.length + 1) (j + 1) (n ++ 62 :: r) hkid2 (fun k hk => by
       have := iho k hk hcs
       match k, this with
       | .mk p' n' t' o' ks', h => exact put_head (check1_ok h.1).2.1) (by omega) (by simpa using hkl) (by rw [h5]; rfl)]
      dsimp only
      rw [hpost _ (by simp), hjl (j + 1 + (putsF p ks).length + 2) (by simp)]
      dsimp only
      have e3 : decide (0 < ks.length) = true := by simpa using hk0
      have e4 : (trimF [] == []) = true := by decide
      simp only [endF, List.nil_append, e3, e4, cond_true, Bool.not_false, Bool.and_self]
  · -- nothing
    rw [q3, cond_true] at hrest
    subst hrest
    simp only [Bool.and_eq_true, beq_iff_eq, Nat.beq_eq_true_eq] at q3
    obtain ⟨q3, q4⟩ := q3
    have hks : ks = [] := List.eq_nil_of_length_eq_zero (Nat.eq_of_beq_eq_true q4)
    subst hks
    rw [attrs_end1 (r := r) h3]
    dsimp only
    have ho0 : o = false := by
     cases o
     · rfl
     · exact absurd (encF_nil t (by rw [← htx] at q3; exact q3)) (ho1 rfl)
    subst ho0
    have ht0 : t = [] := esc_nil t (by rw [← htx] at q3; exact q3)
    subst ht0
    rfl
 cases d with
 | zero =>
   refine hbody _ _ (fun hne => ?_)
   obtain ⟨k, hk⟩ := List.exists_mem_of_ne_nil ks hne
   have h1 := ihk k hk
   have h2 : 1 ≤ dp k := by cases k; simp [dp]
   simp only [dp] at hdp
   omega
 | succ d =>
   refine hbody _ _ (fun hne => ⟨rfl, fun k hk i r h => ?_⟩)
   have h1 := ihk k hk
   simp only [dp] at hdp
   exact ih k hk d p s i r (iho k hk hcs) (by omega) h
theorem dps_le : ∀ (ks : List El), ∀ k ∈ ks, dp k ≤ dps ks
 | [], k, h => by simp at h
 | x :: ks, k, h => by
   rw [dps]
   rcases List.mem_cons.1 h with rfl | h
   · exact Nat.le_max_left _ _
   · exact Nat.le_trans (dps_le ks k h) (Nat.le_max_right _ _)
theorem okEs_mem : ∀ (ks : List El), ∀ k ∈ ks, okEs ks → okE k
 | [], k, h, _ => by simp at h
 | x :: ks, k, h, ho => by
   rcases List.mem_cons.1 h with rfl | h
   · exact ho.1
   · exact okEs_mem ks k h ho.2
mutual
theorem reads : ∀ (e : El), ElemReads e
 | .mk p n t o ks => elem_read p n t o ks (readss ks) (dps_le ks) (okEs_mem ks)
theorem readss : ∀ (ks : List El), ∀ k ∈ ks, ElemReads k
 | [], k, h => by simp at h
 | x :: ks, k, h => by
   rcases List.mem_cons.1 h with h | h
   · rw [h]; exact reads x
   · exact readss ks k h
end
theorem shown_valid {t : List UInt8} (h : shownF t = true) : Lib.validD t = true := by
 simp only [shownF, Bool.and_eq_true] at h
 exact h.1
theorem tail_valid (pg p : Int) (n tx : List UInt8) (o : Bool) (ks : List El) (r : List UInt8) (hp : 0 ≤ p ∧ p < 3) (hn : isName n = true) (htx : ∀ r, Lib.validD (tx ++ r) = Lib.validD r) (hks : ∀ r, Lib.validD (putsF p ks ++ r) = Lib.validD r) :
  Lib.validD (([60] ++ n ++ (bif p == pg then [] else [32] ++ spaceMark ++ spaceOf p ++ [34]) ++ (bif o then [32] ++ codeMark ++ b64 ++ [34] else []) ++
   (bif tx == [] && Nat.beq ks.length 0 then [47, 62] else [62] ++ tx ++ putsF p ks ++ [60, 47] ++ n ++ [62])) ++ r) = Lib.validD r := by
 have hna : ∀ c ∈ n, c < 128 := fun c hc => nameC_not ((isName_spec hn).2.1 c hc)
 have hsp := (spaceOf_spec hp).2
 simp only [List.append_assoc]
 rw [valid_asc (a := [60]) _ (by decide), valid_asc (a := n) _ hna]
 have hA : ∀ r, Lib.validD ((bif p == pg then [] else [32] ++ (spaceMark ++ (spaceOf p ++ [34]))) ++ r) = Lib.validD r := fun r => by
  cases p == pg
  · simp only [cond_false, List.append_assoc]
    rw [valid_asc (a := [32]) _ (by decide), valid_asc (a := spaceMark) _ (by decide), valid_asc (a := spaceOf p) _ (fun c hc => (hsp c hc).2), valid_asc (a := [34]) _ (by decide)]
  · rfl
 have hB : ∀ r, Lib.validD ((bif o then [32] ++ (codeMark ++ (b64 ++ [34])) else []) ++ r) = Lib.validD r := fun r => by
  cases o
  · rfl
  · simp only [cond_true, List.append_assoc]
    rw [valid_asc (a := [32]) _ (by decide), valid_asc (a := codeMark) _ (by decide), valid_asc (a := b64) _ (by decide), valid_asc (a := [34]) _ (by decide)]
 rw [hA, hB]
 cases (tx == [] && Nat.beq ks.length 0)
 · simp only [cond_false, List.append_assoc]
   rw [valid_asc (a := [62]) _ (by decide), htx, hks, valid_asc (a := [60, 47]) _ (by decide), valid_asc (a := n) _ hna, valid_asc (a := [62]) _ (by decide)]
 · simp only [cond_true]
   rw [valid_asc (a := [47, 62]) _ (by decide)]
mutual
theorem put_valid : ∀ (e : El) (pg : Int) (r : List UInt8), okE e → Lib.validD (putF pg e ++ r) = Lib.validD r
 | .mk p n t o ks, pg, r, h => by
   obtain ⟨hp, hn, _, _, _, _, ho⟩ := check1_ok h.1
   refine tail_valid pg p n (bif o then encF t else esc t) o ks r hp hn (fun r => ?_) (fun r => puts_valid ks p r h.2)
   cases o
   · exact esc_valid t.length t r (Nat.le_refl _) (shown_valid (ho rfl))
   · refine valid_asc _ (fun c hc => ?_)
     have := encF_safe t c hc
     simp only [safeB, Bool.and_eq_true, decide_eq_true_eq] at this
     exact this.1.1.1.1
theorem puts_valid : ∀ (ks : List El) (pg : Int) (r : List UInt8), okEs ks → Lib.validD (putsF pg ks ++ r) = Lib.validD r
 | [], pg, r, _ => rfl
 | k :: ks, pg, r, h => by
   rw [putsF, List.append_assoc, put_valid k pg _ h.1, puts_valid ks pg r h.2]
end
theorem blt_iff {a b : Nat} : Nat.blt a b = true ↔ a < b := by rw [Nat.blt_eq]
mutual
theorem pre_mono (m m' : Nat) (hm : m ≤ m') : ∀ (e : El) (d : Nat), (pre m e d).length ≤ (pre m' e d).length
 | .mk p n t o ks, d => by
   have ih := pres_mono m m' hm ks (d + 1)
   simp only [pre]
   cases h : Nat.blt m d
   · have h' : Nat.blt m' d = false := by
      cases e : Nat.blt m' d with
      | false => rfl
      | true =>
        have h1 : ¬ m < d := by intro hlt; rw [blt_iff.2 hlt] at h; cases h
        have h2 : m' < d := blt_iff.1 e
        omega
     rw [h', cond_false, cond_false, List.length_cons, List.length_cons]
     omega
   · rw [cond_true]; exact Nat.zero_le _
theorem pres_mono (m m' : Nat) (hm : m ≤ m') : ∀ (ks : List El) (d : Nat), (pres m ks d).length ≤ (pres m' ks d).length
 | [], d => Nat.le_refl _
 | k :: ks, d => by
   have h1 := pre_mono m m' hm k d
   have h2 := pres_mono m m' hm ks d
   simp only [pres, List.length_append]
   omega
end
theorem blt_false {m d : Nat} (h : d ≤ m) : Nat.blt m d = false := by
 cases e : Nat.blt m d with
 | false => rfl
 | true => have := blt_iff.1 e; omega
mutual
theorem pre_dp : ∀ (e : El) (d : Nat), d ≤ 13 → (∀ q ∈ pre 13 e d, q.1 ≤ 12) → d + dp e ≤ 13
 | .mk p n t o ks, d, hd, h => by
   simp only [pre, blt_false hd, cond_false] at h
   have h0 := h (d, .mk p n t o ks) (by simp)
   have := pres_dp ks (d + 1) (by simp only at h0; omega) (fun q hq => h q (by simp [hq]))
   simp only [dp] at this ⊢
   omega
theorem pres_dp : ∀ (ks : List El) (d : Nat), d ≤ 13 → (∀ q ∈ pres 13 ks d, q.1 ≤ 12) → d + dps ks ≤ 13
 | [], d, hd, _ => by simpa [dps] using hd
 | k :: ks, d, hd, h => by
   have h1 := pre_dp k d hd (fun q hq => h q (by simp [pres, hq]))
   have h2 := pres_dp ks d hd (fun q hq => h q (by simp [pres, hq]))
   simp only [dps]
   omega
end
mutual
theorem pre_ok : ∀ (e : El) (d : Nat), d + dp e ≤ 14 → (∀ q ∈ pre 13 e d, check1 q.2 = 0) → okE e
 | .mk p n t o ks, d, hd, h => by
   simp only [dp] at hd
   simp only [pre, blt_false (show d ≤ 13 by omega), cond_false] at h
   exact ⟨h (d, .mk p n t o ks) (by simp), pres_ok ks (d + 1) (by omega) (fun q hq => h q (by simp [hq]))⟩
theorem pres_ok : ∀ (ks : List El) (d : Nat), d + dps ks ≤ 14 → (∀ q ∈ pres 13 ks d, check1 q.2 = 0) → okEs ks
 | [], d, _, _ => trivial
 | k :: ks, d, hd, h => by
   simp only [dps] at hd
   exact ⟨pre_ok k d (by omega) (fun q hq => h q (by simp [pres, hq])), pres_ok ks d (by omega) (fun q hq => h q (by simp [pres, hq]))⟩
end
theorem firstErr_zero : ∀ (l : List (Nat × El)), firstErr l = 0 → ∀ q ∈ l, check1 q.2 = 0
 | [], _, q, hq => by simp at hq
 | p :: l, h, q, hq => by
   rw [firstErr] at h
   cases e : check1 p.2 == 0
   · rw [e, cond_false] at h
     rw [h] at e; simp at e
   · rw [e, cond_true] at h
     rcases List.mem_cons.1 hq with rfl | hq
     · simpa using e
     · exact firstErr_zero l h q hq
theorem check_ok {e : El} (h : checkF e = 0) : okE e ∧ dp e ≤ 12 := by
 unfold checkF at h
 obtain ⟨h1, h⟩ := bif_zero (by omega) h
 obtain ⟨h2, h⟩ := bif_zero (by omega) h
 simp only [weightF, List.length_take, decide_eq_false_iff_not] at h2
 have hm := pre_mono 13 5000 (by omega) e 1
 have hl : looked e = pre 13 e 1 := List.take_of_length_le (by omega)
 rw [hl] at h h1
 simp only [List.any_eq_false, decide_eq_true_eq] at h1
 have hdp := pre_dp e 1 (by omega) (fun q hq => by have := h1 q hq; omega)
 exact ⟨pre_ok e 1 (by omega) (firstErr_zero _ h), by omega⟩
theorem put_ws {e : El} {pg : Int} {r : List UInt8} (hok : okE e) : wsN (putF pg e ++ r) = 0 := by
 cases e with
 | mk p n t o ks =>
   obtain ⟨c, x, e, _⟩ := put_head (p := p) (pg := pg) (t := t) (o := o) (ks := ks) (check1_ok hok.1).2.1
   rw [e]
   exact ws0 (by decide)
theorem read_doc {e : El} (h : checkF e = 0) (hl : (docF e).length ≤ 12000) : readF (docF e) = (e, 0, 0) := by
 obtain ⟨hok, hdp⟩ := check_ok h
 have h1 : decide ((((docF e).length : Nat) : Int) > 12000) = false := by simp; omega
 have h2 : Lib.validD (docF e) = true := by
  have := put_valid e 0 [] hok
  rw [List.append_nil] at this
  rw [docF, valid_asc (a := headF) _ (by decide), this]
  rfl
 have h3 : readR (docF e) = .ok e := by
  have hdoc : docF e = headF ++ putF 0 e := rfl
  generalize hs : docF e = s at hdoc
  have hp : List.isPrefixOf headB s = true := by rw [hdoc]; simp [headB, headF, List.isPrefixOf]
  have hd5 : s.drop 5 = [32, 118, 101, 114, 115, 105, 111, 110, 61, 34, 49, 46, 48, 34] ++ ([63, 62] ++ putF 0 e) := by rw [hdoc]; rfl
  have hu : uptoF s headE 5 = .ok ([32, 118, 101, 114, 115, 105, 111, 110, 61, 34, 49, 46, 48, 34], 21) := by
   have : cutO headE (s.drop 5) = some ([32, 118, 101, 114, 115, 105, 111, 110, 61, 34, 49, 46, 48, 34], putF 0 e) := by
    rw [hd5]; simp [cutO, headE, List.isPrefixOf]
   rw [uptoF, this]
   rfl
  have hd21 : s.drop 21 = putF 0 e ++ [] := by rw [hdoc, List.append_nil]; rfl
  have hw : wsN (s.drop 21) = 0 := by rw [hd21]; exact put_ws hok
  have he := reads e 11 0 s 21 [] hok (by omega) hd21
  have hend := drop_add hd21
  have hw2 : wsN (s.drop (21 + (putF 0 e).length)) = 0 := by rw [hend]; rfl
  have e5 : (s.drop (21 + (putF 0 e).length) == []) = true := by rw [hend]; rfl
  have e6 : (checkF e == 0) = true := by rw [h]; rfl
  simp only [readR, hp, hu, cond_true, hw, Nat.add_zero, he, hw2, e5, e6]
 simp only [readF, h1, h2, h3, cond_false, Bool.not_true]
open Go Go.Run
open Go.Proofs.Tryz (prog)
mutual
def sameF : El → El → Nat → Bool
 | .mk p n t o ks, .mk p' n' t' o' ks', d => (p == p' && (n == n' && (t == t' && (o == o' && ks.length == ks'.length)))) && (bif decide (1 < d) then samesF ks ks' (d - 1) else true)
def samesF : List El → List El → Nat → Bool
 | [], _, _ => true
 | _ :: _, [], _ => true
 | k :: ks, k' :: ks', d => sameF k k' d && samesF ks ks' d
end
mutual
theorem sameF_refl : ∀ (e : El) (d : Nat), sameF e e d = true
 | .mk p n t o ks, d => by
   have := samesF_refl ks (d - 1)
   simp only [sameF, beq_self_eq_true, Bool.and_self, this, Bool.true_and]
   cases decide (1 < d) <;> rfl
theorem samesF_refl : ∀ (ks : List El) (d : Nat), samesF ks ks d = true
 | [], d => rfl
 | k :: ks, d => by rw [samesF, sameF_refl k d, samesF_refl ks d]; rfl
end
mutual
def fits : El → Prop
 | .mk _ _ _ _ ks => ks.length ≤ 140737488355328 ∧ fitss ks
def fitss : List El → Prop
 | [] => True
 | k :: ks => fits k ∧ fitss ks
end
theorem fitss_mem : ∀ (ks : List El), fitss ks → ∀ k ∈ ks, fits k
 | [], _, k, h => by simp at h
 | x :: ks, h, k, hk => by
   rcases List.mem_cons.1 hk with rfl | hk
   · exact h.1
   · exact fitss_mem ks h.2 k hk
theorem fitss_of : ∀ (ks : List El), (∀ k ∈ ks, fits k) → fitss ks
 | [], _ => trivial
 | x :: ks, h => ⟨h x (by simp), fitss_of ks (fun k hk => h k (by simp [hk]))⟩
def pairsC : List (Nat × El) → List DV
 | [] => []
 | p :: l => .int .i64 (p.1 : Nat) :: elC p.2 ++ pairsC l
theorem pairsC_append : ∀ (a b : List (Nat × El)), pairsC (a ++ b) = pairsC a ++ pairsC b
 | [], b => rfl
 | p :: a, b => by simp only [List.cons_append, pairsC, pairsC_append a b, List.append_assoc]
theorem elsC_at : ∀ (l : List El) (i : Nat) (x : El), l[i]? = some x → ((elsC l).drop (i * 5)).take 5 = elC x
 | [], i, p, h => by simp at h
 | q :: l, 0, p, h => by
   simp only [List.getElem?_cons_zero, Option.some.injEq] at h
   subst h
   simp only [elsC, Nat.zero_mul, List.drop_zero]
   rw [← elC_length q, List.take_left]
 | q :: l, i + 1, p, h => by
   have ih := elsC_at l i p (by simpa using h)
   have e : (i + 1) * 5 = (elC q).length + i * 5 := by rw [elC_length]; omega
   rw [elsC, e, ← List.drop_drop, List.drop_left]
   exact ih
def runL {σ : Type} (step : σ → Nat → El → σ × Bool) : σ → List (Nat × El) → σ × Bool
 | s, [] => (s, true)
 | s, p :: l => bif (step s p.1 p.2).2 then runL step (step s p.1 p.2).1 l else ((step s p.1 p.2).1, false)
theorem runL_append {σ : Type} (step : σ → Nat → El → σ × Bool) : ∀ (a b : List (Nat × El)) (s : σ), runL step s (a ++ b) = bif (runL step s a).2 then runL step (runL step s a).1 b else ((runL step s a).1, false)
 | [], b, s => rfl
 | p :: a, b, s => by
   simp only [List.cons_append, runL]
   cases (step s p.1 p.2).2
   · rfl
   · simp only [cond_true]
     exact runL_append step a b _
open Go Go.Run Go.RowKit
open Go.Proofs.Tryz (prog)
def F48 : FN := ⟨5, (.seq (.reg [ji 2 (.mv (.c (.bool false)))])
 (.seq (.reg [ji 3 (.mv (.t 0)), ji 4 (.call 109 [(.t 3)]), ji 2 (.mv (.t 4))])
 .ret)), [.tmp 2]⟩
theorem cF48 : cFn prog 48 = some F48 := by kernel_rfl
def F157 : FN := ⟨11, (.seq (.reg [ji 2 (.mv (.c (.bool false)))])
 (.seq (.reg [ji 3 (.mv (.t 0)), ji 4 (.call 48 [(.t 3)]), ji 5 (.mv (.t 4)), jg 6 5 true (.mv (.t 0)), jg 7 5 true (.s2b 5 (.t 6)), jg 8 5 true (.call 200 [(.t 7), (.c (.func (.func 202) [] []))]), jg 9 5 true (.un .not (.t 8)), ji 10 (.pick (.t 5) (.t 9) (.c (.bool false))), ji 2 (.mv (.t 10))])
 .ret)), [.tmp 2]⟩
theorem cF157 : cFn prog 157 = some F157 := by kernel_rfl
def F97 : FN := ⟨54, (.seq (.reg [ji 1 (.box 24 (.t 0)), ji 2 (.mv (ci 0))])
 (.seq (.block 0 (.seq (.reg [ji 4 (.fadr 0 (.t 1)), ji 5 (.ld false 1 (.t 4)), ji 6 (.bin .lss (.t 5) (ci 0)), ji 7 (.mv (.t 6)), jg 8 7 false (.fadr 0 (.t 1)), jg 9 7 false (.ld false 1 (.t 8)), jg 10 7 false (.bin .geq (.t 9) (ci 3)), ji 11 (.pick (.t 7) (.c (.bool true)) (.t 10)), ji 3 (.mv (.t 11))])
 (.cond (.t 3) (.seq (.reg [ji 2 (.mv (ci 5))])
 .ret)
 (.seq (.reg [ji 13 (.fadr 1 (.t 1)), ji 14 (.ld false 1 (.t 13)), ji 15 (.call 156 [(.t 14)]), ji 16 (.un .not (.t 15)), ji 12 (.mv (.t 16))])
 (.cond (.t 12) (.seq (.reg [ji 2 (.mv (ci 14))])
 .ret)
 (.seq (.reg [ji 18 (.fadr 4 (.t 1)), ji 19 (.ld false 1 (.t 18)), ji 20 (.len false (.t 19)), ji 21 (.bin .gtr (.t 20) (ci 200)), ji 17 (.mv (.t 21))])
 (.cond (.t 17) (.seq (.reg [ji 2 (.mv (ci 4))])
 .ret)
 (.seq (.reg [ji 23 (.fadr 4 (.t 1)), ji 24 (.ld false 1 (.t 23)), ji 25 (.len false (.t 24)), ji 26 (.bin .gtr (.t 25) (ci 0)), ji 27 (.mv (.t 26)), jg 28 27 true (.fadr 2 (.t 1)), jg 29 27 true (.ld false 1 (.t 28)), jg 30 27 true (.bin .neq (.t 29) (.c (.str []))), ji 31 (.pick (.t 27) (.t 30) (.c (.bool false))), ji 22 (.mv (.t 31))])
 (.cond (.t 22) (.seq (.reg [ji 2 (.mv (ci 7))])
 .ret)
 (.seq (.reg [ji 33 (.fadr 2 (.t 1)), ji 34 (.ld false 1 (.t 33)), ji 35 (.len true (.t 34)), ji 36 (.bin .gtr (.t 35) (ci 4000)), ji 32 (.mv (.t 36))])
 (.cond (.t 32) (.seq (.reg [ji 2 (.mv (ci 8))])
 .ret)
 (.seq (.seq (.reg [ji 38 (.fadr 3 (.t 1)), ji 39 (.ld false 1 (.t 38)), ji 40 (.mv (.t 39)), jg 41 40 true (.fadr 2 (.t 1)), jg 42 40 true (.ld false 1 (.t 41)), jg 43 40 true (.bin .eql (.t 42) (.c (.str []))), ji 44 (.pick (.t 40) (.t 43) (.c (.bool false))), ji 37 (.mv (.t 44))])
 (.cond (.t 37) .skip
 (.reg [ji 45 (.fadr 3 (.t 1)), ji 46 (.ld false 1 (.t 45)), ji 47 (.un .not (.t 46)), ji 48 (.mv (.t 47)), jg 49 48 true (.fadr 2 (.t 1)), jg 50 48 true (.ld false 1 (.t 49)), jg 51 48 true (.call 157 [(.t 50)]), jg 52 48 true (.un .not (.t 51)), ji 53 (.pick (.t 48) (.t 52) (.c (.bool false))), ji 37 (.mv (.t 53))])))
 (.cond (.t 37) (.seq (.reg [ji 2 (.mv (ci 3))])
 .ret)
 .skip)))))))))))))
 (.seq (.reg [ji 2 (.mv (ci 0))])
 .ret))), [.tmp 2]⟩
theorem cF97 : cFn prog 97 = some F97 := by kernel_rfl
variable {G : Gl}
structure GOK (G : Gl) : Prop where
 ml : ∃ m, G 2 = some [.int .i64 m]
 first : G 0 = some ((List.range 256).map fun c => .int .u8 (Lib.firstT c : Nat))
 acc : G 1 = some ((List.range 16).flatMap fun i => [.int .u8 (Lib.accLo i : Nat), .int .u8 (Lib.accHi i : Nat)])
theorem acc_at : ∀ i, i < 16 → ((List.range 16).flatMap fun i => [DV.int .u8 (Lib.accLo i : Nat), DV.int .u8 (Lib.accHi i : Nat)])[2 * i]? = some (.int .u8 (Lib.accLo i : Nat)) ∧
  ((List.range 16).flatMap fun i => [DV.int .u8 (Lib.accLo i : Nat), DV.int .u8 (Lib.accHi i : Nat)])[2 * i + 1]? = some (.int .u8 (Lib.accHi i : Nat))
 | 0, _ => ⟨rfl, rfl⟩ | 1, _ => ⟨rfl, rfl⟩ | 2, _ => ⟨rfl, rfl⟩ | 3, _ => ⟨rfl, rfl⟩ | 4, _ => ⟨rfl, rfl⟩ | 5, _ => ⟨rfl, rfl⟩ | 6, _ => ⟨rfl, rfl⟩ | 7, _ => ⟨rfl, rfl⟩
 | 8, _ => ⟨rfl, rfl⟩ | 9, _ => ⟨rfl, rfl⟩ | 10, _ => ⟨rfl, rfl⟩ | 11, _ => ⟨rfl, rfl⟩ | 12, _ => ⟨rfl, rfl⟩ | 13, _ => ⟨rfl, rfl⟩ | 14, _ => ⟨rfl, rfl⟩ | 15, _ => ⟨rfl, rfl⟩
 | n + 16, h => by omega
theorem glob_at {w : World} {H : Hp} {Z : Zn} {g : Nat} {cs : List DV} (hr : HR G w H Z) (hg : G g = some cs) {j : Nat} {k : IntKind} {n : Int} (h : cs[j]? = some (.int k n)) : w.cell? ⟨g, j, none⟩ = some (.int k n) := by
 have hv := hr.glob g cs hg
 obtain ⟨a, vs, e, hc⟩ := hv.cptr_inv
 cases e
 have hj : j < cs.length := (List.getElem?_eq_some_iff.1 h).1
 have h1 := (hc.cell j hj).1
 have h2 := hc.val j _ h
 rw [h2.int_inv, Nat.zero_add] at h1
 exact h1
theorem tabs_of {w : World} {H : Hp} {Z : Zn} (hG : GOK G) (hr : HR G w H Z) : Lib.Utf8Tabs 0 1 w :=
 ⟨fun c hc => glob_at hr hG.first (by simp [hc]), fun i hi => ⟨glob_at hr hG.acc (acc_at i hi).1, glob_at hr hG.acc (acc_at i hi).2⟩⟩
theorem validString_ok (hG : GOK G) (s : List UInt8) (hs : s.length ≤ 9223372036854775807) : PF prog G 109 [.str s] (.bool (Lib.validD s)) := by
 refine PF.ofBelow Go.Proofs.Tryz.func109 (by rfl) (by rfl) fun w H Z vs hr hsz hv => ?_
 obtain ⟨v, rfl, k1⟩ := args1 hsz hv
 obtain ⟨q, rfl, hq⟩ := k1.str_inv
 have hlen : q.size ≤ 9223372036854775807 := by rw [Lib.size_eq, hq]; exact hs
 exact (Go.Proofs.Tryz.utf8_ValidString q w hlen (tabs_of hG hr)).mono fun e w' ⟨he, hw⟩ => ⟨_, he, fun _ _ _ => hq ▸ .bool _, hw⟩
theorem charsetValid_ok (hG : GOK G) (s : List UInt8) (hs : s.length ≤ 9223372036854775807) : PF prog G 48 [.str s] (.bool (Lib.validD s)) := by
 intro H
 refine CALL.of cF48 (Nat.le_of_ble_eq_true rfl) ?_
 refine AC.seq (AC.reg ?_)
 refine go ?_
 refine RG.nilS (AC.seq (AC.reg ?_))
 refine go ?_
 refine RG.callP .d rfl (validString_ok hG s hs) ?_
 refine go ?_
 exact RG.nilS (AC.ret (fin rfl ⟨rfl, rfl⟩))
theorem shown_ok (hG : GOK G) (s : List UInt8) (hs : s.length ≤ 4611686018427387904) : PF prog G 157 [.str s] (.bool (shownF s)) := by
 intro H
 refine CALL.of cF157 (Nat.le_of_ble_eq_true rfl) ?_
 refine AC.seq (AC.reg ?_)
 refine go ?_
 refine RG.nilS (AC.seq (AC.reg ?_))
 refine go ?_
 refine RG.callP .d rfl (charsetValid_ok hG s (by omega)) ?_
 refine go ?_
 cases e : Lib.validD s
 · refine go ?_
   exact RG.nilS (AC.ret (fin rfl ⟨by rw [shownF, e]; rfl, rfl⟩))
 · refine go ?_
   refine RG.s .d (ST.s2b rfl ?_)
   refine RG.callP .d rfl (containsFunc_ok shownC_ok s hs none) ?_
   refine go ?_
   exact RG.nilS (AC.ret (fin rfl ⟨by rw [shownF, e]; rfl, rfl⟩))
theorem check1_call (hG : GOK G) (e : El) : PF prog G 97 [.agg (elC e)] (.int .i64 (check1 e)) := by
 obtain ⟨p, n, t, o, ks⟩ := e
 have he : elC (.mk p n t o ks) = [.int .i64 p, .str n, .str t, .bool o, .lst (elsC ks) ks.length 5 none] := by rw [elC]
 rw [he]
 intro H
 refine CALL.of cF97 (Nat.le_of_ble_eq_true rfl) ?_
 refine AC.seq (AC.reg ?_)
 refine RG.box .d rfl rfl fun b hb => ?_
 refine go ?_
 refine RG.nilS (AC.seq (AC.block (AC.seq (AC.reg ?_))))
 generalize hR : check1 (.mk p n t o ks) = R
 rw [check1] at hR
 have bad : ∀ {v : Int}, v = R → ∀ {fr : Fr}, fr 2 = .int .i64 v → Fin F97.rs (fun d' H' => d' = .int .i64 R ∧ H' = H) (fun _ _ => False) .ret fr (H.upd b (some (.cells [.int .i64 p, .str n, .str t, .bool o, .lst (elsC ks) ks.length 5 none] 24))) := by
  intro v hv fr h2
  exact finD (H' := H) rfl (SubH.fresh hb) ⟨by show fr 2 = _; rw [h2, hv], rfl⟩
 refine go ?_
 cases d1 : decide (p < 0)
 case true =>
  refine go ?_
  refine RG.nilS (AC.cond_t rfl (AC.seq (AC.reg ?_)))
  refine go ?_
  exact RG.nilS (AC.ret (bad (by rw [← hR, d1]; rfl) rfl))
 refine go ?_
 cases d2 : decide (p ≥ 3)
 case true =>
  refine RG.nilS (AC.cond_t rfl (AC.seq (AC.reg ?_)))
  refine go ?_
  exact RG.nilS (AC.ret (bad (by rw [← hR, d1, d2]; rfl) rfl))
 rw [d1, d2, Bool.or_self, cond_false] at hR
 refine RG.nilS (AC.cond_f rfl (AC.seq (AC.reg ?_)))
 refine go ?_
 refine RG.callP .d rfl (named_ok n) ?_
 refine go ?_
 cases d3 : isName n
 case false =>
  refine RG.nilS (AC.cond_t rfl (AC.seq (AC.reg ?_)))
  refine go ?_
  exact RG.nilS (AC.ret (bad (by rw [← hR, d3]; rfl) rfl))
 rw [d3, Bool.not_true, cond_false] at hR
 refine RG.nilS (AC.cond_f rfl (AC.seq (AC.reg ?_)))
 refine go ?_
 cases d4 : decide (((ks.length : Nat) : Int) > 200)
 case true =>
  refine RG.nilS (AC.cond_t rfl (AC.seq (AC.reg ?_)))
  refine go ?_
  exact RG.nilS (AC.ret (bad (by rw [← hR, d4]; rfl) rfl))
 rw [d4, cond_false] at hR
 generalize hHH : H.upd b (some (.cells [.int .i64 p, .str n, .str t, .bool o, .lst (elsC ks) ks.length 5 none] 24)) = HH at bad ⊢
 have hHb : HH b = some (.cells [.int .i64 p, .str n, .str t, .bool o, .lst (elsC ks) ks.length 5 none] 24) := by rw [← hHH]; exact Hp.upd_same
 refine RG.nilS (AC.cond_f rfl (AC.seqA (l := [(1, .ptr b 0), (22, .bool (decide (((ks.length : Nat) : Int) > 0) && !(t == [])))]) (H' := HH) (AC.reg ?_) ?_))
 · refine go ?_
   cases d5 : decide (((ks.length : Nat) : Int) > 0)
   · refine go ?_
     exact RG.nil ⟨rfl, rfl, rfl, trivial⟩
   · refine go ?_
     exact RG.nil ⟨rfl, rfl, rfl, trivial⟩
 cases d5 : (decide (((ks.length : Nat) : Int) > 0) && !(t == []))
 case true =>
  refine AC.cond_t rfl (AC.seq (AC.reg ?_))
  refine go ?_
  exact RG.nilS (AC.ret (bad (by rw [← hR, d5]; rfl) rfl))
 rw [d5, cond_false] at hR
 refine AC.cond_f rfl (AC.seq (AC.reg ?_))
 refine go ?_
 cases d6 : decide (((t.length : Nat) : Int) > 4000)
 case true =>
  refine RG.nilS (AC.cond_t rfl (AC.seq (AC.reg ?_)))
  refine go ?_
  exact RG.nilS (AC.ret (bad (by rw [← hR, d6]; rfl) rfl))
 rw [d6, cond_false] at hR
 have hlen := of_decide_eq_false d6
 refine RG.nilS (AC.cond_f rfl (AC.seqA (l := [(37, .bool ((o && t == []) || (!o && !shownF t)))]) (H' := HH) (AC.seq (AC.reg ?_)) ?_))
 · refine go ?_
   cases o
   · refine go ?_
     refine RG.nilS (AC.cond_f rfl (AC.reg ?_))
     refine go ?_
     refine RG.callP .d rfl (shown_ok hG t (by omega)) ?_
     refine go ?_
     exact RG.nil ⟨rfl, rfl, trivial⟩
   · refine go ?_
     cases d7 : t == []
     · refine RG.nilS (AC.cond_f rfl (AC.reg ?_))
       refine go ?_
       exact RG.nil ⟨rfl, rfl, trivial⟩
     · exact RG.nilS (AC.cond_t rfl (AC.skip ⟨rfl, rfl, trivial⟩))
 cases d7 : ((o && t == []) || (!o && !shownF t))
 case true =>
  refine AC.cond_t rfl (AC.seq (AC.reg ?_))
  refine go ?_
  exact RG.nilS (AC.ret (bad (by rw [← hR, d7]; rfl) rfl))
 rw [d7, cond_false] at hR
 refine AC.cond_f rfl (AC.skip ?_)
 refine AC.seq (AC.reg ?_)
 refine go ?_
 exact RG.nilS (AC.ret (bad hR rfl))
open Go Go.Run Go.RowKit
open Go.Proofs.Tryz (prog)
def F155 : FN := ⟨34, (.seq (.reg [ji 4 (.box 24 (.t 0)), ji 8 (.mv (.c (.bool false)))])
 (.seq (.seq (.reg [ji 11 (.mv (.t 1)), ji 12 (.mv (.t 2)), ji 13 (.bin .gtr (.t 11) (.t 12))])
 (.cond (.t 13) (.seq (.reg [ji 8 (.mv (.c (.bool true)))])
 .ret)
 .skip))
 (.seq (.seq (.reg [ji 14 (.mv (.t 3)), ji 15 (.mv (.t 1)), ji 16 (.ld true 5 (.t 4)), ji 17 (.calv (.t 14) [(.t 15), (.t 16)]), ji 18 (.un .not (.t 17))])
 (.cond (.t 18) (.seq (.reg [ji 8 (.mv (.c (.bool false)))])
 .ret)
 .skip))
 (.seq (.seq (.reg [ji 19 (.fadr 4 (.t 4)), ji 20 (.ld false 1 (.t 19)), ji 21 (.len false (.t 20)), ji 22 (.mv (ci 0))])
 (.block 0 (.loop (.seq (.reg [ji 23 (.bin .lss (.t 22) (.t 21))])
 (.seq (.cond (.t 23) .skip
 (.exit 0))
 (.seq (.block 1 (.seq (.reg [ji 24 (.iadr 5 (.t 20) (.t 22)), ji 25 (.ld true 5 (.t 24)), ji 10 (.alloc [(.int .i64 0), (.str []), (.str []), (.bool false), .nils] 24), jn (.st 5 (.t 10) (.t 25))])
 (.seq (.reg [ji 26 (.ld true 5 (.t 10)), ji 27 (.mv (.t 1)), ji 28 (.bin .add (.t 27) (ci 1)), ji 29 (.mv (.t 2)), ji 30 (.mv (.t 3)), ji 31 (.call 155 [(.t 26), (.t 28), (.t 29), (.t 30)]), ji 32 (.un .not (.t 31))])
 (.cond (.t 32) (.seq (.reg [ji 8 (.mv (.c (.bool false)))])
 .ret)
 .skip))))
 (.reg [ji 33 (.bin .add (.t 22) (ci 1)), ji 22 (.mv (.t 33))])))))))
 (.seq (.reg [ji 8 (.mv (.c (.bool true)))])
 .ret))))), [.tmp 8]⟩
theorem cF155 : cFn prog 155 = some F155 := by kernel_rfl
def F96 : FN := ⟨6, (.seq (.reg [ji 2 (.box 24 (.t 0)), ji 3 (.box 3 (.t 1)), ji 4 (.mv (.c .nilfn))])
 (.seq (.reg [ji 5 (.mkfn (.func 154) [] [(.t 2), (.t 3)]), ji 4 (.mv (.t 5))])
 .ret)), [.tmp 4]⟩
theorem cF96 : cFn prog 96 = some F96 := by kernel_rfl
def F154 : FN := ⟨8, (.reg [ji 4 (.ld true 5 (.t 1)), ji 5 (.ld false 1 (.t 2)), ji 6 (.mv (.t 0)), ji 7 (.call 155 [(.t 4), (ci 1), (.t 5), (.t 6)])]), []⟩
theorem cF154 : cFn prog 154 = some F154 := by kernel_rfl
variable {G : Gl}
def El.page : El → Int
 | .mk p _ _ _ _ => p
def El.name : El → List UInt8
 | .mk _ n _ _ _ => n
def El.text : El → List UInt8
 | .mk _ _ t _ _ => t
def El.op : El → Bool
 | .mk _ _ _ o _ => o
def El.kids : El → List El
 | .mk _ _ _ _ ks => ks
def YOK (G : Gl) {σ : Type} (yv : DV) (step : σ → Nat → El → σ × Bool) (h : σ → Hp) (ok : σ → Prop) : Prop :=
 ∀ (s : σ) (d : Nat) (x : El), ok s → d ≤ 1000000 → CALV prog G yv [.int .i64 d, .agg (elC x)] (h s) (fun r H' => r = .bool (step s d x).2 ∧ H' = h (step s d x).1) (fun _ _ => False) ∧ ((step s d x).2 = true → ok (step s d x).1)
theorem runL_ok {σ : Type} {step : σ → Nat → El → σ × Bool} {ok : σ → Prop} (hk : ∀ (s : σ) (d : Nat) (x : El), ok s → d ≤ 1000000 → (step s d x).2 = true → ok (step s d x).1) : ∀ (l : List (Nat × El)) (s : σ), (∀ p ∈ l, p.1 ≤ 1000000) → ok s → (runL step s l).2 = true → ok (runL step s l).1
 | [], s, _, h, _ => h
 | p :: l, s, hl, h, h2 => by
   rw [runL] at h2 ⊢
   cases e : (step s p.1 p.2).2
   · rw [e] at h2; cases h2
   · rw [e] at h2
     exact runL_ok hk l _ (fun q hq => hl q (by simp [hq])) (hk s p.1 p.2 h (hl p (by simp)) e) h2
mutual
theorem pre_deep (m : Nat) : ∀ (e : El) (d : Nat), ∀ p ∈ pre m e d, p.1 ≤ m
 | .mk p n t o ks, d, q, h => by
   rw [pre] at h
   cases e : Nat.blt m d
   · rw [e, cond_false] at h
     have hd : d ≤ m := by
      by_cases hlt : m < d
      · rw [blt_iff.2 hlt] at e; cases e
      · omega
     rcases List.mem_cons.1 h with rfl | h
     · exact hd
     · exact pres_deep m ks (d + 1) q h
   · rw [e, cond_true] at h; simp at h
theorem pres_deep (m : Nat) : ∀ (ks : List El) (d : Nat), ∀ p ∈ pres m ks d, p.1 ≤ m
 | [], d, q, h => by simp [pres] at h
 | k :: ks, d, q, h => by
   rw [pres] at h
   rcases List.mem_append.1 h with h | h
   · exact pre_deep m k d q h
   · exact pres_deep m ks d q h
end
theorem pres_drop (m d : Nat) (ks : List El) (i : Nat) (hi : i < ks.length) : pres m (ks.drop i) d = pre m ks[i] d ++ pres m (ks.drop (i + 1)) d := by
 rw [List.drop_eq_getElem_cons hi, pres]
theorem El.eta : ∀ (e : El), .mk e.page e.name e.text e.op e.kids = e
 | .mk _ _ _ _ _ => rfl
def elT : TypeId := 24
theorem walk_ok {σ : Type} {yv : DV} {step : σ → Nat → El → σ × Bool} {h : σ → Hp} {ok : σ → Prop} (hy : YOK G yv step h ok) (M : Nat) (hM : M < 1000000) :
  ∀ (m : Nat) (e : El) (d : Nat) (s : σ), fits e → ok s → M + 1 ≤ d + m → d ≤ M + 1 → CALL prog G 155 [.agg (elC e), .int .i64 d, .int .i64 M, yv] (h s)
   (fun r H' => r = .bool (runL step s (pre M e d)).2 ∧ H' = h (runL step s (pre M e d)).1) (fun _ _ => False) := by
 intro m
 induction m with
 | zero =>
   intro e d s hfit hs hm hd
   have hb : Nat.blt M d = true := blt_iff.2 (by omega)
   have hp : pre M e d = [] := by cases e; rw [pre, hb]; rfl
   rw [hp]
   refine CALL.of cF155 (Nat.le_of_ble_eq_true rfl) ?_
   refine AC.seq (AC.reg ?_)
   refine RG.box .d rfl rfl fun b hb => ?_
   refine go ?_
   refine RG.nilS (AC.seq (AC.seq (AC.reg ?_)))
   refine go ?_
   have e1 : decide ((d : Int) > M) = true := by simp; omega
   rw [e1]
   refine RG.nilS (AC.cond_t rfl (AC.seq (AC.reg ?_)))
   refine go ?_
   exact RG.nilS (AC.ret (finD (H' := h s) rfl (SubH.fresh hb) ⟨rfl, rfl⟩))
 | succ m ih =>
   intro e d s hfit hs hm hd
   refine CALL.of cF155 (Nat.le_of_ble_eq_true rfl) ?_
   refine AC.seq (AC.reg ?_)
   refine RG.box .d rfl rfl fun b hb => ?_
   refine go ?_
   refine RG.nilS (AC.seq (AC.seq (AC.reg ?_)))
   refine go ?_
   cases e1 : decide ((d : Int) > M)
   case true =>
    have hlt := of_decide_eq_true e1
    have hbb : Nat.blt M d = true := blt_iff.2 (by omega)
    have hp : pre M e d = [] := by cases e; rw [pre, hbb]; rfl
    rw [hp]
    refine RG.nilS (AC.cond_t rfl (AC.seq (AC.reg ?_)))
    refine go ?_
    exact RG.nilS (AC.ret (finD (H' := h s) rfl (SubH.fresh hb) ⟨rfl, rfl⟩))
   have hle := of_decide_eq_false e1
   have hbf : Nat.blt M d = false := blt_false (by omega)
   obtain ⟨p, n, t, o, ks⟩ := e
   obtain ⟨hkl, hks⟩ := hfit
   have he : elC (.mk p n t o ks) = [.int .i64 p, .str n, .str t, .bool o, .lst (elsC ks) ks.length 5 none] := by rw [elC]
   have hpre : pre M (.mk p n t o ks) d = (d, .mk p n t o ks) :: pres M ks (d + 1) := by rw [pre, hbf]; rfl
   rw [hpre, runL]
   dsimp only
   obtain ⟨hy1, hy2⟩ := hy s d (.mk p n t o ks) hs (by omega)
   refine RG.nilS (AC.cond_f rfl (AC.skip (AC.seq (AC.seq (AC.reg ?_)))))
   refine go1 ?_
   refine go1 ?_
   refine RG.ld .d wh hbb (d := .agg (elC (.mk p n t o ks))) (by rw [he]; rfl) ?_
   refine RG.calV .d rfl rfl (hy1.frame hb notF_cells) (fun r H' ⟨A', ⟨k1, k2⟩, k3, k4⟩ => ?_) (fun r H' ⟨_, k, _⟩ => k.elim)
   subst k1; subst k2; subst k4
   refine go ?_
   generalize hs1 : (step s d (.mk p n t o ks)).1 = s1 at k3 hy2 ⊢
   cases e2 : (step s d (.mk p n t o ks)).2
   case false =>
    refine RG.nilS (AC.cond_t rfl (AC.seq (AC.reg ?_)))
    refine go ?_
    exact RG.nilS (AC.ret (finD (H' := h s1) rfl (SubH.fresh k3) ⟨rfl, rfl⟩))
   have hok1 := hy2 e2
   refine RG.nilS (AC.cond_f rfl (AC.skip (AC.seq (AC.seq (AC.reg ?_)))))
   rw [cond_true, he]
   refine go ?_
   refine RG.nilS ?_
   refine AC.bloopH (α := Nat × σ) (β := Unit) (fun a => ks.length - a.1) (fun a => [(1, .int .i64 d), (2, .int .i64 M), (3, yv), (20, .lst (elsC ks) ks.length 5 none), (21, .int .i64 ks.length), (22, .int .i64 a.1)])
    (fun a H' => a.1 ≤ ks.length ∧ ok a.2 ∧ h a.2 b = none ∧ H' = (h a.2).upd b (some (.cells [.int .i64 p, .str n, .str t, .bool o, .lst (elsC ks) ks.length 5 none] elT)) ∧ runL step s1 (pres M ks (d + 1)) = runL step a.2 (pres M (ks.drop a.1) (d + 1)))
    (fun _ => []) (fun _ H' => (runL step s1 (pres M ks (d + 1))).2 = true ∧ SubH (h (runL step s1 (pres M ks (d + 1))).1) H') ?_ ?_ (0, s1) _ ⟨Nat.zero_le _, hok1, k3, rfl, rfl⟩ ⟨rfl, rfl, rfl, rfl, rfl, rfl, trivial⟩
   · intro _ He fr ⟨h1, h2⟩ hfr
     refine AC.to _ hfr (AC.seq (AC.reg ?_))
     refine go ?_
     exact RG.nilS (AC.ret (finD rfl h2 ⟨by rw [h1]; rfl, rfl⟩))
   · rintro ⟨i, s2⟩ H' ⟨h1, h2, h3, h4, h5⟩ ih2 ex
     subst h4
     dsimp only at h1 h2 h3 h5 ⊢
     refine AC.seq (AC.reg ?_)
     refine go ?_
     cases e3 : decide ((i : Int) < ks.length)
     · have e := of_decide_eq_false e3
       have hd : ks.drop i = [] := List.drop_eq_nil_of_le (by omega)
       rw [hd] at h5
       have h6 : runL step s1 (pres M ks (d + 1)) = (s2, true) := h5
       exact RG.nilS (AC.seq (AC.cond_f rfl (AC.exit (ex () _ _ ⟨by rw [h6], by rw [h6]; exact SubH.fresh h3⟩ trivial))))
     · have e := of_decide_eq_true e3
       have hi : i < ks.length := by omega
       rw [pres_drop M (d + 1) ks i hi, runL_append] at h5
       obtain ⟨p', n', t', o', ks', hx⟩ : ∃ p' n' t' o' ks', ks[i] = .mk p' n' t' o' ks' := ⟨_, _, _, _, _, (El.eta ks[i]).symm⟩
       have he' : elC (.mk p' n' t' o' ks') = [.int .i64 p', .str n', .str t', .bool o', .lst (elsC ks') ks'.length 5 none] := by rw [elC]
       have hrow : ((elsC ks).drop (i * 5)).take 5 = elC (.mk p' n' t' o' ks') := elsC_at ks i _ (by rw [← hx]; exact List.getElem?_eq_getElem hi)
       rw [hx] at h5
       have hrow' : partD true 0 5 ((elsC ks).drop (((i : Nat) : Int).toNat * 5)) = some (.agg (elC (.mk p' n' t' o' ks'))) := partD_row (i := i) (sz := 5) hrow (by rw [elsC_length]; omega)
       refine RG.nilS (AC.seq (AC.cond_t rfl (AC.skip (AC.seq (AC.block (AC.seq (AC.reg ?_)))))))
       refine RG.p .d (evP_iadr wh wh (by omega)) ?_
       refine RG.p .d (evP_ldc wh hrow') ?_
       refine RG.alloc .d fun q hq => ?_
       have hqb : q ≠ b := fun e => by rw [e, Hp.upd_same] at hq; cases hq
       have hq2 : h s2 q = none := by rw [Hp.upd_ne hqb] at hq; exact hq
       rw [he']
       refine go ?_
       rw [Hp.upd_upd]
       refine RG.nilS (AC.seq (AC.reg ?_))
       refine RG.ld .d wh Hp.upd_same (d := .agg (elC (.mk p' n' t' o' ks'))) (by rw [he']; rfl) ?_
       refine go ?_
       have hc := ih (.mk p' n' t' o' ks') (d + 1) s2 (by rw [← hx]; exact fitss_mem ks hks _ (List.getElem_mem hi)) h2 (by omega) (by omega)
       have hc2 := (hc.frame (b := b) (o := .cells [.int .i64 p, .str n, .str t, .bool o, .lst (elsC ks) ks.length 5 none] elT) h3 notF_cells).frame (b := q) (o := .cells [.int .i64 p', .str n', .str t', .bool o', .lst (elsC ks') ks'.length 5 none] elT) (by rw [Hp.upd_ne hqb]; exact hq2) notF_cells
       refine RG.call .d rfl hc2 (fun r H' ⟨A', ⟨A2, ⟨k1, k2⟩, k3, k4⟩, k5, k6⟩ => ?_) (fun r H' ⟨_, ⟨_, k, _⟩, _⟩ => k.elim)
       subst k1; subst k2; subst k4; subst k6
       refine go ?_
       have hok2 := runL_ok (fun s d x a b c => (hy s d x a b).2 c) (pre M (.mk p' n' t' o' ks') (d + 1)) s2 (fun q hq => by have := pre_deep M _ _ q hq; omega) h2
       generalize hR : runL step s2 (pre M (.mk p' n' t' o' ks') (d + 1)) = R at h5 k3 k5 hok2 ⊢
       cases e4 : R.2
       · rw [e4, cond_false] at h5
         refine RG.nilS (AC.cond_t rfl (AC.seq (AC.reg ?_)))
         refine go ?_
         have hsub : SubH (h R.1) (((h R.1).upd b (some (.cells [.int .i64 p, .str n, .str t, .bool o, .lst (elsC ks) ks.length 5 none] elT))).upd q (some (.cells [.int .i64 p', .str n', .str t', .bool o', .lst (elsC ks') ks'.length 5 none] elT))) :=
          (SubH.fresh k3).trans (SubH.fresh k5)
         exact RG.nilS (AC.ret (finD (H' := h R.1) rfl hsub ⟨by rw [h5]; rfl, by rw [h5]⟩))
       · rw [e4, cond_true] at h5
         refine RG.nilS (AC.cond_f rfl (AC.skip ?_))
         refine AC.drop (SubH.fresh k5) (AC.reg ?_)
         refine go ?_
         exact RG.nil (ih2 (i + 1, R.1) _ ⟨by dsimp only; omega, hok2 e4, k3, rfl, h5⟩ (by dsimp only; omega) _ ⟨rfl, rfl, rfl, rfl, rfl, rfl, trivial⟩)
def wH (H : Hp) (b1 b2 : Nat) (e : El) (M : Nat) : Hp := (H.upd b1 (some (.cells (elC e) elT))).upd b2 (some (.cells [.int .i64 M] 3))
theorem within_ok (e : El) (M : Nat) (H : Hp) : CALL prog G 96 [.agg (elC e), .int .i64 M] H
  (fun r H' => ∃ b1 b2, H b1 = none ∧ H b2 = none ∧ b2 ≠ b1 ∧ r = .func (.func 154) [] [.ptr b1 0, .ptr b2 0] ∧ H' = wH H b1 b2 e M) (fun _ _ => False) := by
 refine CALL.of cF96 (Nat.le_of_ble_eq_true rfl) ?_
 refine AC.seq (AC.reg ?_)
 refine RG.box .d rfl rfl fun b1 hb1 => ?_
 refine RG.box .d rfl rfl fun b2 hb2 => ?_
 have hne : b2 ≠ b1 := fun e => by rw [e, Hp.upd_same] at hb2; cases hb2
 rw [Hp.upd_ne hne] at hb2
 refine go ?_
 refine RG.nilS (AC.seq (AC.reg ?_))
 refine go ?_
 exact RG.nilS (AC.ret (fin rfl ⟨b1, b2, hb1, hb2, hne, rfl, rfl⟩))
theorem within1_ok {σ : Type} {yv : DV} {step : σ → Nat → El → σ × Bool} {h : σ → Hp} {ok : σ → Prop} (hy : YOK G yv step h ok) (M : Nat) (hM : M < 1000000) (e : El) (hfit : fits e) (s : σ) (hs : ok s) {b1 b2 : Nat} (h1 : h s b1 = none) (h2 : h s b2 = none) (hne : b2 ≠ b1) :
  CALL prog G 154 [yv, .ptr b1 0, .ptr b2 0] (wH (h s) b1 b2 e M) (fun _ H' => H' = wH (h (runL step s (pre M e 1)).1) b1 b2 e M ∧ h (runL step s (pre M e 1)).1 b1 = none ∧ h (runL step s (pre M e 1)).1 b2 = none) (fun _ _ => False) := by
 have hc := walk_ok hy M hM (M + 1) e 1 s hfit hs (by omega) (by omega)
 have hc2 := (hc.frame (b := b1) (o := .cells (elC e) elT) h1 notF_cells).frame (b := b2) (o := .cells [.int .i64 M] 3) (by rw [Hp.upd_ne hne]; exact h2) notF_cells
 have hw1 : wH (h s) b1 b2 e M b1 = some (.cells (elC e) elT) := by rw [wH, Hp.upd_ne (Ne.symm hne)]; exact Hp.upd_same
 have hw2 : wH (h s) b1 b2 e M b2 = some (.cells [.int .i64 M] 3) := Hp.upd_same
 refine CALL.of cF154 (Nat.le_of_ble_eq_true rfl) ?_
 refine AC.reg ?_
 refine RG.ld .d wh hw1 (d := .agg (elC e)) (by obtain ⟨p, n, t, o, ks⟩ := e; rw [elC]; rfl) ?_
 refine RG.ld .d wh hw2 (d := .int .i64 M) rfl ?_
 refine go ?_
 refine RG.call .d rfl hc2 (fun r H' ⟨A', ⟨A2, ⟨k1, k2⟩, k3, k4⟩, k5, k6⟩ => ?_) (fun r H' ⟨_, ⟨_, k, _⟩, _⟩ => k.elim)
 subst k2; subst k4; subst k6
 exact RG.nil (fin rfl ⟨rfl, k3, by rw [Hp.upd_ne hne] at k5; exact k5⟩)
open Go Go.Run Go.RowKit
open Go.Proofs.Tryz (prog)
def F98 : FN := ⟨13, (.seq (.reg [ji 1 (.box 24 (.t 0)), ji 2 (.mv (ci 0))])
 (.seq (.reg [ji 3 (.alloc [(.int .i64 0)] 3), jn (.st 1 (.t 3) (ci 0))])
 (.seq (.seq (.reg [ji 4 (.ld true 5 (.t 1)), ji 5 (.call 96 [(.t 4), (ci 5000)])])
 (.block 0 (.rng (.t 5) [6, 7] .skip
 (.block 1 (.seq (.reg [ji 8 (.ld false 1 (.t 3)), ji 9 (.bin .add (.t 8) (ci 1)), jn (.st 1 (.t 3) (.t 9))])
 (.seq (.reg [ji 10 (.ld false 1 (.t 3)), ji 11 (.bin .eql (.t 10) (ci 5000))])
 (.cond (.t 11) (.exit 0)
 .skip)))))))
 (.seq (.reg [ji 12 (.ld false 1 (.t 3)), ji 2 (.mv (.t 12))])
 .ret)))), [.tmp 2]⟩
theorem cF98 : cFn prog 98 = some F98 := by kernel_rfl
variable {G : Gl}
def stepW (n : Nat) (_ : Nat) (_ : El) : Nat × Bool := (n + 1, !(n + 1 == 5000))
theorem runW : ∀ (l : List (Nat × El)) (n : Nat), n < 5000 → (runL stepW n l).1 = n + (l.take (5000 - n)).length
 | [], n, _ => by simp [runL]
 | p :: l, n, h => by
   rw [runL]
   cases e : n + 1 == 5000
   · have hne : n + 1 ≠ 5000 := by simpa using e
     have := runW l (n + 1) (by omega)
     simp only [stepW, e, Bool.not_false, cond_true, this]
     obtain ⟨q, hq⟩ : ∃ q, 5000 - n = q + 1 := ⟨5000 - n - 1, by omega⟩
     rw [hq, List.take_succ_cons, List.length_cons, show 5000 - (n + 1) = q by omega]
     omega
   · have heq : n + 1 = 5000 := by simpa using e
     simp only [stepW, e, Bool.not_true, cond_false]
     rw [show 5000 - n = 1 by omega]
     simp
theorem Weight_ok (e : El) (hfit : fits e) : PF prog G 98 [.agg (elC e)] (.int .i64 (weightF e : Nat)) := by
 intro H
 refine CALL.of cF98 (Nat.le_of_ble_eq_true rfl) ?_
 refine AC.seq (AC.reg ?_)
 refine RG.box .d rfl rfl fun be hbe => ?_
 refine go ?_
 refine RG.nilS (AC.seq (AC.reg ?_))
 refine RG.alloc .d fun bn hbn => ?_
 have hne1 : bn ≠ be := fun e => by rw [e, Hp.upd_same] at hbn; cases hbn
 rw [Hp.upd_ne hne1] at hbn
 refine go ?_
 rw [Hp.upd_upd]
 refine RG.nilS (AC.seq (AC.seq (AC.reg ?_)))
 refine RG.ld .d wh (by rw [Hp.upd_ne (Ne.symm hne1)]; exact Hp.upd_same) (d := .agg (elC e)) (by obtain ⟨p, n, t, o, ks⟩ := e; rw [elC]; rfl) ?_
 refine RG.call .d rfl (within_ok e 5000 _) (fun r H' ⟨b1, b2, h1, h2, h3, h4, h5⟩ => ?_) (fun _ _ h => h.elim)
 subst h4; subst h5
 have n1 : b1 ≠ bn := fun e => by rw [e, Hp.upd_same] at h1; cases h1
 have n2 : b2 ≠ bn := fun e => by rw [e, Hp.upd_same] at h2; cases h2
 rw [Hp.upd_ne n1] at h1
 rw [Hp.upd_ne n2] at h2
 have n3 : b1 ≠ be := fun e => by rw [e, Hp.upd_same] at h1; cases h1
 have n4 : b2 ≠ be := fun e => by rw [e, Hp.upd_same] at h2; cases h2
 rw [Hp.upd_ne n3] at h1
 rw [Hp.upd_ne n4] at h2
 refine RG.nilS (AC.block ?_)
 generalize hfr : Fr.put _ (some 5) _ = fr
 have f3 : fr 3 = .ptr bn 0 := by rw [← hfr]; rfl
 have f5 : fr 5 = .func (.func 154) [] [.ptr b1 0, .ptr b2 0] := by rw [← hfr]; rfl
 clear hfr
 refine AC.rng f5 fun l asg bd has hbd hl => ?_
 have m1 : l ≠ b2 := fun e => by rw [e, wH, Hp.upd_same] at hl; cases hl
 rw [wH, Hp.upd_ne m1] at hl
 have m2 : l ≠ b1 := fun e => by rw [e, Hp.upd_same] at hl; cases hl
 rw [Hp.upd_ne m2] at hl
 have m3 : l ≠ bn := fun e => by rw [e, Hp.upd_same] at hl; cases hl
 rw [Hp.upd_ne m3] at hl
 have m4 : l ≠ be := fun e => by rw [e, Hp.upd_same] at hl; cases hl
 rw [Hp.upd_ne m4] at hl
 have hHl := hl
 let h : Nat → Hp := fun n => ((H.upd be (some (.cells (elC e) elT))).upd bn (some (.cells [.int .i64 n] 3))).upd l (some (.loop F98.N [6, 7] asg bd fr (bif n == 5000 then .done else .ready) (bif n == 5000 then some (.exit 0) else none)))
 have hy : YOK G (.func (.yield l) [] []) stepW h (fun n => n < 5000) := by
  intro n d x hok hd
  have en : (n == 5000) = false := by simp; omega
  refine ⟨.inr ⟨l, rfl, ?_⟩, fun hs => ?_⟩
  · refine YLD.of (N := F98.N) (ps := [6, 7]) (bd := bd) (fr := fr) (by simp only [h, en]; exact Hp.upd_same) rfl has hbd ?_
    refine AC.skip ⟨rfl, by simp only [h, en]; exact Hp.upd_same, ?_⟩
    refine AC.block (AC.seq (AC.reg ?_))
    have hh : (h n).upd l (some (.loop F98.N [6, 7] asg bd fr .busy none)) = ((H.upd be (some (.cells (elC e) elT))).upd bn (some (.cells [.int .i64 n] 3))).upd l (some (.loop F98.N [6, 7] asg bd fr .busy none)) := Hp.upd_upd
    rw [hh]
    have hc : (((H.upd be (some (.cells (elC e) elT))).upd bn (some (.cells [.int .i64 n] 3))).upd l (some (.loop F98.N [6, 7] asg bd fr .busy none))) bn = some (.cells [.int .i64 n] 3) := by
     rw [Hp.upd_ne (Ne.symm m3)]; exact Hp.upd_same
    refine RG.ld .d f3 hc (d := .int .i64 n) rfl ?_
    refine go1 ?_
    refine RG.sto (cs := [.int .i64 n]) (ty := 3) .d f3 hc wh rfl rfl (Nat.le_refl _) ?_
    refine RG.nilS (AC.seq (AC.reg ?_))
    refine RG.ld .d f3 Hp.upd_same (d := .int .i64 ((n + 1 : Nat) : Int)) rfl ?_
    refine RG.p (d := .bool (n + 1 == 5000)) .d (by
     show some (DV.bool (((n + 1 : Nat) : Int) == 5000)) = _
     congr 2
     rw [Bool.eq_iff_iff]; simp only [beq_iff_eq]; omega) ?_
    cases en1 : n + 1 == 5000
    · refine RG.nilS (AC.cond_f rfl (AC.skip ?_))
      refine ⟨by rw [Hp.upd_ne m3]; exact Hp.upd_same, _, SubH.refl _, by simp only [stepW, en1]; rfl, ?_⟩
      simp only [stepW, h, en1, cond_false]
      (funext k; simp only [Hp.upd]; repeat (first | rfl | split); all_goals simp_all)
    · refine RG.nilS (AC.cond_t rfl (AC.exit ?_))
      refine ⟨by rw [Hp.upd_ne m3]; exact Hp.upd_same, _, SubH.refl _, by simp only [stepW, en1]; rfl, ?_⟩
      simp only [stepW, h, en1, cond_true]
      (funext k; simp only [Hp.upd]; repeat (first | rfl | split); all_goals simp_all)
  · have : (n + 1 == 5000) = false := by simpa [stepW] using hs
    have hne : n + 1 ≠ 5000 := by simpa using this
    simp only [stepW]; omega
 have h0 : (wH ((H.upd be (some (.cells (elC e) elT))).upd bn (some (.cells [.int .i64 0] 3))) b1 b2 e 5000).upd l (some (.loop F98.N [6, 7] asg bd fr .ready none)) = wH (h 0) b1 b2 e 5000 := by
  simp only [wH, h]
  rw [Hp.upd_comm (Ne.symm m1), Hp.upd_comm (Ne.symm m2)]
  rfl
 have hb1 : ∀ n, h n b1 = none := fun n => by
  simp only [h]
  rw [Hp.upd_ne (Ne.symm m2), Hp.upd_ne n1, Hp.upd_ne n3]; exact h1
 have hb2 : ∀ n, h n b2 = none := fun n => by
  simp only [h]
  rw [Hp.upd_ne (Ne.symm m1), Hp.upd_ne n2, Hp.upd_ne n4]; exact h2
 have hc := within1_ok hy 5000 (by omega) e hfit 0 (by omega) (hb1 0) (hb2 0) h3
 have hR := runW (pre 5000 e 1) 0 (by omega)
 generalize runL stepW 0 (pre 5000 e 1) = R at hc hR
 rw [Nat.zero_add] at hR
 have hw : R.1 = weightF e := hR
 have hz : (wH ((H.upd be (some (.cells (elC e) elT))).upd bn (some (.cells [.int .i64 0] 3))) b1 b2 e 5000).upd l (some (.loop F98.N [6, 7] asg bd fr .ready none)) = wH (h 0) b1 b2 e 5000 := h0
 have hnext : ∀ H2, H2 = wH (h R.1) b1 b2 e 5000 → AC prog G none F98.N (.seq (.reg [ji 12 (.ld false 1 (.t 3)), ji 2 (.mv (.t 12))]) .ret) (Fin F98.rs (fun d' H' => d' = .int .i64 (weightF e : Nat) ∧ H' = H) (fun _ _ => False)) fr (H2.upd l none) := by
  rintro H2 rfl
  refine AC.seq (AC.reg ?_)
  have hcb : ((wH (h R.1) b1 b2 e 5000).upd l none) bn = some (.cells [.int .i64 R.1] 3) := by
   rw [Hp.upd_ne (Ne.symm m3), wH, Hp.upd_ne (Ne.symm n2), Hp.upd_ne (Ne.symm n1)]
   simp only [h]
   rw [Hp.upd_ne (Ne.symm m3)]; exact Hp.upd_same
  refine RG.ld .d f3 hcb (d := .int .i64 R.1) rfl ?_
  refine go ?_
  refine RG.nilS (AC.ret (finD (H' := H) rfl ?_ ⟨by rw [← hw]; rfl, rfl⟩))
  intro k o hk
  have k1 : k ≠ l := fun e => by rw [e, hHl] at hk; cases hk
  have k2 : k ≠ b2 := fun e => by rw [e, h2] at hk; cases hk
  have k3 : k ≠ b1 := fun e => by rw [e, h1] at hk; cases hk
  have k4 : k ≠ bn := fun e => by rw [e, hbn] at hk; cases hk
  have k5 : k ≠ be := fun e => by rw [e, hbe] at hk; cases hk
  simp only [h, wH]
  rw [Hp.upd_ne k1, Hp.upd_ne k2, Hp.upd_ne k3, Hp.upd_ne k1, Hp.upd_ne k4, Hp.upd_ne k5]
  exact hk
 have hfin : CALL prog G 154 ([] ++ [.func (.yield l) [] []] ++ [.ptr b1 0, .ptr b2 0]) ((wH ((H.upd be (some (.cells (elC e) elT))).upd bn (some (.cells [.int .i64 0] 3))) b1 b2 e 5000).upd l (some (.loop F98.N [6, 7] asg bd fr .ready none)))
   (fun _ H' => H' = wH (h R.1) b1 b2 e 5000) (fun _ _ => False) := by
  rw [h0]
  exact hc.mono (fun _ _ hq => hq.1) (fun _ _ hq => hq)
 refine hfin.mono (fun _ H' hq => ?_) (fun _ _ hq => hq.elim)
 have hHl2 : H' l = some (.loop F98.N [6, 7] asg bd fr (bif R.1 == 5000 then .done else .ready) (bif R.1 == 5000 then some (.exit 0) else none)) := by
  rw [hq, wH, Hp.upd_ne m1, Hp.upd_ne m2]
  exact Hp.upd_same
 refine ⟨_, _, hHl2, ?_, ?_⟩
 · cases R.1 == 5000 <;> simp
 · cases R.1 == 5000
   · exact hnext H' hq
   · exact hnext H' hq
end Go.Run.Tryz
