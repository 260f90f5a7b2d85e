/- Part 5 of a proof: texts N1 N2 N3 N4 N5 N6 N7 N8 N9 N10 N11. -/
import Derived.Test.YthmjdmianbobbaaGreatDoorVD
import Derived.Test.YthmjdmianbobbaaGreatDoorProg
import Derived.KernelRfl
import Derived.Test.YthmjdmianbobbaaGreatDoorShelf
namespace Go.Run.Tryz
open Go Go.Run
open Go.Proofs.Tryz (prog)
def F54 : FN := ⟨12, (.seq (.reg [ji 6 (.mv (.t 0)), ji 7 (.un .not (.t 6))])
 (.cond (.t 7) (.reg [ji 8 (.mv (.t 1)), ji 9 (.mv (.t 2)), ji 10 (.bld [(.int .i64 0), (.int .i64 0)] [(0, 1, (.t 8)), (1, 1, (.t 9))]), ji 11 (.mkif 87 (.t 10)), jn (.pan (.t 11))])
 .skip)), []⟩
theorem cF54 : cFn prog 54 = some F54 := by kernel_rfl
def F55 : FN := ⟨12, (.seq (.reg [ji 2 (.mv (.c (.str [])))])
 (.seq (.draw [ji 3 (.mv (.t 0)), ji 4 (.nilc (.t 3)), ji 5 (.fadr 0 (.t 4)), ji 6 (.ld false 1 (.t 5)), ji 7 (.mv (.t 0)), ji 8 (.nilc (.t 7)), ji 9 (.fadr 1 (.t 8)), ji 10 (.ld false 1 (.t 9)), ji 11 (.slcS (.t 6) (some (.t 10)) none), ji 2 (.mv (.t 11))] [[], [0], [1], [2], [], [4], [5], [6], [3, 7], [8, 0, 1, 2, 3, 4, 5, 6, 7, 8]])
 .ret)), [.tmp 2]⟩
theorem cF55 : cFn prog 55 = some F55 := by kernel_rfl
def F50 : FN := ⟨19, (.seq (.reg [ji 4 (.mv (.c (.bool false)))])
 (.seq (.seq (.reg [ji 5 (.mv (.t 0)), ji 6 (.call 55 [(.t 5)]), ji 7 (.mv (.t 1)), ji 8 (.call 73 [(.t 6), (.t 7)]), ji 9 (.un .not (.t 8))])
 (.cond (.t 9) (.seq (.reg [ji 4 (.mv (.c (.bool false)))])
 .ret)
 .skip))
 (.seq (.reg [ji 10 (.mv (.t 0)), ji 11 (.nilc (.t 10)), ji 12 (.fadr 1 (.t 11)), ji 13 (.ld false 1 (.t 12)), ji 14 (.mv (.t 1)), ji 15 (.len true (.t 14)), ji 16 (.bin .add (.t 13) (.t 15)), ji 17 (.nilc (.t 10)), ji 18 (.fadr 1 (.t 17)), jn (.st 1 (.t 18) (.t 16))])
 (.seq (.reg [ji 4 (.mv (.c (.bool true)))])
 .ret)))), [.tmp 4]⟩
theorem cF50 : cFn prog 50 = some F50 := by kernel_rfl
def F113 : FN := ⟨17, (.seq (.reg [ji 2 (.mv (.c (.bool false)))])
 (.seq (.reg [ji 3 (.mv (.t 0)), ji 4 (.bin .geq (.t 3) (.c (.int .u8 65))), ji 5 (.mv (.t 4)), jg 6 5 true (.mv (.t 0)), jg 7 5 true (.bin .leq (.t 6) (.c (.int .u8 90))), ji 8 (.pick (.t 5) (.t 7) (.c (.bool false))), ji 9 (.mv (.t 8)), jg 10 9 false (.mv (.t 0)), jg 11 9 false (.bin .geq (.t 10) (.c (.int .u8 97))), jg 12 9 false (.mv (.t 11)), jg 13 12 true (.mv (.t 0)), jg 14 12 true (.bin .leq (.t 13) (.c (.int .u8 122))), jg 15 9 false (.pick (.t 12) (.t 14) (.c (.bool false))), ji 16 (.pick (.t 9) (.c (.bool true)) (.t 15)), ji 2 (.mv (.t 16))])
 .ret)), [.tmp 2]⟩
theorem cF113 : cFn prog 113 = some F113 := by kernel_rfl
def F132 : FN := ⟨18, (.seq (.reg [ji 4 (.mv (.c (.bool false)))])
 (.seq (.reg [ji 5 (.mv (.t 0)), ji 6 (.len true (.t 5)), ji 7 (.mv (.t 1)), ji 8 (.len true (.t 7)), ji 9 (.bin .geq (.t 6) (.t 8)), ji 10 (.mv (.t 9)), jg 11 10 true (.mv (.t 0)), jg 12 10 true (.mv (.t 1)), jg 13 10 true (.len true (.t 12)), jg 14 10 true (.slcS (.t 11) none (some (.t 13))), jg 15 10 true (.mv (.t 1)), jg 16 10 true (.bin .eql (.t 14) (.t 15)), ji 17 (.pick (.t 10) (.t 16) (.c (.bool false))), ji 4 (.mv (.t 17))])
 .ret)), [.tmp 4]⟩
theorem cF132 : cFn prog 132 = some F132 := by kernel_rfl
def F73 : FN := ⟨8, (.seq (.reg [ji 4 (.mv (.c (.bool false)))])
 (.seq (.reg [ji 5 (.mv (.t 0)), ji 6 (.mv (.t 1)), ji 7 (.call 132 [(.t 5), (.t 6)]), ji 4 (.mv (.t 7))])
 .ret)), [.tmp 4]⟩
theorem cF73 : cFn prog 73 = some F73 := by kernel_rfl
def F171 : FN := ⟨9, (.seq (.reg [ji 2 (.mv (.c (.bool false)))])
 (.seq (.reg [ji 3 (.mv (.t 0)), ji 4 (.bin .geq (.t 3) (.c (.int .u8 48))), ji 5 (.mv (.t 4)), jg 6 5 true (.mv (.t 0)), jg 7 5 true (.bin .leq (.t 6) (.c (.int .u8 57))), ji 8 (.pick (.t 5) (.t 7) (.c (.bool false))), ji 2 (.mv (.t 8))])
 .ret)), [.tmp 2]⟩
theorem cF171 : cFn prog 171 = some F171 := by kernel_rfl
def F170 : FN := ⟨9, (.seq (.reg [ji 2 (.mv (.c (.bool false)))])
 (.seq (.reg [ji 3 (.mv (.t 0)), ji 4 (.call 113 [(.t 3)]), ji 5 (.mv (.t 4)), jg 6 5 false (.mv (.t 0)), jg 7 5 false (.call 171 [(.t 6)]), ji 8 (.pick (.t 5) (.c (.bool true)) (.t 7)), ji 2 (.mv (.t 8))])
 .ret)), [.tmp 2]⟩
theorem cF170 : cFn prog 170 = some F170 := by kernel_rfl
variable {G : Gl}
theorem need_t (at_ : Int) (e : Int) : PF prog G 54 [.bool true, .int .i64 at_, .int .i64 e] (.tup []) := by
 intro H
 refine CALL.of cF54 (Nat.le_of_ble_eq_true rfl) ?_
 refine AC.seq (AC.reg ?_)
 refine go ?_
 refine RG.nilS (AC.cond_f rfl ?_)
 exact AC.skip (fin rfl ⟨rfl, rfl⟩)
theorem need_f (at_ : Int) (e : Int) (H : Hp) : CALL prog G 54 [.bool false, .int .i64 at_, .int .i64 e] H (fun _ _ => False) (fun d H' => d = .iface 87 (.agg [.int .i64 at_, .int .i64 e]) ∧ H' = H) := by
 refine CALL.of cF54 (Nat.le_of_ble_eq_true rfl) ?_
 refine AC.seq (AC.reg ?_)
 refine go ?_
 refine RG.nilS (AC.cond_t rfl (AC.reg ?_))
 refine go ?_
 exact RG.st (ST.pan rfl ⟨H, SubH.refl H, rfl, rfl⟩)
theorem left_ok {b : Nat} {s : List UInt8} {i : Nat} {ty : TypeId} {H : Hp} (hb : H b = some (.cells [.str s, .int .i64 i] ty)) (hi : i ≤ s.length) :
  CALL prog G 55 [.ptr b 0] H (fun d H' => d = .str (s.drop i) ∧ H' = H) (fun _ _ => False) := by
 refine CALL.of cF55 (Nat.le_of_ble_eq_true rfl) ?_
 refine AC.seq (AC.reg ?_)
 refine go ?_
 refine RG.nilS (AC.seq (AC.drawV [] rfl ?_))
 first|refine VD.z0 0 ?_|refine VD.z1 0 ?_|refine VD.z2 0 ?_|refine VD.z3 0 ?_|refine VD.z4 0 ?_|refine VD.z5 0 ?_
 first|refine VD.z0 1 ?_|refine VD.z1 1 ?_|refine VD.z2 1 ?_|refine VD.z3 1 ?_|refine VD.z4 1 ?_|refine VD.z5 1 ?_
 first|refine VD.z0 2 ?_|refine VD.z1 2 ?_|refine VD.z2 2 ?_|refine VD.z3 2 ?_|refine VD.z4 2 ?_|refine VD.z5 2 ?_
 first|refine VD.z0 3 ?_|refine VD.z1 3 ?_|refine VD.z2 3 ?_|refine VD.z3 3 ?_|refine VD.z4 3 ?_|refine VD.z5 3 ?_
 first|refine VD.z0 4 ?_|refine VD.z1 4 ?_|refine VD.z2 4 ?_|refine VD.z3 4 ?_|refine VD.z4 4 ?_|refine VD.z5 4 ?_
 first|refine VD.z0 5 ?_|refine VD.z1 5 ?_|refine VD.z2 5 ?_|refine VD.z3 5 ?_|refine VD.z4 5 ?_|refine VD.z5 5 ?_
 first|refine VD.z0 6 ?_|refine VD.z1 6 ?_|refine VD.z2 6 ?_|refine VD.z3 6 ?_|refine VD.z4 6 ?_|refine VD.z5 6 ?_
 first|refine VD.z0 7 ?_|refine VD.z1 7 ?_|refine VD.z2 7 ?_|refine VD.z3 7 ?_|refine VD.z4 7 ?_|refine VD.z5 7 ?_
 first|refine VD.z0 8 ?_|refine VD.z1 8 ?_|refine VD.z2 8 ?_|refine VD.z3 8 ?_|refine VD.z4 8 ?_|refine VD.z5 8 ?_
 first|refine VD.z0 9 ?_|refine VD.z1 9 ?_|refine VD.z2 9 ?_|refine VD.z3 9 ?_|refine VD.z4 9 ?_|refine VD.z5 9 ?_
 refine VD.pd rfl ?_
 exact AC.ret (fin rfl ⟨rfl, rfl⟩)
def isLetter (c : UInt8) : Bool := (65 ≤ c && c ≤ 90) || (97 ≤ c && c ≤ 122)
def isDigit (c : UInt8) : Bool := 48 ≤ c && c ≤ 57
theorem letter_ok (c : UInt8) : PF prog G 113 [.int .u8 c.toNat] (.bool (isLetter c)) := PF.byteTest (n := 20) cF113 (by decide) rfl (by kernel_rfl) c
theorem digit_ok (c : UInt8) : PF prog G 171 [.int .u8 c.toNat] (.bool (isDigit c)) := PF.byteTest (n := 20) cF171 (by decide) rfl (by kernel_rfl) c
theorem nameC_ok (c : UInt8) : PF prog G 170 [.int .u8 c.toNat] (.bool (isLetter c || isDigit c)) := by
 intro H
 refine CALL.of cF170 (Nat.le_of_ble_eq_true rfl) ?_
 refine AC.seq (AC.reg ?_)
 refine go ?_
 refine RG.nilS (AC.seq (AC.reg ?_))
 refine go ?_
 refine RG.callP .d rfl (letter_ok c) ?_
 refine go ?_
 cases h : isLetter c
 · refine go ?_
   refine RG.callP .d rfl (digit_ok c) ?_
   refine go ?_
   exact RG.nilS (AC.ret (fin rfl ⟨rfl, rfl⟩))
 · refine go ?_
   exact RG.nilS (AC.ret (fin rfl ⟨rfl, rfl⟩))
theorem pre_eq (s t : List UInt8) : t.isPrefixOf s = (decide ((s.length : Int) ≥ t.length) && s.take t.length == t) := by
 rw [Bool.eq_iff_iff]
 simp only [List.isPrefixOf_iff_prefix, Bool.and_eq_true, decide_eq_true_eq, beq_iff_eq]
 constructor
 · intro h
   exact ⟨by have := h.length_le; omega, (List.prefix_iff_eq_take.1 h).symm⟩
 · intro ⟨_, h⟩
   exact List.prefix_iff_eq_take.2 h.symm
theorem hasPre0_ok (s t : List UInt8) : PF prog G 132 [.str s, .str t] (.bool (t.isPrefixOf s)) := by
 intro H
 refine CALL.of cF132 (Nat.le_of_ble_eq_true rfl) ?_
 refine AC.seq (AC.reg ?_)
 refine go ?_
 refine RG.nilS (AC.seq (AC.reg ?_))
 refine go ?_
 rw [pre_eq]
 cases h : decide ((s.length : Int) ≥ t.length)
 · refine go ?_
   exact RG.nilS (AC.ret (fin rfl ⟨rfl, rfl⟩))
 · have := of_decide_eq_true h
   refine go ?_
   exact RG.nilS (AC.ret (fin rfl ⟨rfl, rfl⟩))
theorem hasPre_ok (s t : List UInt8) : PF prog G 73 [.str s, .str t] (.bool (t.isPrefixOf s)) := by
 intro H
 refine CALL.of cF73 (Nat.le_of_ble_eq_true rfl) ?_
 refine AC.seq (AC.reg ?_)
 refine go ?_
 refine RG.nilS (AC.seq (AC.reg ?_))
 refine go ?_
 refine RG.callP .d rfl (hasPre0_ok s t) ?_
 refine go ?_
 exact RG.nilS (AC.ret (fin rfl ⟨rfl, rfl⟩))
def rd (s : List UInt8) (i : Nat) (ty : TypeId) : Option DO := some (.cells [.str s, .int .i64 i] ty)
theorem has_ok {b : Nat} {s t : List UInt8} {i : Nat} {ty : TypeId} {H : Hp} (hb : H b = rd s i ty) (hi : i ≤ s.length) (hs : s.length + t.length ≤ 9223372036854775807) :
  CALL prog G 50 [.ptr b 0, .str t] H (fun d H' => d = .bool (t.isPrefixOf (s.drop i)) ∧ H' = H.upd b (rd s (bif t.isPrefixOf (s.drop i) then i + t.length else i) ty)) (fun _ _ => False) := by
 refine CALL.of cF50 (Nat.le_of_ble_eq_true rfl) ?_
 refine AC.seq (AC.reg ?_)
 refine go ?_
 refine RG.nilS (AC.seq (AC.seq (AC.reg ?_)))
 refine go ?_
 refine RG.callR .d rfl (left_ok hb hi) ?_
 refine go ?_
 refine RG.callP .d rfl (hasPre_ok _ _) ?_
 refine go ?_
 have hp : t.isPrefixOf (s.drop i) = true → i + t.length ≤ s.length := fun h => by
  have := (List.isPrefixOf_iff_prefix.1 h).length_le
  simp at this; omega
 cases h : t.isPrefixOf (s.drop i)
 · refine RG.nilS (AC.cond_t rfl (AC.seq (AC.reg ?_)))
   refine go ?_
   exact RG.nilS (AC.ret (fin rfl ⟨rfl, (Hp.upd_id hb).symm⟩))
 · have := hp h
   refine RG.nilS (AC.cond_f rfl (AC.skip (AC.seq (AC.reg ?_))))
   refine go ?_
   refine RG.nilS (AC.seq (AC.reg ?_))
   refine go ?_
   exact RG.nilS (AC.ret (fin rfl ⟨rfl, rfl⟩))
def F169 : FN := ⟨40, (.seq (.reg [ji 6 (.mv (.c (.str [])))])
 (.seq (.reg [ji 9 (.mv (.t 0)), ji 10 (.call 55 [(.t 9)]), ji 7 (.mv (.t 10))])
 (.seq (.reg [ji 8 (.mv (ci 0))])
 (.seq (.block 0 (.loop (.seq (.seq (.reg [ji 11 (.mv (.t 8)), ji 12 (.mv (.t 7)), ji 13 (.len true (.t 12)), ji 14 (.bin .lss (.t 11) (.t 13)), ji 15 (.mv (.t 14)), jg 16 15 true (.mv (.t 8)), jg 17 15 true (.mv (.t 2)), jg 18 15 true (.bin .lss (.t 16) (.t 17)), ji 19 (.pick (.t 15) (.t 18) (.c (.bool false))), ji 20 (.mv (.t 19)), jg 21 20 true (.mv (.t 1)), jg 22 20 true (.mv (.t 7)), jg 23 20 true (.mv (.t 8)), jg 24 20 true (.idx (.t 22) (.t 23)), jg 25 20 true (.calv (.t 21) [(.t 24)]), ji 26 (.pick (.t 20) (.t 25) (.c (.bool false)))])
 (.cond (.t 26) .skip
 (.exit 0)))
 (.block 1 (.reg [ji 27 (.mv (.t 8)), ji 28 (.bin .add (.t 27) (ci 1)), ji 8 (.mv (.t 28))])))))
 (.seq (.reg [ji 29 (.mv (.t 0)), ji 30 (.nilc (.t 29)), ji 31 (.fadr 1 (.t 30)), ji 32 (.ld false 1 (.t 31)), ji 33 (.mv (.t 8)), ji 34 (.bin .add (.t 32) (.t 33)), ji 35 (.nilc (.t 29)), ji 36 (.fadr 1 (.t 35)), jn (.st 1 (.t 36) (.t 34))])
 (.seq (.reg [ji 37 (.mv (.t 7)), ji 38 (.mv (.t 8)), ji 39 (.slcS (.t 37) none (some (.t 38))), ji 6 (.mv (.t 39))])
 .ret)))))), [.tmp 6]⟩
theorem cF169 : cFn prog 169 = some F169 := by kernel_rfl
def F112 : FN := ⟨10, (.seq (.reg [ji 2 (.mv (.c (.str [])))])
 (.seq (.reg [ji 3 (.mv (.t 0)), ji 4 (.mv (.t 0)), ji 5 (.nilc (.t 4)), ji 6 (.fadr 0 (.t 5)), ji 7 (.ld false 1 (.t 6)), ji 8 (.len true (.t 7)), ji 9 (.call 169 [(.t 3), (.c (.func (.func 170) [] [])), (.t 8)]), ji 2 (.mv (.t 9))])
 .ret)), [.tmp 2]⟩
theorem cF112 : cFn prog 112 = some F112 := by kernel_rfl
def span (p : UInt8 → Bool) : Nat → List UInt8 → Nat
 | m + 1, c :: l => bif p c then span p m l + 1 else 0
 | _, _ => 0
theorem span_le (p : UInt8 → Bool) : ∀ (m : Nat) (l : List UInt8), span p m l ≤ l.length
 | 0, l => by simp [span]
 | m + 1, [] => by simp [span]
 | m + 1, c :: l => by
   have := span_le p m l
   simp only [span]
   cases p c <;> simp <;> omega
theorem while_ok {b f m : Nat} {s : List UInt8} {p : UInt8 → Bool} {i : Nat} {ty : TypeId} {H : Hp} (hp : ∀ c : UInt8, PF prog G f [.int .u8 c.toNat] (.bool (p c))) (hb : H b = rd s i ty) (hi : i ≤ s.length) (hs : s.length ≤ 4611686018427387904) :
  CALL prog G 169 [.ptr b 0, .func (.func f) [] [], .int .i64 m] H
   (fun d H' => d = .str ((s.drop i).take (span p m (s.drop i))) ∧ H' = H.upd b (rd s (i + span p m (s.drop i)) ty)) (fun _ _ => False) := by
 refine CALL.of cF169 (Nat.le_of_ble_eq_true rfl) ?_
 refine AC.seq (AC.reg ?_)
 refine go ?_
 refine RG.nilS (AC.seq (AC.reg ?_))
 refine go ?_
 refine RG.callR .d rfl (left_ok hb hi) ?_
 refine go ?_
 refine RG.nilS (AC.seq (AC.reg ?_))
 refine go ?_
 have hlen : (s.drop i).length ≤ 4611686018427387904 := by simp; omega
 have hli : i + (s.drop i).length = s.length := by simp; omega
 generalize hl : s.drop i = l at hlen hli ⊢
 refine RG.nilS (AC.seq ?_)
 refine AC.bloop (α := Nat) (fun n => l.length - n) (fun n => [(0, .ptr b 0), (1, .func (.func f) [] []), (2, .int .i64 m), (7, .str l), (8, .int .i64 n)]) (fun _ => H)
  (fun n => n ≤ l.length ∧ n ≤ m ∧ n + span p (m - n) (l.drop n) = span p m l) [(0, .ptr b 0), (7, .str l), (8, .int .i64 (span p m l : Nat))] H ?_ ?_ 0 ⟨by omega, by omega, by simp⟩ ⟨rfl, rfl, rfl, rfl, rfl, trivial⟩
 · intro fr hfr
   have hle := span_le p m l
   refine AC.to _ hfr (AC.seq (AC.reg ?_))
   refine go ?_
   refine RG.nilS (AC.seq (AC.reg ?_))
   refine go ?_
   exact RG.nilS (AC.ret (fin rfl ⟨rfl, rfl⟩))
 · intro n ⟨h1, h2, h3⟩ ih ex
   refine AC.seq (AC.seq (AC.reg ?_))
   refine go ?_
   cases e1 : decide ((n : Int) < l.length)
   · refine go ?_
     have e := of_decide_eq_false e1
     have : n = span p m l := by
      have : l.drop n = [] := List.drop_eq_nil_of_le (by omega)
      rw [this] at h3
      cases hm : m - n <;> rw [hm] at h3 <;> simpa [span] using h3
     exact RG.nilS (AC.cond_f rfl (AC.exit (ex _ ⟨rfl, rfl, this ▸ rfl, trivial⟩)))
   · have e := of_decide_eq_true e1
     refine go ?_
     cases e2 : decide ((n : Int) < m)
     · refine go ?_
       have e := of_decide_eq_false e2
       have : n = span p m l := by
        have : m - n = 0 := by omega
        rw [this] at h3
        simpa [span] using h3
       exact RG.nilS (AC.cond_f rfl (AC.exit (ex _ ⟨rfl, rfl, this ▸ rfl, trivial⟩)))
     · have e' := of_decide_eq_true e2
       refine go ?_
       have hn : n < l.length := by omega
       refine RG.at .d wh wh (by omega) (List.getElem?_eq_getElem (by simpa using hn)) ?_
       refine go ?_
       refine RG.calvP .d rfl rfl (hp _) ?_
       refine go ?_
       obtain ⟨q, hq⟩ : ∃ q, m - n = q + 1 := ⟨m - n - 1, by omega⟩
       have hd : l.drop n = l[n] :: l.drop (n + 1) := List.drop_eq_getElem_cons hn
       rw [hq, hd] at h3
       simp only [span] at h3
       have hx : l[(n : Int).toNat]'(by simpa using hn) = l[n] := rfl
       cases e3 : p (l[(n : Int).toNat]'(by simpa using hn))
       · rw [hx] at e3
         rw [e3] at h3
         exact RG.nilS (AC.cond_f rfl (AC.exit (ex _ ⟨rfl, rfl, (by simpa using h3 : n = span p m l) ▸ rfl, trivial⟩)))
       · rw [hx] at e3
         rw [e3] at h3
         refine RG.nilS (AC.cond_t rfl (AC.skip (AC.block (AC.reg ?_))))
         refine go ?_
         have hq' : m - (n + 1) = q := by omega
         exact RG.nil (ih (n + 1) ⟨by omega, by omega, by rw [hq']; simp at h3; omega⟩ (by omega) _ ⟨rfl, rfl, rfl, rfl, rfl, trivial⟩)
def isNameC (c : UInt8) : Bool := isLetter c || isDigit c
theorem name_ok {b : Nat} {s : List UInt8} {i : Nat} {ty : TypeId} {H : Hp} (hb : H b = rd s i ty) (hi : i ≤ s.length) (hs : s.length ≤ 4611686018427387904) :
  CALL prog G 112 [.ptr b 0] H
   (fun d H' => d = .str ((s.drop i).take (span isNameC s.length (s.drop i))) ∧ H' = H.upd b (rd s (i + span isNameC s.length (s.drop i)) ty)) (fun _ _ => False) := by
 refine CALL.of cF112 (Nat.le_of_ble_eq_true rfl) ?_
 refine AC.seq (AC.reg ?_)
 refine go ?_
 refine RG.nilS (AC.seq (AC.reg ?_))
 refine go ?_
 refine RG.callR .d rfl (while_ok (p := isNameC) nameC_ok hb hi hs) ?_
 refine go ?_
 exact RG.nilS (AC.ret (fin rfl ⟨rfl, rfl⟩))
open Go Go.Run Go.RowKit
def F51 : FN := ⟨36, (.seq (.reg [ji 4 (.mv (.c (.str [])))])
 (.seq (.reg [ji 9 (.mv (.t 0)), ji 10 (.call 55 [(.t 9)]), ji 11 (.mv (.t 1)), ji 12 (.call 110 [(.t 10), (.t 11)]), ji 8 (.mv (.t 12)), ji 13 (.ext (.t 8) 0), ji 14 (.ext (.t 8) 1), ji 15 (.ext (.t 8) 2), ji 5 (.mv (.t 13)), ji 6 (.mv (.t 14)), ji 7 (.mv (.t 15))])
 (.seq (.reg [ji 16 (.mv (.t 7)), ji 17 (.mv (.t 0)), ji 18 (.nilc (.t 17)), ji 19 (.fadr 0 (.t 18)), ji 20 (.ld false 1 (.t 19)), ji 21 (.len true (.t 20)), ji 22 (.call 54 [(.t 16), (.t 21), (ci 1)])])
 (.seq (.reg [ji 23 (.mv (.t 0)), ji 24 (.nilc (.t 23)), ji 25 (.fadr 1 (.t 24)), ji 26 (.ld false 1 (.t 25)), ji 27 (.mv (.t 5)), ji 28 (.len true (.t 27)), ji 29 (.mv (.t 1)), ji 30 (.len true (.t 29)), ji 31 (.bin .add (.t 28) (.t 30)), ji 32 (.bin .add (.t 26) (.t 31)), ji 33 (.nilc (.t 23)), ji 34 (.fadr 1 (.t 33)), jn (.st 1 (.t 34) (.t 32))])
 (.seq (.reg [ji 35 (.mv (.t 5)), ji 4 (.mv (.t 35))])
 .ret))))), [.tmp 4]⟩
theorem cF51 : cFn prog 51 = some F51 := by kernel_rfl
theorem cut_ok (hG : ∃ m, G 2 = some [.int .i64 m]) (s t : List UInt8) (hs : s.length < 4294967281) :
  PF prog G 110 [.str s, .str t] (.tup [.str (Lib.cut s t).1, .str (Lib.cut s t).2.1, .bool (Lib.cut s t).2.2]) := by
 obtain ⟨m, hm⟩ := hG
 refine PF.ofBelow Go.Proofs.Tryz.func110 (by rfl) (by rfl) fun w H Z vs hr hsz hv => ?_
 obtain ⟨v, v2, rfl, h1, h2⟩ := args2 hsz hv
 obtain ⟨x, rfl, hx⟩ := h1.str_inv
 obtain ⟨y, rfl, hy⟩ := h2.str_inv
 obtain ⟨c, hc, hc'⟩ := glob1 hr hm
 rw [hc'.int_inv] at hc
 have hlen : x.size < 4294967281 := by rw [Lib.size_eq, hx]; exact hs
 refine (Go.Proofs.Tryz.strings_Cut x y m w hlen hc).mono fun e w' ⟨he, n, hw⟩ => ⟨_, he, ?_, hw ▸ below_drewN w n⟩
 rw [hx, hy]
 refine tup_any rfl fun j v d e1 e2 w H Z => ?_
 match j, e1, e2 with
 | 0, e1, e2 => cases e1; cases e2; exact .str _ _ (by simp)
 | 1, e1, e2 => cases e1; cases e2; exact .str _ _ (by simp)
 | 2, e1, e2 => cases e1; cases e2; exact .bool _
 | j + 3, e1, e2 => cases e2
def fault (at_ e : Int) : DV := .iface 87 (.agg [.int .i64 at_, .int .i64 e])
def cutO (t : List UInt8) : List UInt8 → Option (List UInt8 × List UInt8)
 | [] => bif t.isPrefixOf [] then some ([], []) else none
 | c :: l => bif t.isPrefixOf (c :: l) then some ([], (c :: l).drop t.length) else (cutO t l).map fun p => (c :: p.1, p.2)
theorem cutO_spec (t : List UInt8) : ∀ (l a b : List UInt8), cutO t l = some (a, b) → l = a ++ t ++ b
 | [], a, b, h => by
   simp only [cutO] at h
   cases hp : t.isPrefixOf [] with
   | false => rw [hp] at h; cases h
   | true =>
     rw [hp] at h; cases h
     have : t = [] := by cases t with
      | nil => rfl
      | cons x t => cases hp
     subst this; rfl
 | c :: l, a, b, h => by
   simp only [cutO] at h
   cases hp : t.isPrefixOf (c :: l) with
   | true =>
     rw [hp] at h
     simp only [cond_true, Option.some.injEq, Prod.mk.injEq] at h
     obtain ⟨rfl, rfl⟩ := h
     have := List.prefix_iff_eq_append.1 (List.isPrefixOf_iff_prefix.1 hp)
     simpa using this.symm
   | false =>
     rw [hp] at h
     simp only [cond_false, Option.map_eq_some_iff] at h
     obtain ⟨p, h1, h2⟩ := h
     cases h2
     have := cutO_spec t l p.1 p.2 h1
     rw [this]; rfl
theorem cut_cutO (t : List UInt8) : ∀ (l : List UInt8), Lib.cut l t = match cutO t l with | some (a, b) => (a, b, true) | none => (l, [], false)
 | [] => by
   simp only [cutO, Lib.cut, Lib.index]
   cases t with
   | nil => rfl
   | cons x t => rfl
 | c :: l => by
   have ih := cut_cutO t l
   simp only [Lib.cut] at ih ⊢
   have hge := Lib.index_ge l t
   cases hp : t.isPrefixOf (c :: l) with
   | true =>
     have e : Lib.index (c :: l) t = 0 := by simp only [Lib.index, hp, if_true]
     rw [e]
     simp only [cutO, hp, cond_true]
     simp
   | false =>
     have e : Lib.index (c :: l) t = if Lib.index l t == -1 then -1 else Lib.index l t + 1 := by simp only [Lib.index, hp, Bool.false_eq_true, if_false]
     rw [e]
     simp only [cutO, hp, cond_false]
     by_cases h1 : Lib.index l t = -1
     · rw [h1] at ih ⊢
       simp only [show ((-1 : Int) == -1) = true from rfl, if_true]
       have h2 : ¬ (0 : Int) ≤ -1 := by omega
       rw [if_neg h2] at ih ⊢
       cases ho : cutO t l with
       | none => rfl
       | some p => rw [ho] at ih; simp at ih
     · have h2 : (Lib.index l t == -1) = false := by simpa using h1
       rw [h2]
       simp only [Bool.false_eq_true, if_false]
       have h3 : (0 : Int) ≤ Lib.index l t := by omega
       rw [if_pos h3] at ih
       rw [if_pos (by omega)]
       cases ho : cutO t l with
       | none => rw [ho] at ih; simp at ih
       | some p =>
         rw [ho] at ih
         simp only [Prod.mk.injEq, and_true] at ih
         obtain ⟨i1, i2⟩ := ih
         have hn : (Lib.index l t + 1).toNat = (Lib.index l t).toNat + 1 := by omega
         simp only [Option.map_some, hn, Prod.mk.injEq, and_true]
         refine ⟨by rw [List.take_succ_cons, i1], ?_⟩
         rw [← i2, show (Lib.index l t).toNat + 1 + t.length = ((Lib.index l t).toNat + t.length) + 1 by omega, List.drop_succ_cons]
theorem upto_ok (hG : ∃ m, G 2 = some [.int .i64 m]) {b : Nat} {s t : List UInt8} {i : Nat} {ty : TypeId} {H : Hp} (hb : H b = rd s i ty) (hi : i ≤ s.length) (hs : s.length + t.length < 4294967281) :
  CALL prog G 51 [.ptr b 0, .str t] H
   (fun d H' => ∃ x y, cutO t (s.drop i) = some (x, y) ∧ d = .str x ∧ H' = H.upd b (rd s (i + (x.length + t.length)) ty))
   (fun d H' => cutO t (s.drop i) = none ∧ d = fault s.length 1 ∧ H' = H) := by
 refine CALL.of cF51 (Nat.le_of_ble_eq_true rfl) ?_
 refine AC.seq (AC.reg ?_)
 refine go ?_
 refine RG.nilS (AC.seq (AC.reg ?_))
 refine go ?_
 refine RG.callR .d rfl (left_ok hb hi) ?_
 refine go ?_
 refine RG.callP .d rfl (cut_ok hG _ _ (by simp; omega)) ?_
 refine go ?_
 have hdl : (s.drop i).length = s.length - i := by simp
 cases ho : cutO t (s.drop i) with
 | none =>
   rw [show Lib.cut (s.drop i) t = (s.drop i, [], false) by rw [cut_cutO, ho]]
   refine RG.nilS (AC.seq (AC.reg ?_))
   refine go ?_
   refine RG.call .d rfl (need_f _ _ H) (fun _ _ h => h.elim) fun d H' ⟨e1, e2⟩ => ?_
   exact ⟨H', SubH.refl _, rfl, e1, e2⟩
 | some p =>
   obtain ⟨x, y⟩ := p
   rw [show Lib.cut (s.drop i) t = (x, y, true) by rw [cut_cutO, ho]]
   dsimp only
   have hl := congrArg List.length (cutO_spec t _ x y ho)
   simp only [List.length_append] at hl
   refine RG.nilS (AC.seq (AC.reg ?_))
   refine go ?_
   refine RG.callP .d rfl (need_t _ _) ?_
   refine go ?_
   refine RG.nilS (AC.seq (AC.reg ?_))
   refine go ?_
   refine RG.nilS (AC.seq (AC.reg ?_))
   refine go ?_
   exact RG.nilS (AC.ret (fin rfl ⟨x, y, rfl, rfl, rfl⟩))
def F206 : FN := ⟨10, (.seq (.reg [ji 4 (.mv (.c (.bool false)))])
 (.seq (.reg [ji 5 (.mv (.t 0)), ji 6 (.mv (.t 1)), ji 7 (.nilc (.t 5)), ji 8 (.iadrA 256 1 (.t 7) (.t 6)), ji 9 (.ld false 1 (.t 8)), ji 4 (.mv (.t 9))])
 .ret)), [.tmp 4]⟩
theorem cF206 : cFn prog 206 = some F206 := by kernel_rfl
def F167 : FN := ⟨16, (.seq (.reg [ji 4 (.mv (.c (.str [])))])
 (.seq (.block 0 (.loop (.seq (.seq (.reg [ji 5 (.mv (.t 0)), ji 6 (.len true (.t 5)), ji 7 (.bin .gtr (.t 6) (ci 0))])
 (.cond (.t 7) .skip
 (.exit 0)))
 (.block 1 (.seq (.seq (.reg [ji 8 (.mv (.t 1)), ji 9 (.mv (.t 0)), ji 10 (.idx (.t 9) (ci 0)), ji 11 (.call 206 [(.t 8), (.t 10)]), ji 12 (.un .not (.t 11))])
 (.cond (.t 12) (.exit 0)
 .skip))
 (.reg [ji 13 (.mv (.t 0)), ji 14 (.slcS (.t 13) (some (ci 1)) none), ji 0 (.mv (.t 14))]))))))
 (.seq (.reg [ji 15 (.mv (.t 0)), ji 4 (.mv (.t 15))])
 .ret))), [.tmp 4]⟩
theorem cF167 : cFn prog 167 = some F167 := by kernel_rfl
def F166 : FN := ⟨21, (.seq (.reg [ji 2 (.alloc [(.bool false), (.bool false), (.bool false), (.bool false), (.bool false), (.bool false), (.bool false), (.bool false), (.bool false), (.bool false), (.bool false), (.bool false), (.bool false), (.bool false), (.bool false), (.bool false), (.bool false), (.bool false), (.bool false), (.bool false), (.bool false), (.bool false), (.bool false), (.bool false), (.bool false), (.bool false), (.bool false), (.bool false), (.bool false), (.bool false), (.bool false), (.bool false), (.bool false), (.bool false), (.bool false), (.bool false), (.bool false), (.bool false), (.bool false), (.bool false), (.bool false), (.bool false), (.bool false), (.bool false), (.bool false), (.bool false), (.bool false), (.bool false), (.bool false), (.bool false), (.bool false), (.bool false), (.bool false), (.bool false), (.bool false), (.bool false), (.bool false), (.bool false), (.bool false), (.bool false), (.bool false), (.bool false), (.bool false), (.bool false), (.bool false), (.bool false), (.bool false), (.bool false), (.bool false), (.bool false), (.bool false), (.bool false), (.bool false), (.bool false), (.bool false), (.bool false), (.bool false), (.bool false), (.bool false), (.bool false), (.bool false), (.bool false), (.bool false), (.bool false), (.bool false), (.bool false), (.bool false), (.bool false), (.bool false), (.bool false), (.bool false), (.bool false), (.bool false), (.bool false), (.bool false), (.bool false), (.bool false), (.bool false), (.bool false), (.bool false), (.bool false), (.bool false), (.bool false), (.bool false), (.bool false), (.bool false), (.bool false), (.bool false), (.bool false), (.bool false), (.bool false), (.bool false), (.bool false), (.bool false), (.bool false), (.bool false), (.bool false), (.bool false), (.bool false), (.bool false), (.bool false), (.bool false), (.bool false), (.bool false), (.bool false), (.bool false), (.bool false), (.bool false), (.bool false), (.bool false), (.bool false), (.bool false), (.bool false), (.bool false), (.bool false), (.bool false), (.bool false), (.bool false), (.bool false), (.bool false), (.bool false), (.bool false), (.bool false), (.bool false), (.bool false), (.bool false), (.bool false), (.bool false), (.bool false), (.bool false), (.bool false), (.bool false), (.bool false), (.bool false), (.bool false), (.bool false), (.bool false), (.bool false), (.bool false), (.bool false), (.bool false), (.bool false), (.bool false), (.bool false), (.bool false), (.bool false), (.bool false), (.bool false), (.bool false), (.bool false), (.bool false), (.bool false), (.bool false), (.bool false), (.bool false), (.bool false), (.bool false), (.bool false), (.bool false), (.bool false), (.bool false), (.bool false), (.bool false), (.bool false), (.bool false), (.bool false), (.bool false), (.bool false), (.bool false), (.bool false), (.bool false), (.bool false), (.bool false), (.bool false), (.bool false), (.bool false), (.bool false), (.bool false), (.bool false), (.bool false), (.bool false), (.bool false), (.bool false), (.bool false), (.bool false), (.bool false), (.bool false), (.bool false), (.bool false), (.bool false), (.bool false), (.bool false), (.bool false), (.bool false), (.bool false), (.bool false), (.bool false), (.bool false), (.bool false), (.bool false), (.bool false), (.bool false), (.bool false), (.bool false), (.bool false), (.bool false), (.bool false), (.bool false), (.bool false), (.bool false), (.bool false), (.bool false), (.bool false), (.bool false), (.bool false), (.bool false), (.bool false), (.bool false), (.bool false), (.bool false), (.bool false), (.bool false), (.bool false), (.bool false), (.bool false), (.bool false), (.bool false), (.bool false), (.bool false), (.bool false), (.bool false), (.bool false), (.bool false), (.bool false), (.bool false), (.bool false)] 186), ji 3 (.mv (.c (.bool false)))])
 (.seq (.seq (.reg [ji 4 (.mv (ci 0))])
 (.block 0 (.loop (.seq (.seq (.reg [ji 6 (.mv (.t 4)), ji 7 (.mv (.t 0)), ji 8 (.len true (.t 7)), ji 9 (.bin .lss (.t 6) (.t 8))])
 (.cond (.t 9) .skip
 (.exit 0)))
 (.seq (.block 1 (.seq (.reg [ji 12 (.mv (.t 0)), ji 13 (.mv (.t 4)), ji 14 (.idx (.t 12) (.t 13)), ji 5 (.mv (.t 14))])
 (.seq (.seq (.reg [ji 15 (.mv (.t 5)), ji 16 (.bin .geq (.t 15) (.c (.int .u8 128)))])
 (.cond (.t 16) (.seq (.reg [ji 17 (.ld true 256 (.t 2)), jn (.st 256 (.t 2) (.t 17)), ji 3 (.mv (.c (.bool false)))])
 .ret)
 .skip))
 (.reg [ji 18 (.mv (.t 5)), ji 19 (.iadrA 256 1 (.t 2) (.t 18)), jn (.st 1 (.t 19) (.c (.bool true)))]))))
 (.reg [ji 10 (.mv (.t 4)), ji 11 (.bin .add (.t 10) (ci 1)), ji 4 (.mv (.t 11))]))))))
 (.seq (.reg [ji 20 (.ld true 256 (.t 2)), jn (.st 256 (.t 2) (.t 20)), ji 3 (.mv (.c (.bool true)))])
 .ret))), [.cell 2 true 256, .tmp 3]⟩
theorem cF166 : cFn prog 166 = some F166 := by kernel_rfl
def F111 : FN := ⟨37, (.seq (.reg [ji 4 (.mv (.c (.str [])))])
 (.seq (.seq (.reg [ji 7 (.mv (.t 0)), ji 8 (.bin .eql (.t 7) (.c (.str []))), ji 9 (.mv (.t 8)), jg 10 9 false (.mv (.t 1)), jg 11 9 false (.bin .eql (.t 10) (.c (.str []))), ji 12 (.pick (.t 9) (.c (.bool true)) (.t 11))])
 (.cond (.t 12) (.seq (.reg [ji 13 (.mv (.t 0)), ji 4 (.mv (.t 13))])
 .ret)
 .skip))
 (.seq (.seq (.reg [ji 14 (.mv (.t 1)), ji 15 (.len true (.t 14)), ji 16 (.bin .eql (.t 15) (ci 1)), ji 17 (.mv (.t 16)), jg 18 17 true (.mv (.t 1)), jg 19 17 true (.idx (.t 18) (ci 0)), jg 20 17 true (.bin .lss (.t 19) (.c (.int .u8 128))), ji 21 (.pick (.t 17) (.t 20) (.c (.bool false)))])
 (.cond (.t 21) (.seq (.reg [ji 22 (.mv (.t 0)), ji 23 (.mv (.t 1)), ji 24 (.idx (.t 23) (ci 0)), ji 25 (.call 165 [(.t 22), (.t 24)]), ji 4 (.mv (.t 25))])
 .ret)
 .skip))
 (.seq (.seq (.reg [ji 27 (.mv (.t 1)), ji 28 (.call 166 [(.t 27)]), ji 26 (.mv (.t 28)), ji 29 (.ext (.t 26) 0), ji 30 (.ext (.t 26) 1), ji 5 (.alloc [(.bool false), (.bool false), (.bool false), (.bool false), (.bool false), (.bool false), (.bool false), (.bool false), (.bool false), (.bool false), (.bool false), (.bool false), (.bool false), (.bool false), (.bool false), (.bool false), (.bool false), (.bool false), (.bool false), (.bool false), (.bool false), (.bool false), (.bool false), (.bool false), (.bool false), (.bool false), (.bool false), (.bool false), (.bool false), (.bool false), (.bool false), (.bool false), (.bool false), (.bool false), (.bool false), (.bool false), (.bool false), (.bool false), (.bool false), (.bool false), (.bool false), (.bool false), (.bool false), (.bool false), (.bool false), (.bool false), (.bool false), (.bool false), (.bool false), (.bool false), (.bool false), (.bool false), (.bool false), (.bool false), (.bool false), (.bool false), (.bool false), (.bool false), (.bool false), (.bool false), (.bool false), (.bool false), (.bool false), (.bool false), (.bool false), (.bool false), (.bool false), (.bool false), (.bool false), (.bool false), (.bool false), (.bool false), (.bool false), (.bool false), (.bool false), (.bool false), (.bool false), (.bool false), (.bool false), (.bool false), (.bool false), (.bool false), (.bool false), (.bool false), (.bool false), (.bool false), (.bool false), (.bool false), (.bool false), (.bool false), (.bool false), (.bool false), (.bool false), (.bool false), (.bool false), (.bool false), (.bool false), (.bool false), (.bool false), (.bool false), (.bool false), (.bool false), (.bool false), (.bool false), (.bool false), (.bool false), (.bool false), (.bool false), (.bool false), (.bool false), (.bool false), (.bool false), (.bool false), (.bool false), (.bool false), (.bool false), (.bool false), (.bool false), (.bool false), (.bool false), (.bool false), (.bool false), (.bool false), (.bool false), (.bool false), (.bool false), (.bool false), (.bool false), (.bool false), (.bool false), (.bool false), (.bool false), (.bool false), (.bool false), (.bool false), (.bool false), (.bool false), (.bool false), (.bool false), (.bool false), (.bool false), (.bool false), (.bool false), (.bool false), (.bool false), (.bool false), (.bool false), (.bool false), (.bool false), (.bool false), (.bool false), (.bool false), (.bool false), (.bool false), (.bool false), (.bool false), (.bool false), (.bool false), (.bool false), (.bool false), (.bool false), (.bool false), (.bool false), (.bool false), (.bool false), (.bool false), (.bool false), (.bool false), (.bool false), (.bool false), (.bool false), (.bool false), (.bool false), (.bool false), (.bool false), (.bool false), (.bool false), (.bool false), (.bool false), (.bool false), (.bool false), (.bool false), (.bool false), (.bool false), (.bool false), (.bool false), (.bool false), (.bool false), (.bool false), (.bool false), (.bool false), (.bool false), (.bool false), (.bool false), (.bool false), (.bool false), (.bool false), (.bool false), (.bool false), (.bool false), (.bool false), (.bool false), (.bool false), (.bool false), (.bool false), (.bool false), (.bool false), (.bool false), (.bool false), (.bool false), (.bool false), (.bool false), (.bool false), (.bool false), (.bool false), (.bool false), (.bool false), (.bool false), (.bool false), (.bool false), (.bool false), (.bool false), (.bool false), (.bool false), (.bool false), (.bool false), (.bool false), (.bool false), (.bool false), (.bool false), (.bool false), (.bool false), (.bool false), (.bool false), (.bool false), (.bool false), (.bool false), (.bool false), (.bool false), (.bool false), (.bool false), (.bool false), (.bool false), (.bool false), (.bool false), (.bool false), (.bool false), (.bool false), (.bool false), (.bool false), (.bool false), (.bool false), (.bool false), (.bool false), (.bool false), (.bool false)] 186), jn (.st 256 (.t 5) (.t 29)), ji 6 (.mv (.t 30))])
 (.seq (.reg [ji 31 (.mv (.t 6))])
 (.cond (.t 31) (.seq (.reg [ji 32 (.mv (.t 0)), ji 33 (.call 167 [(.t 32), (.t 5)]), ji 4 (.mv (.t 33))])
 .ret)
 .skip)))
 (.seq (.reg [ji 34 (.mv (.t 0)), ji 35 (.mv (.t 1)), ji 36 (.call 168 [(.t 34), (.t 35)]), ji 4 (.mv (.t 36))])
 .ret))))), [.tmp 4]⟩
theorem cF111 : cFn prog 111 = some F111 := by kernel_rfl
def F52 : FN := ⟨22, (.seq (.reg [ji 2 (.mv (.c (.bool false)))])
 (.seq (.reg [ji 4 (.mv (.t 0)), ji 5 (.call 55 [(.t 4)]), ji 6 (.len true (.t 5)), ji 7 (.mv (.t 0)), ji 8 (.call 55 [(.t 7)]), ji 9 (.call 111 [(.t 8), (.c (.str [32, 9, 10, 13]))]), ji 10 (.len true (.t 9)), ji 11 (.bin .sub (.t 6) (.t 10)), ji 3 (.mv (.t 11))])
 (.seq (.reg [ji 12 (.mv (.t 0)), ji 13 (.nilc (.t 12)), ji 14 (.fadr 1 (.t 13)), ji 15 (.ld false 1 (.t 14)), ji 16 (.mv (.t 3)), ji 17 (.bin .add (.t 15) (.t 16)), ji 18 (.nilc (.t 12)), ji 19 (.fadr 1 (.t 18)), jn (.st 1 (.t 19) (.t 17))])
 (.seq (.reg [ji 20 (.mv (.t 3)), ji 21 (.bin .gtr (.t 20) (ci 0)), ji 2 (.mv (.t 21))])
 .ret)))), [.tmp 2]⟩
theorem cF52 : cFn prog 52 = some F52 := by kernel_rfl
def setOf (p : UInt8 → Bool) : List DV := (List.range 256).map fun k => .bool (p (UInt8.ofNat k))
theorem setOf_get (p : UInt8 → Bool) (c : UInt8) : (setOf p)[c.toNat]? = some (.bool (p c)) := by
 have h : c.toNat < 256 := c.toNat_lt
 simp [setOf, h]
theorem setOf_length (p : UInt8 → Bool) : (setOf p).length = 256 := by simp [setOf]
theorem contains_ok {b : Nat} {p : UInt8 → Bool} {c : UInt8} {ty : TypeId} {H : Hp} (hb : H b = some (.cells (setOf p) ty)) :
  CALL prog G 206 [.ptr b 0, .int .u8 c.toNat] H (fun d H' => d = .bool (p c) ∧ H' = H) (fun _ _ => False) := by
 have hc : c.toNat < 256 := c.toNat_lt
 refine CALL.of cF206 (Nat.le_of_ble_eq_true rfl) ?_
 refine AC.seq (AC.reg ?_)
 refine go ?_
 refine RG.nilS (AC.seq (AC.reg ?_))
 refine go1 ?_
 refine go1 ?_
 refine go1 ?_
 refine RG.p .d (evP_iadrA wh wh (by omega)) ?_
 refine RG.ld .d wh hb (d := .bool (p c)) (by
  show (setOf p)[0 + ((c.toNat : Nat) : Int).toNat * 1]? = _
  rw [Nat.zero_add, Nat.mul_one]; exact setOf_get p c) ?_
 refine go ?_
 exact RG.nilS (AC.ret (fin rfl ⟨rfl, rfl⟩))
theorem trimLeftASCII_ok {b : Nat} {p : UInt8 → Bool} {ty : TypeId} {H : Hp} (hb : H b = some (.cells (setOf p) ty)) (s : List UInt8) :
  CALL prog G 167 [.str s, .ptr b 0] H (fun d H' => d = .str (s.dropWhile p) ∧ H' = H) (fun _ _ => False) := by
 refine CALL.of cF167 (Nat.le_of_ble_eq_true rfl) ?_
 refine AC.seq (AC.reg ?_)
 refine go ?_
 refine RG.nilS (AC.seq ?_)
 refine AC.bloop (α := List UInt8) (fun l => l.length) (fun l => [(0, .str l), (1, .ptr b 0)]) (fun _ => H) (fun l => l.dropWhile p = s.dropWhile p) [(0, .str (s.dropWhile p))] H ?_ ?_ s rfl ⟨rfl, rfl, trivial⟩
 · intro fr hfr
   refine AC.to _ hfr (AC.seq (AC.reg ?_))
   refine go ?_
   exact RG.nilS (AC.ret (fin rfl ⟨rfl, rfl⟩))
 · intro l hl ih ex
   refine AC.seq (AC.seq (AC.reg ?_))
   refine go ?_
   cases l with
   | nil => exact RG.nilS (AC.cond_f rfl (AC.exit (ex _ ⟨congrArg DV.str hl, trivial⟩)))
   | cons c l =>
     have h0 : decide (((c :: l).length : Int) > 0) = true := by simp
     refine RG.nilS (AC.cond_t (by show DV.bool _ = _; rw [h0]) (AC.skip (AC.block (AC.seq (AC.seq (AC.reg ?_))))))
     refine go1 ?_
     refine go1 ?_
     refine RG.at .d wh wh (by omega) (b := c) rfl ?_
     refine RG.callR .d rfl (contains_ok hb) ?_
     refine go ?_
     cases hp : p c
     · refine RG.nilS (AC.cond_t rfl (AC.exit ?_))
       have : (c :: l) = s.dropWhile p := by rw [← hl]; simp [hp]
       exact ex _ ⟨congrArg DV.str this, trivial⟩
     · refine RG.nilS (AC.cond_f rfl (AC.skip (AC.reg ?_)))
       refine go ?_
       refine RG.nil ?_
       refine ih l ?_ (by simp) _ ⟨rfl, rfl, trivial⟩
       rw [← hl]; simp [hp]
theorem setOf_put (p : UInt8 → Bool) (c : UInt8) : spliceL (0 + c.toNat * 1) [.bool true] (setOf p) = setOf fun x => x == c || p x := by
 have hc : c.toNat < 256 := c.toNat_lt
 rw [Nat.zero_add, Nat.mul_one]
 apply List.ext_getElem?
 intro j
 have hl : ((setOf p).take c.toNat).length = c.toNat := by rw [List.length_take, setOf_length]; omega
 unfold spliceL
 by_cases hj : j < 256
 · have hR : (setOf fun x => x == c || p x)[j]? = some (.bool (UInt8.ofNat j == c || p (UInt8.ofNat j))) := by simp [setOf, hj]
   rw [hR, List.append_assoc, List.getElem?_append, hl]
   by_cases h1 : j < c.toNat
   · rw [if_pos h1, List.getElem?_take, if_pos h1]
     have hne : (UInt8.ofNat j == c) = false := by
      rw [beq_eq_false_iff_ne]
      intro e
      have := congrArg UInt8.toNat e
      rw [UInt8.toNat_ofNat'] at this
      omega
     rw [hne]
     simp [setOf, hj]
   · rw [if_neg h1]
     by_cases h2 : j = c.toNat
     · subst h2
       simp
     · obtain ⟨k, hk⟩ : ∃ k, j - c.toNat = k + 1 := ⟨j - c.toNat - 1, by omega⟩
       rw [hk]
       simp only [List.cons_append, List.nil_append, List.getElem?_cons_succ, List.getElem?_drop, List.length_singleton]
       have hne : (UInt8.ofNat j == c) = false := by
        rw [beq_eq_false_iff_ne]
        intro e
        have := congrArg UInt8.toNat e
        rw [UInt8.toNat_ofNat'] at this
        omega
       rw [hne, show c.toNat + 1 + k = j by omega]
       simp [setOf, hj]
 · have h1 : (setOf fun x => x == c || p x)[j]? = none := by simp [setOf]; omega
   rw [h1, List.getElem?_eq_none]
   simp only [List.length_append, List.length_singleton, hl, List.length_drop, setOf_length]
   omega
theorem makeSet_ok (cs : List UInt8) (ha : ∀ c ∈ cs, c < 128) (hs : cs.length ≤ 4611686018427387904) :
  PF prog G 166 [.str cs] (.tup [.agg (setOf cs.contains), .bool true]) := by
 intro H
 refine CALL.of cF166 (Nat.le_of_ble_eq_true rfl) ?_
 refine AC.seq (AC.reg ?_)
 refine RG.alloc .d fun b hb => ?_
 refine go ?_
 refine RG.nilS (AC.seq (AC.seq (AC.reg ?_)))
 refine go ?_
 refine RG.nilS ?_
 have hz : (List.map (fun _ => DV.bool false) (List.range 256)) = setOf fun c => (cs.take 0).contains c := by simp [setOf]
 have hz2 : ∀ zs, zs = (List.map (fun _ => DV.bool false) (List.range 256)) → H.upd b (some (.cells zs 186)) = H.upd b (some (.cells (setOf fun c => (cs.take 0).contains c) 186)) := fun zs h => by rw [h, hz]
 rw [hz2 _ (by kernel_rfl)]
 refine AC.bloop (α := Nat) (fun n => cs.length - n) (fun n => [(0, .str cs), (2, .ptr b 0), (4, .int .i64 n)]) (fun n => H.upd b (some (.cells (setOf fun c => (cs.take n).contains c) 186))) (fun n => n ≤ cs.length)
  [(2, .ptr b 0)] (H.upd b (some (.cells (setOf cs.contains) 186))) ?_ ?_ 0 (Nat.zero_le _) ⟨rfl, rfl, rfl, trivial⟩
 · intro fr hfr
   refine AC.to _ hfr (AC.seq (AC.reg ?_))
   have hp : partD true 0 256 (setOf cs.contains) = some (.agg (setOf cs.contains)) := by
    simp only [partD, if_true, setOf_length]
    rw [if_pos (by omega), List.drop_zero, List.take_of_length_le (by rw [setOf_length]; omega)]
   refine RG.ld .d rfl Hp.upd_same hp ?_
   refine RG.sto .d rfl Hp.upd_same rfl rfl (setOf_length _) (by rw [setOf_length]; omega) ?_
   have hsp : spliceL 0 (setOf cs.contains) (setOf cs.contains) = setOf cs.contains := by
    simp only [spliceL, List.take_zero, List.nil_append, Nat.zero_add]
    rw [List.drop_length, List.append_nil]
   rw [Hp.upd_upd, hsp]
   refine go ?_
   refine RG.nilS (AC.ret (finD (ds := [.agg (setOf cs.contains), .bool true]) (H' := H) ?_ (SubH.fresh hb) ⟨rfl, rfl⟩))
   show (ldD _ true 256 (.ptr b 0)).bind _ = _
   simp only [ldD, Hp.upd_same, hp, Option.bind_some]
   rfl
 · intro n hn ih ex
   refine AC.seq (AC.seq (AC.reg ?_))
   refine go ?_
   cases e1 : decide ((n : Int) < cs.length)
   · have e := of_decide_eq_false e1
     have : cs.take n = cs := List.take_of_length_le (by omega)
     refine RG.nilS (AC.cond_f rfl (AC.exit ?_))
     rw [this] at *
     exact ex _ ⟨rfl, trivial⟩
   · have e := of_decide_eq_true e1
     have hn' : n < cs.length := by omega
     refine RG.nilS (AC.cond_t rfl (AC.skip (AC.seq (AC.block (AC.seq (AC.reg ?_))))))
     refine go1 ?_
     refine go1 ?_
     refine RG.at .d wh wh (by omega) (b := cs[n]) (by simp [hn']) ?_
     refine go ?_
     have hc : cs[n].toNat < 128 := by
      have := ha cs[n] (List.getElem_mem hn')
      simpa [UInt8.lt_iff_toNat_lt] using this
     have hcd : decide ((cs[n].toNat : Int) ≥ 128) = false := by simp; omega
     refine RG.nilS (AC.seq (AC.seq (AC.reg ?_)))
     refine go ?_
     refine RG.nilS (AC.cond_f (by show DV.bool _ = _; rw [hcd]) (AC.skip (AC.reg ?_)))
     refine go1 ?_
     refine RG.p .d (evP_iadrA wh wh (by omega)) ?_
     refine RG.sto .d wh Hp.upd_same wh rfl rfl (by simp only [setOf_length, Int.toNat_natCast]; omega) ?_
     refine RG.nil (AC.reg ?_)
     refine go ?_
     refine RG.nil ?_
     rw [Hp.upd_upd]
     have hput : spliceL (0 + ((cs[n].toNat : Nat) : Int).toNat * 1) [.bool true] (setOf fun c => (cs.take n).contains c) = setOf fun c => (cs.take (n + 1)).contains c := by
      rw [Int.toNat_natCast, setOf_put]
      congr 1
      funext x
      rw [List.take_succ_eq_append_getElem hn', List.contains_append]
      by_cases hx : x = cs[n] <;> simp [hx, Bool.or_comm]
     rw [hput]
     exact ih (n + 1) (by omega) (by omega) _ ⟨rfl, rfl, rfl, trivial⟩
theorem trimLeft_ok (s cs : List UInt8) (h2 : 2 ≤ cs.length) (ha : ∀ c ∈ cs, c < 128) (hs : cs.length ≤ 4611686018427387904) : PF prog G 111 [.str s, .str cs] (.str (s.dropWhile cs.contains)) := by
 intro H
 refine CALL.of cF111 (Nat.le_of_ble_eq_true rfl) ?_
 have hcs : (cs == []) = false := by cases cs with
  | nil => simp at h2
  | cons => rfl
 have hl1 : ((cs.length : Int) == 1) = false := by simp; omega
 refine AC.seq (AC.reg ?_)
 refine go ?_
 refine RG.nilS (AC.seq (AC.seq (AC.reg ?_)))
 refine go ?_
 cases e : s == []
 · refine go ?_
   rw [hcs]
   refine RG.nilS (AC.cond_f rfl (AC.skip (AC.seq (AC.seq (AC.reg ?_)))))
   refine go ?_
   rw [hl1]
   refine go ?_
   refine RG.nilS (AC.cond_f rfl (AC.skip (AC.seq (AC.seq (AC.reg ?_)))))
   refine go ?_
   refine RG.callP .d rfl (makeSet_ok cs ha hs) ?_
   refine go ?_
   refine RG.alloc .d fun b hb => ?_
   refine RG.sto .d rfl Hp.upd_same rfl rfl (setOf_length _) (Nat.le_of_ble_eq_true (by kernel_rfl)) ?_
   have hsp : ∀ zs : List DV, zs.length = 256 → spliceL 0 (setOf cs.contains) zs = setOf cs.contains := fun zs hz => by
    simp only [spliceL, List.take_zero, List.nil_append, Nat.zero_add, setOf_length]
    rw [List.drop_of_length_le (by omega), List.append_nil]
   rw [Hp.upd_upd, hsp _ (by kernel_rfl)]
   refine go ?_
   refine RG.nilS (AC.seq (AC.reg ?_))
   refine go ?_
   refine RG.nilS (AC.cond_t rfl (AC.seq (AC.reg ?_)))
   refine go ?_
   refine RG.callR .d rfl (trimLeftASCII_ok Hp.upd_same s) ?_
   refine go ?_
   exact RG.nilS (AC.ret (finD (H' := H) rfl (SubH.fresh hb) ⟨rfl, rfl⟩))
 · have : s = [] := by simpa using e
   subst this
   refine go ?_
   refine RG.nilS (AC.cond_t rfl (AC.seq (AC.reg ?_)))
   refine go ?_
   exact RG.nilS (AC.ret (fin rfl ⟨rfl, rfl⟩))
def isWs (c : UInt8) : Bool := List.contains [32, 9, 10, 13] c
def wsN (l : List UInt8) : Nat := l.length - (l.dropWhile isWs).length
theorem wsN_le (l : List UInt8) : wsN l ≤ l.length := Nat.sub_le _ _
theorem space_ok {b : Nat} {s : List UInt8} {i : Nat} {ty : TypeId} {H : Hp} (hb : H b = rd s i ty) (hi : i ≤ s.length) (hs : s.length ≤ 4611686018427387904) :
  CALL prog G 52 [.ptr b 0] H
   (fun d H' => d = .bool (decide (0 < wsN (s.drop i))) ∧ H' = H.upd b (rd s (i + wsN (s.drop i)) ty)) (fun _ _ => False) := by
 have hdl : (s.drop i).length = s.length - i := by simp
 have hle : ((s.drop i).dropWhile isWs).length ≤ (s.drop i).length := (List.dropWhile_sublist _).length_le
 refine CALL.of cF52 (Nat.le_of_ble_eq_true rfl) ?_
 refine AC.seq (AC.reg ?_)
 refine go ?_
 refine RG.nilS (AC.seq (AC.reg ?_))
 refine go ?_
 refine RG.callR .d rfl (left_ok hb hi) ?_
 refine go ?_
 refine RG.callR .d rfl (left_ok hb hi) ?_
 refine RG.callP .d rfl (trimLeft_ok (s.drop i) [32, 9, 10, 13] (by decide) (by decide) (by decide)) ?_
 have hw : (s.drop i).dropWhile (List.contains [32, 9, 10, 13]) = (s.drop i).dropWhile isWs := rfl
 rw [hw]
 generalize hq : ((s.drop i).dropWhile isWs) = q at hle
 have hn : wsN (s.drop i) = (s.drop i).length - q.length := by rw [wsN, hq]
 refine go1 ?_
 have hsub : (((s.drop i).length : Nat) : Int) - (q.length : Nat) = (wsN (s.drop i) : Nat) := by omega
 refine RG.subI .d wh wh (by omega) ?_
 rw [hsub]
 refine go ?_
 refine RG.nilS (AC.seq (AC.reg ?_))
 refine go ?_
 refine RG.nilS (AC.seq (AC.reg ?_))
 refine go ?_
 refine RG.nilS (AC.ret (fin rfl ⟨?_, rfl⟩))
 show DV.bool (decide (((wsN (s.drop i) : Nat) : Int) > 0)) = _
 congr 1
 simp
def F99 : FN := ⟨20, (.seq (.reg [ji 2 (.mv (.t 0)), ji 3 (.nilc (.t 2)), ji 4 (.fadr 0 (.t 3)), ji 5 (.ld false 1 (.t 4)), ji 6 (.eqn false .ptr (.t 5) (.c .nilp))])
 (.cond (.t 6) (.reg [ji 7 (.mv (.t 0)), ji 8 (.mv (.t 0)), ji 9 (.oth (.convert 64 169 (.tmp 8))), ji 10 (.call 158 [(.t 9)]), ji 11 (.oth (.convert 169 64 (.tmp 10))), ji 12 (.nilc (.t 7)), ji 13 (.fadr 0 (.t 12)), jn (.st 1 (.t 13) (.t 11))])
 (.seq (.reg [ji 14 (.mv (.t 0)), ji 15 (.nilc (.t 14)), ji 16 (.fadr 0 (.t 15)), ji 17 (.ld false 1 (.t 16)), ji 18 (.mv (.t 0)), ji 19 (.eqn true .ptr (.t 17) (.t 18))])
 (.cond (.t 19) .stuck
 .skip)))), []⟩
theorem cF99 : cFn prog 99 = some F99 := by kernel_rfl
def F39 : FN := ⟨19, (.seq (.reg [ji 4 (.mv (ci 0)), ji 5 (.mv (.c .nilif))])
 (.seq (.reg [ji 6 (.mv (.t 0)), ji 7 (.call 99 [(.t 6)])])
 (.seq (.reg [ji 8 (.mv (.t 0)), ji 9 (.mv (.t 0)), ji 10 (.nilc (.t 9)), ji 11 (.fadr 1 (.t 10)), ji 12 (.ld false 1 (.t 11)), ji 13 (.mv (.t 1)), ji 14 (.app 5 1 1 (.t 12) (.t 13)), ji 15 (.nilc (.t 8)), ji 16 (.fadr 1 (.t 15)), jn (.st 1 (.t 16) (.t 14))])
 (.seq (.reg [ji 17 (.mv (.t 1)), ji 18 (.len true (.t 17)), ji 4 (.mv (.t 18)), ji 5 (.mv (.c .nilif))])
 .ret)))), [.tmp 4, .tmp 5]⟩
theorem cF39 : cFn prog 39 = some F39 := by kernel_rfl
def F44 : FN := ⟨17, (.seq (.reg [ji 4 (.mv (.c .nilif))])
 (.seq (.reg [ji 5 (.mv (.t 0)), ji 6 (.call 99 [(.t 5)])])
 (.seq (.reg [ji 7 (.mv (.t 0)), ji 8 (.mv (.t 0)), ji 9 (.nilc (.t 8)), ji 10 (.fadr 1 (.t 9)), ji 11 (.ld false 1 (.t 10)), ji 12 (.mv (.t 1)), ji 13 (.bsl 5 1 1 [(.int .u8 0)] [(0, 1, (.t 12))]), ji 14 (.app 5 1 1 (.t 11) (.t 13)), ji 15 (.nilc (.t 7)), ji 16 (.fadr 1 (.t 15)), jn (.st 1 (.t 16) (.t 14))])
 (.seq (.reg [ji 4 (.mv (.c .nilif))])
 .ret)))), [.tmp 4]⟩
theorem cF44 : cFn prog 44 = some F44 := by kernel_rfl
def F41 : FN := ⟨8, (.seq (.reg [ji 2 (.mv (ci 0))])
 (.seq (.reg [ji 3 (.mv (.t 0)), ji 4 (.nilc (.t 3)), ji 5 (.fadr 1 (.t 4)), ji 6 (.ld false 1 (.t 5)), ji 7 (.len false (.t 6)), ji 2 (.mv (.t 7))])
 .ret)), [.tmp 2]⟩
theorem cF41 : cFn prog 41 = some F41 := by kernel_rfl
def F42 : FN := ⟨14, (.seq (.reg [ji 2 (.mv (.c (.str [])))])
 (.seq (.draw [ji 3 (.mv (.t 0)), ji 4 (.nilc (.t 3)), ji 5 (.fadr 1 (.t 4)), ji 6 (.ld false 1 (.t 5)),
  ⟨(some 7), none, .oth (.call ⟨.builtin .unsafeSliceData, #[(.tmp 6)], #[65]⟩)⟩, ji 8 (.mv (.t 0)), ji 9 (.nilc (.t 8)), ji 10 (.fadr 1 (.t 9)), ji 11 (.ld false 1 (.t 10)), ji 12 (.len false (.t 11)),
  ⟨(some 13), none, .oth (.call ⟨.builtin .unsafeString, #[(.tmp 7), (.tmp 12)], #[131, 3]⟩)⟩, ji 2 (.mv (.t 13))] [[], [0], [1], [2], [3], [], [5], [6], [7], [8], [4, 9], [10, 0, 1, 2, 3, 4, 5, 6, 7, 8, 9, 10]])
 .ret)), [.tmp 2]⟩
theorem cF42 : cFn prog 42 = some F42 := by kernel_rfl
def bAddr (u : Bool) (b : Nat) : DV := bif u then .ptr b 0 else .nilp
inductive BLD (H0 : Hp) (b : Nat) : Bool → List UInt8 → Hp → Prop
 | mt (u : Bool) : H0 b = none → BLD H0 b u [] (H0.upd b (some (.cells [bAddr u b, .nils] 67)))
 | on (u : Bool) (g : Nat) (bs : List UInt8) : H0 b = none → H0 g = none → g ≠ b → bs ≠ [] →
   BLD H0 b u bs ((H0.upd b (some (.cells [bAddr u b, .lst (bs.map B8) bs.length 1 (some (g, 0))] 67))).upd g (some (.front bs.length 1 5)))
theorem BLD.free {H0 H : Hp} {b : Nat} {u : Bool} {bs : List UInt8} (h : BLD H0 b u bs H) : H0 b = none := by cases h <;> assumption
theorem BLD.sub {H0 H : Hp} {b : Nat} {u : Bool} {bs : List UInt8} (h : BLD H0 b u bs H) : SubH H0 H := by
 cases h with
 | mt h => exact SubH.fresh h
 | on g bs h1 h2 h3 h4 =>
   refine (SubH.fresh h1).trans (SubH.fresh ?_)
   rw [Hp.upd_ne h3]; exact h2
theorem BLD.upd {H0 H : Hp} {b k : Nat} {u : Bool} {bs : List UInt8} {o o' : DO} (h : BLD H0 b u bs H) (hk : H0 k = some o) : BLD (H0.upd k (some o')) b u bs (H.upd k (some o')) := by
 have hkb : k ≠ b := fun e => by rw [e, h.free] at hk; cases hk
 cases h with
 | mt h =>
   rw [Hp.upd_comm (Ne.symm hkb)]
   exact .mt u (by rw [Hp.upd_ne (Ne.symm hkb)]; exact h)
 | on g bs h1 h2 h3 h4 =>
   have hkg : k ≠ g := fun e => by rw [e, h2] at hk; cases hk
   rw [Hp.upd_comm (Ne.symm hkg), Hp.upd_comm (Ne.symm hkb)]
   exact .on u g bs (by rw [Hp.upd_ne (Ne.symm hkb)]; exact h1) (by rw [Hp.upd_ne (Ne.symm hkg)]; exact h2) h3 h4
theorem BLD.cell {H0 H : Hp} {b : Nat} {u : Bool} {bs : List UInt8} (h : BLD H0 b u bs H) : ∃ buf, H b = some (.cells [bAddr u b, buf] 67) := by
 cases h with
 | mt h => exact ⟨_, Hp.upd_same⟩
 | on g bs h1 h2 h3 h4 => exact ⟨_, by rw [Hp.upd_ne (Ne.symm h3)]; exact Hp.upd_same⟩
theorem BLD.use {H0 H : Hp} {b : Nat} {u : Bool} {bs : List UInt8} {buf : DV} (h : BLD H0 b u bs H) (hb : H b = some (.cells [bAddr u b, buf] 67)) : BLD H0 b true bs (H.upd b (some (.cells [.ptr b 0, buf] 67))) := by
 cases h with
 | mt h =>
   rw [Hp.upd_same] at hb
   cases hb
   rw [Hp.upd_upd]
   exact .mt true h
 | on g bs h1 h2 h3 h4 =>
   rw [Hp.upd_ne (Ne.symm h3), Hp.upd_same] at hb
   cases hb
   rw [Hp.upd_comm h3, Hp.upd_upd]
   exact .on true g bs h1 h2 h3 h4
theorem copyCheck_ok {H0 H : Hp} {b : Nat} {u : Bool} {bs : List UInt8} (h : BLD H0 b u bs H) :
  CALL prog G 99 [.ptr b 0] H (fun d H' => d = .tup [] ∧ BLD H0 b true bs H') (fun _ _ => False) := by
 obtain ⟨buf, hb⟩ := h.cell
 refine CALL.of cF99 (Nat.le_of_ble_eq_true rfl) ?_
 refine AC.seq (AC.reg ?_)
 cases u
 · refine go ?_
   refine RG.nilS (AC.cond_t rfl (AC.reg ?_))
   refine go ?_
   refine RG.s .d (ST.p2u (P := prog) (u := 67) (j := Go.Proofs.Tryz.t67) (by kernel_rfl) (by kernel_rfl) (by kernel_rfl) (fun h => by cases (show (2 : Nat) = 0 from h)) rfl hb (by simp) ?_)
   refine RG.s .d (ST.noEscape Go.Proofs.Tryz.func158 rfl rfl (by kernel_rfl) (by kernel_rfl) rfl ?_)
   refine RG.s .d (ST.u2p (P := prog) (u := 67) (j := Go.Proofs.Tryz.t67) (by kernel_rfl) (by kernel_rfl) (by kernel_rfl) rfl hb (by kernel_rfl) ?_)
   refine go ?_
   exact RG.nil (fin rfl ⟨rfl, h.use hb⟩)
 · refine go ?_
   refine RG.nilS (AC.cond_f rfl (AC.seq (AC.reg ?_)))
   refine go ?_
   refine RG.p .d (evP_eqptr (b := b) (o := 0) (o' := 0) rfl rfl) ?_
   refine RG.nilS (AC.cond_f rfl (AC.skip (fin rfl ⟨rfl, h⟩)))
theorem BLD.app {H0 H : Hp} {b : Nat} {u : Bool} {bs ys : List UInt8} {N : Nat} {x y : X} {dst : Option Nat} {l : List Ins} {Q : EX → Fr → Hp → Prop} {fr : Fr} (h : BLD H0 b u bs H) (hlen : bs.length + ys.length ≤ 140737488355328)
  (hx : ∀ buf, H b = some (.cells [bAddr u b, buf] 67) → XV G fr x = buf) (hy : srcD H 1 (XV G fr y) = some (ys.map B8, ys.length))
  (k : ∀ buf H', cellsD buf = some [buf] → H' b = some (.cells [bAddr u b, (XV G fr x)] 67) → BLD H0 b u (bs ++ ys) (H'.upd b (some (.cells [bAddr u b, buf] 67))) → RG prog G none N l Q (fr.put dst buf) H') :
  RG prog G none N (⟨dst, none, .app 5 1 1 x y⟩ :: l) Q fr H := by
 cases h with
 | mt h =>
   have hxv := hx _ Hp.upd_same
   by_cases hys : ys = []
   · subst hys
     refine RG.st (ST.app_nothing (.inl hxv) hy ?_)
     rw [hxv]
     refine k _ _ rfl (by rw [hxv]; exact Hp.upd_same) ?_
     rw [Hp.upd_upd]
     exact .mt u h
   · have hpos : 0 < ys.length := List.length_pos_iff.2 hys
     refine RG.st (ST.app_new (.inl hxv) hy hpos (by simp at hlen; omega) fun g hg => ?_)
     have hgb : g ≠ b := fun e => by rw [e, Hp.upd_same] at hg; cases hg
     rw [Hp.upd_ne hgb] at hg
     refine k _ _ rfl (by rw [Hp.upd_ne (Ne.symm hgb), hxv]; exact Hp.upd_same) ?_
     rw [Hp.upd_comm hgb, Hp.upd_upd, List.nil_append]
     exact .on u g ys h hg hgb hys
 | on g _ h1 h2 h3 h4 =>
   have hb : ((H0.upd b (some (.cells [bAddr u b, .lst (bs.map B8) bs.length 1 (some (g, 0))] 67))).upd g (some (.front bs.length 1 5))) b = some (.cells [bAddr u b, .lst (bs.map B8) bs.length 1 (some (g, 0))] 67) := by
    rw [Hp.upd_ne (Ne.symm h3)]; exact Hp.upd_same
   have hxv := hx _ hb
   refine RG.st (ST.app_own hxv Hp.upd_same hy (by omega) fun g' hg' => ?_)
   have hg2 : g' ≠ b ∧ H0 g' = none := by
    rcases hg' with rfl | hg'
    · exact ⟨h3, h2⟩
    · have e1 : g' ≠ g := fun e => by rw [e, Hp.upd_same] at hg'; cases hg'
      rw [Hp.upd_ne e1] at hg'
      have e2 : g' ≠ b := fun e => by rw [e, Hp.upd_same] at hg'; cases hg'
      rw [Hp.upd_ne e2] at hg'
      exact ⟨e2, hg'⟩
   rw [Hp.upd_upd]
   have hz : (H0.upd b (some (.cells [bAddr u b, .lst (bs.map B8) bs.length 1 (some (g, 0))] 67))).upd g none = H0.upd b (some (.cells [bAddr u b, .lst (bs.map B8) bs.length 1 (some (g, 0))] 67)) :=
    Hp.upd_id (by rw [Hp.upd_ne h3]; exact h2)
   rw [hz]
   refine k _ _ rfl (by rw [Hp.upd_ne (Ne.symm hg2.1), hxv]; exact Hp.upd_same) ?_
   rw [Hp.upd_comm hg2.1, Hp.upd_upd, ← List.map_append, ← List.length_append]
   exact .on u g' (bs ++ ys) h1 hg2.2 hg2.1 (by simp [h4])
theorem WriteString_ok {H0 H : Hp} {b : Nat} {u : Bool} {bs s : List UInt8} (h : BLD H0 b u bs H) (hlen : bs.length + s.length ≤ 140737488355328) :
  CALL prog G 39 [.ptr b 0, .str s] H (fun d H' => d = .tup [.int .i64 s.length, .nilif] ∧ BLD H0 b true (bs ++ s) H') (fun _ _ => False) := by
 refine CALL.of cF39 (Nat.le_of_ble_eq_true rfl) ?_
 refine AC.seq (AC.reg ?_)
 refine go ?_
 refine RG.nilS (AC.seq (AC.reg ?_))
 refine go ?_
 refine RG.call .d rfl (copyCheck_ok h) (fun d H' ⟨e1, h'⟩ => ?_) (fun _ _ h => h.elim)
 subst e1
 refine RG.nilS (AC.seq (AC.reg ?_))
 obtain ⟨buf, hb⟩ := h'.cell
 refine go ?_
 refine h'.app hlen (fun buf' hb' => ?_) rfl (fun buf' H2 hcd hb2 h2 => ?_)
 · rw [hb] at hb'; cases hb'; rfl
 · refine go1 ?_
   refine go1 ?_
   refine RG.sto .d wh hb2 wh hcd rfl (by simp) ?_
   refine RG.nilS (AC.seq (AC.reg ?_))
   refine go ?_
   exact RG.nilS (AC.ret (fin rfl ⟨rfl, h2⟩))
theorem WriteByte_ok {H0 H : Hp} {b : Nat} {u : Bool} {bs : List UInt8} {c : UInt8} (h : BLD H0 b u bs H) (hlen : bs.length + 1 ≤ 140737488355328) :
  CALL prog G 44 [.ptr b 0, .int .u8 c.toNat] H (fun d H' => d = .nilif ∧ BLD H0 b true (bs ++ [c]) H') (fun _ _ => False) := by
 refine CALL.of cF44 (Nat.le_of_ble_eq_true rfl) ?_
 refine AC.seq (AC.reg ?_)
 refine go ?_
 refine RG.nilS (AC.seq (AC.reg ?_))
 refine go ?_
 refine RG.call .d rfl (copyCheck_ok h) (fun d H' ⟨e1, h'⟩ => ?_) (fun _ _ h => h.elim)
 subst e1
 refine RG.nilS (AC.seq (AC.reg ?_))
 obtain ⟨buf, hb⟩ := h'.cell
 refine go ?_
 refine RG.st (ST.bsl (cs := [.int .u8 c.toNat]) rfl fun g hg => ?_)
 refine RG.drop (SubH.fresh hg) ?_
 refine h'.app (ys := [c]) hlen (fun buf' hb' => ?_) rfl (fun buf' H2 hcd hb2 h2 => ?_)
 · rw [hb] at hb'; cases hb'; rfl
 · refine go1 ?_
   refine go1 ?_
   refine RG.sto .d wh hb2 wh hcd rfl (by simp) ?_
   refine RG.nilS (AC.seq (AC.reg ?_))
   refine go ?_
   exact RG.nilS (AC.ret (fin rfl ⟨rfl, h2⟩))
theorem Len_ok {H0 H : Hp} {b : Nat} {u : Bool} {bs : List UInt8} (h : BLD H0 b u bs H) :
  CALL prog G 41 [.ptr b 0] H (fun d H' => d = .int .i64 bs.length ∧ H' = H) (fun _ _ => False) := by
 refine CALL.of cF41 (Nat.le_of_ble_eq_true rfl) ?_
 refine AC.seq (AC.reg ?_)
 refine go ?_
 refine RG.nilS (AC.seq (AC.reg ?_))
 cases h with
 | mt h =>
   refine go ?_
   exact RG.nilS (AC.ret (fin rfl ⟨rfl, rfl⟩))
 | on g _ h1 h2 h3 h4 =>
   have hb : ((H0.upd b (some (.cells [bAddr u b, .lst (bs.map B8) bs.length 1 (some (g, 0))] 67))).upd g (some (.front bs.length 1 5))) b = some (.cells [bAddr u b, .lst (bs.map B8) bs.length 1 (some (g, 0))] 67) := by
    rw [Hp.upd_ne (Ne.symm h3)]; exact Hp.upd_same
   refine go ?_
   exact RG.nilS (AC.ret (fin rfl ⟨rfl, rfl⟩))
theorem String_ok {H0 H : Hp} {b : Nat} {u : Bool} {bs : List UInt8} (h : BLD H0 b u bs H) (hlen : bs.length ≤ 9223372036854775807) :
  CALL prog G 42 [.ptr b 0] H (fun d H' => d = .str bs ∧ H' = H0) (fun _ _ => False) := by
 refine CALL.of cF42 (Nat.le_of_ble_eq_true rfl) ?_
 refine AC.seq (AC.reg ?_)
 refine go ?_
 cases h with
 | mt h =>
   refine RG.nilS (AC.seq (AC.drawV [4, 10] rfl ?_))
   first|refine VD.z0 0 ?_|refine VD.z1 0 ?_|refine VD.z2 0 ?_|refine VD.z3 0 ?_|refine VD.z4 0 ?_|refine VD.z5 0 ?_
   first|refine VD.z0 1 ?_|refine VD.z1 1 ?_|refine VD.z2 1 ?_|refine VD.z3 1 ?_|refine VD.z4 1 ?_|refine VD.z5 1 ?_
   first|refine VD.z0 2 ?_|refine VD.z1 2 ?_|refine VD.z2 2 ?_|refine VD.z3 2 ?_|refine VD.z4 2 ?_|refine VD.z5 2 ?_
   first|refine VD.z0 3 ?_|refine VD.z1 3 ?_|refine VD.z2 3 ?_|refine VD.z3 3 ?_|refine VD.z4 3 ?_|refine VD.z5 3 ?_
   first|refine VD.z0 5 ?_|refine VD.z1 5 ?_|refine VD.z2 5 ?_|refine VD.z3 5 ?_|refine VD.z4 5 ?_|refine VD.z5 5 ?_
   first|refine VD.z0 6 ?_|refine VD.z1 6 ?_|refine VD.z2 6 ?_|refine VD.z3 6 ?_|refine VD.z4 6 ?_|refine VD.z5 6 ?_
   first|refine VD.z0 7 ?_|refine VD.z1 7 ?_|refine VD.z2 7 ?_|refine VD.z3 7 ?_|refine VD.z4 7 ?_|refine VD.z5 7 ?_
   first|refine VD.z0 8 ?_|refine VD.z1 8 ?_|refine VD.z2 8 ?_|refine VD.z3 8 ?_|refine VD.z4 8 ?_|refine VD.z5 8 ?_
   first|refine VD.z0 9 ?_|refine VD.z1 9 ?_|refine VD.z2 9 ?_|refine VD.z3 9 ?_|refine VD.z4 9 ?_|refine VD.z5 9 ?_
   refine VD.pe (K := fun d H' => d = .nilp ∧ H' = H0.upd b (some (.cells [bAddr u b, .nils] 67))) (Kp := fun _ _ => False) 4 rfl rfl (fun fr1 l Q hs k _ => RG.st (ST.sdata_nil ((hs 6 (by decide)).trans rfl) (k _ _ ⟨rfl, rfl⟩))) (fun _ _ _ h => h.elim) (fun d H' ⟨e1, e2⟩ => ?_)
   subst e1; subst e2
   refine ⟨stb, ?_⟩
   refine VD.pe (K := fun d H' => d = .str [] ∧ H' = H0.upd b (some (.cells [bAddr u b, .nils] 67))) (Kp := fun _ _ => False) 10 rfl rfl (fun fr1 l Q hs k _ => RG.st (ST.ustr_nil ((hs 7 (by decide)).trans rfl) ((hs 12 (by decide)).trans rfl) (k _ _ ⟨rfl, rfl⟩))) (fun _ _ _ h => h.elim) (fun d H' ⟨e1, e2⟩ => ?_)
   subst e1; subst e2
   refine ⟨stb, ?_⟩
   first|refine VD.z0 11 ?_|refine VD.z1 11 ?_|refine VD.z2 11 ?_|refine VD.z3 11 ?_|refine VD.z4 11 ?_|refine VD.z5 11 ?_
   refine VD.pd rfl ?_
   exact AC.ret (finD rfl (SubH.fresh h) ⟨rfl, rfl⟩)
 | on g _ h1 h2 h3 h4 =>
   have hb : ((H0.upd b (some (.cells [bAddr u b, .lst (bs.map B8) bs.length 1 (some (g, 0))] 67))).upd g (some (.front bs.length 1 5))) b = some (.cells [bAddr u b, .lst (bs.map B8) bs.length 1 (some (g, 0))] 67) := by
    rw [Hp.upd_ne (Ne.symm h3)]; exact Hp.upd_same
   obtain ⟨c, cs, rfl⟩ : ∃ c cs, bs = c :: cs := by
    cases bs with
    | nil => exact absurd rfl h4
    | cons c cs => exact ⟨c, cs, rfl⟩
   refine RG.nilS (AC.seq (AC.drawV [4, 10] rfl ?_))
   first|refine VD.z0 0 ?_|refine VD.z1 0 ?_|refine VD.z2 0 ?_|refine VD.z3 0 ?_|refine VD.z4 0 ?_|refine VD.z5 0 ?_
   first|refine VD.z0 1 ?_|refine VD.z1 1 ?_|refine VD.z2 1 ?_|refine VD.z3 1 ?_|refine VD.z4 1 ?_|refine VD.z5 1 ?_
   first|refine VD.z0 2 ?_|refine VD.z1 2 ?_|refine VD.z2 2 ?_|refine VD.z3 2 ?_|refine VD.z4 2 ?_|refine VD.z5 2 ?_
   first|refine VD.z0 3 ?_|refine VD.z1 3 ?_|refine VD.z2 3 ?_|refine VD.z3 3 ?_|refine VD.z4 3 ?_|refine VD.z5 3 ?_
   first|refine VD.z0 5 ?_|refine VD.z1 5 ?_|refine VD.z2 5 ?_|refine VD.z3 5 ?_|refine VD.z4 5 ?_|refine VD.z5 5 ?_
   first|refine VD.z0 6 ?_|refine VD.z1 6 ?_|refine VD.z2 6 ?_|refine VD.z3 6 ?_|refine VD.z4 6 ?_|refine VD.z5 6 ?_
   first|refine VD.z0 7 ?_|refine VD.z1 7 ?_|refine VD.z2 7 ?_|refine VD.z3 7 ?_|refine VD.z4 7 ?_|refine VD.z5 7 ?_
   first|refine VD.z0 8 ?_|refine VD.z1 8 ?_|refine VD.z2 8 ?_|refine VD.z3 8 ?_|refine VD.z4 8 ?_|refine VD.z5 8 ?_
   first|refine VD.z0 9 ?_|refine VD.z1 9 ?_|refine VD.z2 9 ?_|refine VD.z3 9 ?_|refine VD.z4 9 ?_|refine VD.z5 9 ?_
   refine VD.pe (K := fun d H' => d = .ptr g 0 ∧ H' = (H0.upd b (some (.cells [bAddr u b, .lst ((c :: cs).map B8) (c :: cs).length 1 (some (g, 0))] 67))).upd g (some (.front (c :: cs).length 1 5))) (Kp := fun _ _ => False) 4 rfl rfl
    (fun fr1 l Q hs k _ => RG.st (ST.sdata (c := B8 c) (cs := cs.map B8) ((hs 6 (by decide)).trans rfl) Hp.upd_same (k _ _ ⟨rfl, rfl⟩))) (fun _ _ _ h => h.elim) (fun d H' ⟨e1, e2⟩ => ?_)
   subst e1; subst e2
   refine ⟨stb, ?_⟩
   refine VD.pe (K := fun d H' => d = .str (c :: cs) ∧ H' = ((H0.upd b (some (.cells [bAddr u b, .lst ((c :: cs).map B8) (c :: cs).length 1 (some (g, 0))] 67))).upd g (some (.front (c :: cs).length 1 5))).upd g none) (Kp := fun _ _ => False) 10 rfl rfl
    (fun fr1 l Q hs k _ => RG.st (ST.ustr (P := prog) (ty := 5) (k := 1) (by kernel_rfl) (by kernel_rfl) h4 hlen ((hs 7 (by decide)).trans rfl) ((hs 12 (by decide)).trans rfl) Hp.upd_same hb rfl (k _ _ ⟨rfl, rfl⟩))) (fun _ _ _ h => h.elim) (fun d H' ⟨e1, e2⟩ => ?_)
   subst e1; subst e2
   refine ⟨stb, ?_⟩
   first|refine VD.z0 11 ?_|refine VD.z1 11 ?_|refine VD.z2 11 ?_|refine VD.z3 11 ?_|refine VD.z4 11 ?_|refine VD.z5 11 ?_
   refine VD.pd rfl ?_
   rw [Hp.upd_upd]
   have hz : (H0.upd b (some (.cells [bAddr u b, .lst ((c :: cs).map B8) (c :: cs).length 1 (some (g, 0))] 67))).upd g none = H0.upd b (some (.cells [bAddr u b, .lst ((c :: cs).map B8) (c :: cs).length 1 (some (g, 0))] 67)) :=
    Hp.upd_id (by rw [Hp.upd_ne h3]; exact h2)
   rw [hz]
   exact AC.ret (finD rfl (SubH.fresh h1) ⟨rfl, rfl⟩)
def F100 : FN := ⟨10, (.seq (.reg [ji 2 (.mv (.c (.str [])))])
 (.seq (.seq (.reg [ji 3 (.mv (.t 0))])
 (.block 0 (.seq (.reg [ji 5 (.bin .eql (.t 3) (ci 0)), ji 4 (.mv (.t 5))])
 (.cond (.t 4) (.seq (.reg [ji 2 (.mv (.c (.str [83, 89, 78, 67, 77, 76, 58, 83, 89, 78, 67, 77, 76, 49, 46, 50])))])
 .ret)
 (.seq (.reg [ji 7 (.bin .eql (.t 3) (ci 1)), ji 6 (.mv (.t 7))])
 (.cond (.t 6) (.seq (.reg [ji 2 (.mv (.c (.str [115, 121, 110, 99, 109, 108, 58, 109, 101, 116, 105, 110, 102])))])
 .ret)
 (.seq (.reg [ji 9 (.bin .eql (.t 3) (ci 2)), ji 8 (.mv (.t 9))])
 (.cond (.t 8) (.seq (.reg [ji 2 (.mv (.c (.str [115, 121, 110, 99, 109, 108, 58, 100, 101, 118, 105, 110, 102])))])
 .ret)
 .skip))))))))
 (.seq (.reg [ji 2 (.mv (.c (.str [])))])
 .ret))), [.tmp 2]⟩
theorem cF100 : cFn prog 100 = some F100 := by kernel_rfl
def F114 : FN := ⟨13, (.seq (.reg [ji 2 (.mv (ci 0))])
 (.seq (.seq (.reg [ji 4 (.mv (ci 0))])
 (.block 0 (.loop (.seq (.reg [ji 5 (.bin .lss (.t 4) (ci 3))])
 (.seq (.cond (.t 5) .skip
 (.exit 0))
 (.seq (.block 1 (.seq (.reg [ji 6 (.mv (.t 4)), ji 3 (.mv (.t 6))])
 (.seq (.reg [ji 7 (.mv (.t 3)), ji 8 (.call 100 [(.t 7)]), ji 9 (.mv (.t 0)), ji 10 (.bin .eql (.t 8) (.t 9))])
 (.cond (.t 10) (.seq (.reg [ji 11 (.mv (.t 3)), ji 2 (.mv (.t 11))])
 .ret)
 .skip))))
 (.reg [ji 12 (.bin .add (.t 4) (ci 1)), ji 4 (.mv (.t 12))])))))))
 (.seq (.reg [ji 2 (.mv (.c (.int .i64 (-1))))])
 .ret))), [.tmp 2]⟩
theorem cF114 : cFn prog 114 = some F114 := by kernel_rfl
def F116 : FN := ⟨34, (.seq (.reg [ji 6 (.mv (.t 0)), ji 7 (.nilc (.t 6)), ji 8 (.fadr 1 (.t 7)), ji 9 (.ld false 1 (.t 8)), ji 4 (.mv (.t 9))])
 (.seq (.reg [ji 10 (.mv (.t 0)), ji 11 (.call 112 [(.t 10)]), ji 12 (.mv (.t 1)), ji 13 (.bin .eql (.t 11) (.t 12)), ji 14 (.mv (.t 4)), ji 15 (.call 54 [(.t 13), (.t 14), (ci 19)])])
 (.seq (.reg [ji 16 (.mv (.t 0)), ji 17 (.call 52 [(.t 16)])])
 (.seq (.draw [ji 18 (.mv (.t 0)), ji 19 (.call 55 [(.t 18)]), ji 20 (.bin .neq (.t 19) (.c (.str []))), ji 21 (.mv (.t 0)), ji 22 (.nilc (.t 21)), ji 23 (.fadr 1 (.t 22)), ji 24 (.ld false 1 (.t 23)), ji 25 (.call 54 [(.t 20), (.t 24), (ci 1)])] [[], [0], [1], [], [3], [4], [5], [2, 6, 1]])
 (.seq (.reg [ji 26 (.mv (.t 0)), ji 27 (.nilc (.t 26)), ji 28 (.fadr 1 (.t 27)), ji 29 (.ld false 1 (.t 28)), ji 5 (.mv (.t 29))])
 (.reg [ji 30 (.mv (.t 0)), ji 31 (.call 50 [(.t 30), (.c (.str [62]))]), ji 32 (.mv (.t 5)), ji 33 (.call 54 [(.t 31), (.t 32), (ci 3)])])))))), []⟩
theorem cF116 : cFn prog 116 = some F116 := by kernel_rfl
def sp0 : List UInt8 := [83, 89, 78, 67, 77, 76, 58, 83, 89, 78, 67, 77, 76, 49, 46, 50]
def sp1 : List UInt8 := [115, 121, 110, 99, 109, 108, 58, 109, 101, 116, 105, 110, 102]
def sp2 : List UInt8 := [115, 121, 110, 99, 109, 108, 58, 100, 101, 118, 105, 110, 102]
def spaceOf (i : Int) : List UInt8 := bif i == 0 then sp0 else bif i == 1 then sp1 else bif i == 2 then sp2 else []
theorem Space_ok (i : Int) : PF prog G 100 [.int .i64 i] (.str (spaceOf i)) := by
 intro H
 refine CALL.of cF100 (Nat.le_of_ble_eq_true rfl) ?_
 refine AC.seq (AC.reg ?_)
 refine go ?_
 refine RG.nilS (AC.seq (AC.seq (AC.reg ?_)))
 refine go ?_
 refine RG.nilS (AC.block (AC.seq (AC.reg ?_)))
 refine go ?_
 cases e0 : i == 0
 · refine RG.nilS (AC.cond_f rfl (AC.seq (AC.reg ?_)))
   refine go ?_
   cases e1 : i == 1
   · refine RG.nilS (AC.cond_f rfl (AC.seq (AC.reg ?_)))
     refine go ?_
     cases e2 : i == 2
     · refine RG.nilS (AC.cond_f rfl (AC.skip (AC.seq (AC.reg ?_))))
       refine go ?_
       exact RG.nilS (AC.ret (fin rfl ⟨by simp [spaceOf, e0, e1, e2, tupD, Fr.put, Fr.set], rfl⟩))
     · refine RG.nilS (AC.cond_t rfl (AC.seq (AC.reg ?_)))
       refine go ?_
       exact RG.nilS (AC.ret (fin rfl ⟨by simp [spaceOf, e0, e1, e2, tupD, Fr.put, Fr.set, sp2], rfl⟩))
   · refine RG.nilS (AC.cond_t rfl (AC.seq (AC.reg ?_)))
     refine go ?_
     exact RG.nilS (AC.ret (fin rfl ⟨by simp [spaceOf, e0, e1, tupD, Fr.put, Fr.set, sp1], rfl⟩))
 · refine RG.nilS (AC.cond_t rfl (AC.seq (AC.reg ?_)))
   refine go ?_
   exact RG.nilS (AC.ret (fin rfl ⟨by simp [spaceOf, e0, tupD, Fr.put, Fr.set, sp0], rfl⟩))
def pageOf (s : List UInt8) : Int := bif sp0 == s then 0 else bif sp1 == s then 1 else bif sp2 == s then 2 else -1
theorem pageOf_hit {s : List UInt8} : ∀ (n : Nat), n < 3 → (∀ k : Nat, k < n → (spaceOf (k : Nat) == s) = false) → (spaceOf (n : Nat) == s) = true → pageOf s = n
 | 0, _, _, h => by have h : (sp0 == s) = true := h; simp [pageOf, h]
 | 1, _, h0, h => by
   have a0 : (sp0 == s) = false := h0 0 (by omega)
   have h : (sp1 == s) = true := h
   simp [pageOf, a0, h]
 | 2, _, h0, h => by
   have a0 : (sp0 == s) = false := h0 0 (by omega)
   have a1 : (sp1 == s) = false := h0 1 (by omega)
   have h : (sp2 == s) = true := h
   simp [pageOf, a0, a1, h]
 | n + 3, h, _, _ => by omega
theorem pageOf_none {s : List UInt8} (h0 : ∀ k : Nat, k < 3 → (spaceOf (k : Nat) == s) = false) : pageOf s = -1 := by
 have a0 : (sp0 == s) = false := h0 0 (by omega)
 have a1 : (sp1 == s) = false := h0 1 (by omega)
 have a2 : (sp2 == s) = false := h0 2 (by omega)
 simp [pageOf, a0, a1, a2]
theorem Page_ok (s : List UInt8) : PF prog G 114 [.str s] (.int .i64 (pageOf s)) := by
 intro H
 refine CALL.of cF114 (Nat.le_of_ble_eq_true rfl) ?_
 refine AC.seq (AC.reg ?_)
 refine go ?_
 refine RG.nilS (AC.seq (AC.seq (AC.reg ?_)))
 refine go ?_
 refine RG.nilS ?_
 refine AC.bloopH (α := Nat) (β := Unit) (fun n => 3 - n) (fun n => [(0, .str s), (4, .int .i64 n)]) (fun n H' => H' = H ∧ n ≤ 3 ∧ ∀ k : Nat, k < n → (spaceOf (k : Nat) == s) = false) (fun _ => [(0, .str s)]) (fun _ H' => H' = H ∧ pageOf s = -1) ?_ ?_ 0 H ⟨rfl, by omega, fun k hk => by omega⟩ ⟨rfl, rfl, trivial⟩
 · intro _ He fr ⟨h1, h2⟩ hfr
   subst h1
   refine AC.to _ hfr (AC.seq (AC.reg ?_))
   refine go ?_
   exact RG.nilS (AC.ret (fin rfl ⟨by rw [h2]; rfl, rfl⟩))
 · intro n H' ⟨h1, h2, h3⟩ ih ex
   subst h1
   refine AC.seq (AC.reg ?_)
   refine go ?_
   cases e1 : decide ((n : Int) < 3)
   · have e := of_decide_eq_false e1
     have : n = 3 := by omega
     subst this
     exact RG.nilS (AC.seq (AC.cond_f rfl (AC.exit (ex () _ _ ⟨rfl, pageOf_none h3⟩ ⟨rfl, trivial⟩))))
   · have e := of_decide_eq_true e1
     refine RG.nilS (AC.seq (AC.cond_t rfl (AC.skip (AC.seq (AC.block (AC.seq (AC.reg ?_)))))))
     refine go ?_
     refine RG.nilS (AC.seq (AC.reg ?_))
     refine go ?_
     refine RG.callP .d rfl (Space_ok _) ?_
     refine go ?_
     cases e2 : spaceOf (n : Nat) == s
     · refine RG.nilS (AC.cond_f rfl (AC.skip (AC.reg ?_)))
       refine go ?_
       refine RG.nil (ih (n + 1) _ ⟨rfl, by omega, fun k hk => ?_⟩ (by omega) _ ⟨rfl, rfl, trivial⟩)
       by_cases hkn : k = n
       · rw [hkn]; exact e2
       · exact h3 k (by omega)
     · refine RG.nilS (AC.cond_t rfl (AC.seq (AC.reg ?_)))
       refine go ?_
       exact RG.nilS (AC.ret (fin rfl ⟨by rw [pageOf_hit n (by omega) h3 e2]; rfl, rfl⟩))
theorem need_ok (v : Bool) (a e : Int) (H : Hp) : CALL prog G 54 [.bool v, .int .i64 a, .int .i64 e] H (fun d H' => v = true ∧ d = .tup [] ∧ H' = H) (fun d H' => v = false ∧ d = fault a e ∧ H' = H) := by
 cases v
 · exact (need_f a e H).mono (fun _ _ h => h.elim) fun d H' ⟨h1, h2⟩ => ⟨rfl, h1, h2⟩
 · exact (need_t a e H).mono (fun d H' ⟨h1, h2⟩ => ⟨rfl, h1, h2⟩) fun _ _ h => h.elim
abbrev RES (α : Type) := Except (Int × Int) α
def closeF (s name : List UInt8) (i : Nat) : RES Nat :=
 let k := span isNameC s.length (s.drop i)
 bif !((s.drop i).take k == name) then .error (i, 19) else
 let j := i + k + wsN (s.drop (i + k))
 bif s.drop j == [] then .error (j, 1) else
 bif List.isPrefixOf [62] (s.drop j) then .ok (j + 1) else .error (j, 3)
def Kr1 {α : Type} (x : RES α) (f : α → DV) (at_ : α → Nat) (s : List UInt8) (b : Nat) (ty : TypeId) (H : Hp) : DV → Hp → Prop := fun d H' => ∃ v, x = .ok v ∧ d = f v ∧ H' = H.upd b (rd s (at_ v) ty)
def Kp1 {α : Type} (x : RES α) (s : List UInt8) (b : Nat) (ty : TypeId) (H : Hp) : DV → Hp → Prop := fun d H' => ∃ e j, x = .error e ∧ d = fault e.1 e.2 ∧ j ≤ s.length ∧ H' = H.upd b (rd s j ty)
theorem close_ok {b : Nat} {s name : List UInt8} {i : Nat} {ty : TypeId} {H : Hp} (hb : H b = rd s i ty) (hi : i ≤ s.length) (hs : s.length ≤ 4611686018427387904) :
  CALL prog G 116 [.ptr b 0, .str name] H (Kr1 (closeF s name i) (fun _ => .tup []) id s b ty H) (Kp1 (closeF s name i) s b ty H) := by
 have hk := span_le isNameC s.length (s.drop i)
 have hdl : (s.drop i).length = s.length - i := by simp
 generalize hkk : span isNameC s.length (s.drop i) = k at hk
 have hw := wsN_le (s.drop (i + k))
 have hdl2 : (s.drop (i + k)).length = s.length - (i + k) := by simp
 generalize hj : i + k + wsN (s.drop (i + k)) = j
 refine CALL.of cF116 (Nat.le_of_ble_eq_true rfl) ?_
 refine AC.seq (AC.reg ?_)
 refine go ?_
 refine RG.nilS (AC.seq (AC.reg ?_))
 refine go ?_
 refine RG.callR .d rfl (name_ok hb hi hs) ?_
 rw [hkk]
 refine go ?_
 refine RG.call .d rfl (need_ok ((s.drop i).take k == name) i 19 _) (fun d H' ⟨e1, e2, e3⟩ => ?_) (fun d H' ⟨e1, e2, e3⟩ => ?_)
 · subst e2; subst e3
   refine RG.nilS (AC.seq (AC.reg ?_))
   refine go ?_
   refine RG.callR .d rfl (space_ok (b := b) (s := s) (i := i + k) (ty := ty) Hp.upd_same (by omega) hs) ?_
   rw [hj, Hp.upd_upd]
   have hji : j ≤ s.length := by omega
   refine RG.nilS (AC.seq (AC.drawV [1, 7] rfl ?_))
   first|refine VD.z0 0 ?_|refine VD.z1 0 ?_|refine VD.z2 0 ?_|refine VD.z3 0 ?_|refine VD.z4 0 ?_|refine VD.z5 0 ?_
   first|refine VD.z0 3 ?_|refine VD.z1 3 ?_|refine VD.z2 3 ?_|refine VD.z3 3 ?_|refine VD.z4 3 ?_|refine VD.z5 3 ?_
   first|refine VD.z0 4 ?_|refine VD.z1 4 ?_|refine VD.z2 4 ?_|refine VD.z3 4 ?_|refine VD.z4 4 ?_|refine VD.z5 4 ?_
   first|refine VD.z0 5 ?_|refine VD.z1 5 ?_|refine VD.z2 5 ?_|refine VD.z3 5 ?_|refine VD.z4 5 ?_|refine VD.z5 5 ?_
   first|refine VD.z0 6 ?_|refine VD.z1 6 ?_|refine VD.z2 6 ?_|refine VD.z3 6 ?_|refine VD.z4 6 ?_|refine VD.z5 6 ?_
   refine VD.pe (K := fun d H' => d = .str (s.drop j) ∧ H' = H.upd b (rd s j ty)) (Kp := fun _ _ => False) 1 rfl rfl (EF.call rfl (left_ok Hp.upd_same hji)) (fun _ _ _ h => h.elim) (fun d H' ⟨f1, f2⟩ => ?_)
   subst f1; subst f2
   refine ⟨stb, ?_⟩
   first|refine VD.z0 2 ?_|refine VD.z1 2 ?_|refine VD.z2 2 ?_|refine VD.z3 2 ?_|refine VD.z4 2 ?_|refine VD.z5 2 ?_
   refine VD.pe (K := fun d H' => (!(s.drop j == [])) = true ∧ d = .tup [] ∧ H' = H.upd b (rd s j ty)) (Kp := fun d H' => (!(s.drop j == [])) = false ∧ d = fault j 1 ∧ H' = H.upd b (rd s j ty)) 7 rfl rfl (EF.call rfl (need_ok _ j 1 _)) (fun d fr' H' ⟨f1, f2, f3⟩ => ?_) (fun d H' ⟨f1, f2, f3⟩ => ?_)
   · have f4 : (s.drop j == []) = true := by
      cases h : (s.drop j == []) with
      | true => rfl
      | false => rw [h] at f1; cases f1
     exact ⟨H', SubH.refl _, (j, 1), j, by simp only [closeF, hkk, e1, hj, f4]; rfl, f2, hji, f3⟩
   · subst f2; subst f3
     refine ⟨stb, ?_⟩
     refine VD.pd rfl ?_
     refine AC.seq (AC.reg ?_)
     refine go ?_
     refine RG.nilS (AC.reg ?_)
     refine go ?_
     refine RG.callR .d rfl (has_ok (b := b) (s := s) (i := j) (ty := ty) Hp.upd_same hji (by simp; omega)) ?_
     rw [Hp.upd_upd]
     refine go ?_
     refine RG.call .d rfl (need_ok _ j 3 _) (fun d H' ⟨g1, g2, g3⟩ => ?_) (fun d H' ⟨g1, g2, g3⟩ => ?_)
     · subst g2; subst g3
       have f4 : (s.drop j == []) = false := by simpa using f1
       exact RG.nil (fin rfl ⟨j + 1, by simp [closeF, hkk, e1, hj, f4, g1], rfl, by rw [g1]; rfl⟩)
     · have f4 : (s.drop j == []) = false := by simpa using f1
       exact ⟨H', SubH.refl _, (j, 3), j, by simp [closeF, hkk, e1, hj, f4, g1], g2, hji, by rw [g3, g1]; rfl⟩
 · exact ⟨H', SubH.refl _, (i, 19), i + k, by simp [closeF, hkk, e1], e2, by omega, e3⟩
def F101 : FN := ⟨27, (.seq (.reg [ji 2 (.mv (.c (.str [])))])
 (.seq (.reg [ji 3 (.alloc [.nilp, .nils] 67)])
 (.seq (.seq (.reg [ji 6 (.mv (.t 0)), ji 7 (.s2b 5 (.t 6)), ji 8 (.len false (.t 7)), ji 9 (.mv (ci 0))])
 (.block 0 (.loop (.seq (.reg [ji 10 (.bin .lss (.t 9) (.t 8))])
 (.seq (.cond (.t 10) .skip
 (.exit 0))
 (.seq (.block 1 (.seq (.reg [ji 11 (.iadr 1 (.t 7) (.t 9)), ji 12 (.ld false 1 (.t 11)), ji 5 (.mv (.t 12))])
 (.seq (.reg [ji 13 (.mv (.t 5))])
 (.block 2 (.seq (.reg [ji 17 (.bin .eql (.t 13) (.c (.int .u8 38))), ji 16 (.mv (.t 17))])
 (.cond (.t 16) (.reg [ji 18 (.call 39 [(.t 3), (.c (.str [38, 97, 109, 112, 59]))])])
 (.seq (.reg [ji 20 (.bin .eql (.t 13) (.c (.int .u8 60))), ji 19 (.mv (.t 20))])
 (.cond (.t 19) (.reg [ji 21 (.call 39 [(.t 3), (.c (.str [38, 108, 116, 59]))])])
 (.seq (.reg [ji 23 (.bin .eql (.t 13) (.c (.int .u8 62))), ji 22 (.mv (.t 23))])
 (.cond (.t 22) (.reg [ji 24 (.call 39 [(.t 3), (.c (.str [38, 103, 116, 59]))])])
 (.reg [ji 14 (.mv (.t 5)), ji 15 (.call 44 [(.t 3), (.t 14)])])))))))))))
 (.reg [ji 25 (.bin .add (.t 9) (ci 1)), ji 9 (.mv (.t 25))])))))))
 (.seq (.reg [ji 26 (.call 42 [(.t 3)]), ji 2 (.mv (.t 26))])
 .ret)))), [.tmp 2]⟩
theorem cF101 : cFn prog 101 = some F101 := by kernel_rfl
theorem containsRune_ok (s : List UInt8) (x : Int) (h0 : 0 ≤ x) (h1 : x < 128) : PF prog G 208 [.str s, .int .i32 x] (.bool (decide (0 ≤ Lib.indexByte s x.toNat.toUInt8))) := by
 refine PF.ofBelow Go.Proofs.Tryz.func208 (by rfl) (by rfl) fun w H Z vs hr hsz hv => ?_
 obtain ⟨v, v2, rfl, k1, k2⟩ := args2 hsz hv
 obtain ⟨q, rfl, hq⟩ := k1.str_inv
 have e := k2.int_inv
 subst e
 exact (Go.Proofs.Tryz.strings_ContainsRune_ascii q x w h0 h1).mono fun e w' ⟨he, hw⟩ => ⟨_, he, fun _ _ _ => hq ▸ .bool _, hw ▸ Below.refl _ _⟩
theorem validRune_ok (x : Int) : PF prog G 209 [.int .i32 x] (.bool (Lib.validRune x)) := by
 refine PF.ofBelow Go.Proofs.Tryz.func209 (by rfl) (by rfl) fun w H Z vs hr hsz hv => ?_
 obtain ⟨v, rfl, k1⟩ := args1 hsz hv
 have e := k1.int_inv
 subst e
 exact (Go.Proofs.Tryz.utf8_ValidRune x w).mono fun e w' ⟨he, hw⟩ => ⟨_, he, fun _ _ _ => .bool _, hw ▸ Below.refl _ _⟩
theorem indexByte_ok (s : List UInt8) (c : UInt8) : PF prog G 177 [.str s, .int .u8 c.toNat] (.int .i64 (Lib.indexByte s c)) := by
 refine PF.ofBelow Go.Proofs.Tryz.func177 (by rfl) (by rfl) fun w H Z vs hr hsz hv => ?_
 obtain ⟨v, v2, rfl, k1, k2⟩ := args2 hsz hv
 obtain ⟨q, rfl, hq⟩ := k1.str_inv
 have e := k2.int_inv
 subst e
 refine (Go.Proofs.Tryz.strings_IndexByte q c.toNat w).mono fun e w' ⟨he, hw⟩ => ⟨_, he, fun _ _ _ => ?_, hw ▸ Below.refl _ _⟩
 have hc : ((c.toNat : Int)).toNat.toUInt8 = c := by simp
 rw [hq, hc]
 exact .int _ _
def esc : List UInt8 → List UInt8
 | [] => []
 | c :: l => (bif c == 38 then [38, 97, 109, 112, 59] else bif c == 60 then [38, 108, 116, 59] else bif c == 62 then [38, 103, 116, 59] else [c]) ++ esc l
theorem esc_length : ∀ (l : List UInt8), (esc l).length ≤ 5 * l.length
 | [] => Nat.le_refl _
 | c :: l => by
   have := esc_length l
   simp only [esc, List.length_append, List.length_cons]
   cases c == 38 <;> cases c == 60 <;> cases c == 62 <;> simp <;> omega
theorem u8eq (c d : UInt8) : ((c.toNat : Int) == (d.toNat : Int)) = (c == d) := by
 rw [Bool.eq_iff_iff]
 simp only [beq_iff_eq]
 constructor
 · intro h; exact UInt8.toNat.inj (by omega)
 · intro h; rw [h]
theorem Escape_ok (s : List UInt8) (hs : s.length ≤ 17592186044416) : PF prog G 101 [.str s] (.str (esc s)) := by
 intro H
 refine CALL.of cF101 (Nat.le_of_ble_eq_true rfl) ?_
 refine AC.seq (AC.reg ?_)
 refine go ?_
 refine RG.nilS (AC.seq (AC.reg ?_))
 refine RG.alloc .d fun b hb => ?_
 refine RG.nilS (AC.seq (AC.seq (AC.reg ?_)))
 refine go ?_
 refine RG.s .d (ST.s2b rfl ?_)
 refine go ?_
 refine RG.nilS ?_
 refine AC.bloopH (α := Nat) (β := Bool) (fun n => s.length - n) (fun n => [(3, .ptr b 0), (7, .lst (s.map B8) s.length 1 none), (8, .int .i64 s.length), (9, .int .i64 n)]) (fun n H' => n ≤ s.length ∧ ∃ u, BLD H b u (esc (s.take n)) H') (fun _ => [(3, .ptr b 0)]) (fun u H' => BLD H b u (esc s) H') ?_ ?_ 0 _
  ⟨Nat.zero_le _, false, .mt false hb⟩ ⟨rfl, rfl, rfl, rfl, trivial⟩
 · intro u He fr hB hfr
   refine AC.to _ hfr (AC.seq (AC.reg ?_))
   have hl := esc_length s
   refine RG.callR .d rfl (String_ok hB (by omega)) ?_
   refine go ?_
   exact RG.nilS (AC.ret (fin rfl ⟨rfl, rfl⟩))
 · intro n H' ⟨h1, u, h2⟩ ih ex
   refine AC.seq (AC.reg ?_)
   refine go ?_
   cases e1 : decide ((n : Int) < s.length)
   · have e := of_decide_eq_false e1
     have ht : s.take n = s := List.take_of_length_le (by omega)
     rw [ht] at h2
     exact RG.nilS (AC.seq (AC.cond_f rfl (AC.exit (ex u _ _ h2 ⟨rfl, trivial⟩))))
   · have e := of_decide_eq_true e1
     have hn : n < s.length := by omega
     refine RG.nilS (AC.seq (AC.cond_t rfl (AC.skip (AC.seq (AC.block (AC.seq (AC.reg ?_)))))))
     refine RG.p .d (evP_iadr wh wh (by omega)) ?_
     refine RG.p .d (evP_ldc wh (partD_one (d := B8 s[n]) (by simp [hn]))) ?_
     refine go ?_
     have hl := esc_length (s.take n)
     have hlt : (s.take n).length ≤ s.length := by simp; omega
     have hesc : esc (s.take (n + 1)) = esc (s.take n) ++ esc [s[n]] := by
      rw [List.take_succ_eq_append_getElem hn]
      generalize s.take n = l
      induction l with
      | nil => simp [esc]
      | cons c l ih => simp only [List.cons_append, esc, ih, List.append_assoc]
     have q1 : ((s[n].toNat : Int) == 38) = (s[n] == 38) := u8eq _ 38
     have q2 : ((s[n].toNat : Int) == 60) = (s[n] == 60) := u8eq _ 60
     have q3 : ((s[n].toNat : Int) == 62) = (s[n] == 62) := u8eq _ 62
     refine RG.nilS (AC.seq (AC.reg ?_))
     refine go ?_
     refine RG.nilS ?_
     refine AC.mono (Q := fun e fr H2 => e = .normal ∧ BLD H b true (esc (s.take n) ++ esc [s[n]]) H2 ∧ Agrees fr [(3, .ptr b 0), (7, .lst (s.map B8) s.length 1 none), (8, .int .i64 s.length), (9, .int .i64 n)]) ?_ ?_
     · refine AC.block (AC.seq (AC.reg ?_))
       refine go ?_
       rw [q1]
       cases c1 : s[n] == 38
       · refine RG.nilS (AC.cond_f rfl (AC.seq (AC.reg ?_)))
         refine go ?_
         rw [q2]
         cases c2 : s[n] == 60
         · refine RG.nilS (AC.cond_f rfl (AC.seq (AC.reg ?_)))
           refine go ?_
           rw [q3]
           cases c3 : s[n] == 62
           · refine RG.nilS (AC.cond_f rfl (AC.reg ?_))
             refine go ?_
             refine RG.call .d rfl (WriteByte_ok (c := s[n]) h2 (by omega)) (fun d H2 ⟨g1, g2⟩ => ?_) (fun _ _ h => h.elim)
             exact RG.nil ⟨rfl, by simpa [esc, c1, c2, c3] using g2, rfl, rfl, rfl, rfl, trivial⟩
           · refine RG.nilS (AC.cond_t rfl (AC.reg ?_))
             refine RG.call .d rfl (WriteString_ok h2 (by simp; omega)) (fun d H2 ⟨g1, g2⟩ => ?_) (fun _ _ h => h.elim)
             exact RG.nil ⟨rfl, by simpa [esc, c1, c2, c3] using g2, rfl, rfl, rfl, rfl, trivial⟩
         · refine RG.nilS (AC.cond_t rfl (AC.reg ?_))
           refine RG.call .d rfl (WriteString_ok h2 (by simp; omega)) (fun d H2 ⟨g1, g2⟩ => ?_) (fun _ _ h => h.elim)
           exact RG.nil ⟨rfl, by simpa [esc, c1, c2] using g2, rfl, rfl, rfl, rfl, trivial⟩
       · refine RG.nilS (AC.cond_t rfl (AC.reg ?_))
         refine RG.call .d rfl (WriteString_ok h2 (by simp; omega)) (fun d H2 ⟨g1, g2⟩ => ?_) (fun _ _ h => h.elim)
         exact RG.nil ⟨rfl, by simpa [esc, c1] using g2, rfl, rfl, rfl, rfl, trivial⟩
     · rintro e fr H2 ⟨rfl, hB, hfr⟩
       refine AC.to _ hfr (AC.reg ?_)
       refine go ?_
       exact RG.nil (ih (n + 1) _ ⟨by omega, true, hesc ▸ hB⟩ (by omega) _ ⟨rfl, rfl, rfl, rfl, trivial⟩)
def F174 : FN := ⟨22, (.seq (.reg [ji 4 (.mv (.c (.str [])))])
 (.seq (.block 0 (.loop (.seq (.seq (.reg [ji 5 (.mv (.t 0)), ji 6 (.len true (.t 5)), ji 7 (.bin .gtr (.t 6) (ci 0))])
 (.cond (.t 7) .skip
 (.exit 0)))
 (.block 1 (.seq (.seq (.reg [ji 8 (.mv (.t 1)), ji 9 (.mv (.t 0)), ji 10 (.mv (.t 0)), ji 11 (.len true (.t 10)), ji 12 (.bin .sub (.t 11) (ci 1)), ji 13 (.idx (.t 9) (.t 12)), ji 14 (.call 206 [(.t 8), (.t 13)]), ji 15 (.un .not (.t 14))])
 (.cond (.t 15) (.exit 0)
 .skip))
 (.reg [ji 16 (.mv (.t 0)), ji 17 (.mv (.t 0)), ji 18 (.len true (.t 17)), ji 19 (.bin .sub (.t 18) (ci 1)), ji 20 (.slcS (.t 16) none (some (.t 19))), ji 0 (.mv (.t 20))]))))))
 (.seq (.reg [ji 21 (.mv (.t 0)), ji 4 (.mv (.t 21))])
 .ret))), [.tmp 4]⟩
theorem cF174 : cFn prog 174 = some F174 := by kernel_rfl
def F117 : FN := ⟨43, (.seq (.reg [ji 4 (.mv (.c (.str [])))])
 (.seq (.seq (.reg [ji 7 (.mv (.t 0)), ji 8 (.bin .eql (.t 7) (.c (.str []))), ji 9 (.mv (.t 8)), jg 10 9 false (.mv (.t 1)), jg 11 9 false (.bin .eql (.t 10) (.c (.str []))), ji 12 (.pick (.t 9) (.c (.bool true)) (.t 11))])
 (.cond (.t 12) (.seq (.reg [ji 13 (.mv (.t 0)), ji 4 (.mv (.t 13))])
 .ret)
 .skip))
 (.seq (.seq (.reg [ji 14 (.mv (.t 1)), ji 15 (.len true (.t 14)), ji 16 (.bin .eql (.t 15) (ci 1)), ji 17 (.mv (.t 16)), jg 18 17 true (.mv (.t 1)), jg 19 17 true (.idx (.t 18) (ci 0)), jg 20 17 true (.bin .lss (.t 19) (.c (.int .u8 128))), ji 21 (.pick (.t 17) (.t 20) (.c (.bool false)))])
 (.cond (.t 21) (.seq (.draw [ji 22 (.mv (.t 0)), ji 23 (.mv (.t 1)), ji 24 (.idx (.t 23) (ci 0)), ji 25 (.call 173 [(.t 22), (.t 24)]), ji 26 (.mv (.t 1)), ji 27 (.idx (.t 26) (ci 0)), ji 28 (.call 165 [(.t 25), (.t 27)]), ji 4 (.mv (.t 28))] [[], [], [1], [0, 2], [], [4], [3, 5, 3], [6, 6, 0, 1, 2, 3, 4, 5, 6]])
 .ret)
 .skip))
 (.seq (.seq (.reg [ji 30 (.mv (.t 1)), ji 31 (.call 166 [(.t 30)]), ji 29 (.mv (.t 31)), ji 32 (.ext (.t 29) 0), ji 33 (.ext (.t 29) 1), ji 5 (.alloc [(.bool false), (.bool false), (.bool false), (.bool false), (.bool false), (.bool false), (.bool false), (.bool false), (.bool false), (.bool false), (.bool false), (.bool false), (.bool false), (.bool false), (.bool false), (.bool false), (.bool false), (.bool false), (.bool false), (.bool false), (.bool false), (.bool false), (.bool false), (.bool false), (.bool false), (.bool false), (.bool false), (.bool false), (.bool false), (.bool false), (.bool false), (.bool false), (.bool false), (.bool false), (.bool false), (.bool false), (.bool false), (.bool false), (.bool false), (.bool false), (.bool false), (.bool false), (.bool false), (.bool false), (.bool false), (.bool false), (.bool false), (.bool false), (.bool false), (.bool false), (.bool false), (.bool false), (.bool false), (.bool false), (.bool false), (.bool false), (.bool false), (.bool false), (.bool false), (.bool false), (.bool false), (.bool false), (.bool false), (.bool false), (.bool false), (.bool false), (.bool false), (.bool false), (.bool false), (.bool false), (.bool false), (.bool false), (.bool false), (.bool false), (.bool false), (.bool false), (.bool false), (.bool false), (.bool false), (.bool false), (.bool false), (.bool false), (.bool false), (.bool false), (.bool false), (.bool false), (.bool false), (.bool false), (.bool false), (.bool false), (.bool false), (.bool false), (.bool false), (.bool false), (.bool false), (.bool false), (.bool false), (.bool false), (.bool false), (.bool false), (.bool false), (.bool false), (.bool false), (.bool false), (.bool false), (.bool false), (.bool false), (.bool false), (.bool false), (.bool false), (.bool false), (.bool false), (.bool false), (.bool false), (.bool false), (.bool false), (.bool false), (.bool false), (.bool false), (.bool false), (.bool false), (.bool false), (.bool false), (.bool false), (.bool false), (.bool false), (.bool false), (.bool false), (.bool false), (.bool false), (.bool false), (.bool false), (.bool false), (.bool false), (.bool false), (.bool false), (.bool false), (.bool false), (.bool false), (.bool false), (.bool false), (.bool false), (.bool false), (.bool false), (.bool false), (.bool false), (.bool false), (.bool false), (.bool false), (.bool false), (.bool false), (.bool false), (.bool false), (.bool false), (.bool false), (.bool false), (.bool false), (.bool false), (.bool false), (.bool false), (.bool false), (.bool false), (.bool false), (.bool false), (.bool false), (.bool false), (.bool false), (.bool false), (.bool false), (.bool false), (.bool false), (.bool false), (.bool false), (.bool false), (.bool false), (.bool false), (.bool false), (.bool false), (.bool false), (.bool false), (.bool false), (.bool false), (.bool false), (.bool false), (.bool false), (.bool false), (.bool false), (.bool false), (.bool false), (.bool false), (.bool false), (.bool false), (.bool false), (.bool false), (.bool false), (.bool false), (.bool false), (.bool false), (.bool false), (.bool false), (.bool false), (.bool false), (.bool false), (.bool false), (.bool false), (.bool false), (.bool false), (.bool false), (.bool false), (.bool false), (.bool false), (.bool false), (.bool false), (.bool false), (.bool false), (.bool false), (.bool false), (.bool false), (.bool false), (.bool false), (.bool false), (.bool false), (.bool false), (.bool false), (.bool false), (.bool false), (.bool false), (.bool false), (.bool false), (.bool false), (.bool false), (.bool false), (.bool false), (.bool false), (.bool false), (.bool false), (.bool false), (.bool false), (.bool false), (.bool false), (.bool false), (.bool false), (.bool false), (.bool false), (.bool false), (.bool false), (.bool false), (.bool false), (.bool false), (.bool false), (.bool false), (.bool false), (.bool false), (.bool false), (.bool false), (.bool false)] 186), jn (.st 256 (.t 5) (.t 32)), ji 6 (.mv (.t 33))])
 (.seq (.reg [ji 34 (.mv (.t 6))])
 (.cond (.t 34) (.seq (.reg [ji 35 (.mv (.t 0)), ji 36 (.call 174 [(.t 35), (.t 5)]), ji 37 (.call 167 [(.t 36), (.t 5)]), ji 4 (.mv (.t 37))])
 .ret)
 .skip)))
 (.seq (.reg [ji 38 (.mv (.t 0)), ji 39 (.mv (.t 1)), ji 40 (.call 175 [(.t 38), (.t 39)]), ji 41 (.mv (.t 1)), ji 42 (.call 168 [(.t 40), (.t 41)]), ji 4 (.mv (.t 42))])
 .ret))))), [.tmp 4]⟩
theorem cF117 : cFn prog 117 = some F117 := by kernel_rfl
def trimR (p : UInt8 → Bool) (l : List UInt8) : List UInt8 := (l.reverse.dropWhile p).reverse
theorem nil_or_snoc (l : List UInt8) : l = [] ∨ ∃ l' c, l = l' ++ [c] := by
 rcases List.eq_nil_or_concat l with h | ⟨l', c, h⟩
 · exact .inl h
 · exact .inr ⟨l', c, by rw [h, List.concat_eq_append]⟩
theorem trimR_snoc (p : UInt8 → Bool) (l : List UInt8) (c : UInt8) : trimR p (l ++ [c]) = bif p c then trimR p l else l ++ [c] := by
 unfold trimR
 rw [List.reverse_append, List.reverse_singleton, List.singleton_append, List.dropWhile_cons]
 cases p c <;> simp
theorem trimRightASCII_ok {b : Nat} {p : UInt8 → Bool} {ty : TypeId} {H : Hp} (hb : H b = some (.cells (setOf p) ty)) (s : List UInt8) (hs : s.length ≤ 9223372036854775807) :
  CALL prog G 174 [.str s, .ptr b 0] H (fun d H' => d = .str (trimR p s) ∧ H' = H) (fun _ _ => False) := by
 refine CALL.of cF174 (Nat.le_of_ble_eq_true rfl) ?_
 refine AC.seq (AC.reg ?_)
 refine go ?_
 refine RG.nilS (AC.seq ?_)
 refine AC.bloop (α := List UInt8) (fun l => l.length) (fun l => [(0, .str l), (1, .ptr b 0)]) (fun _ => H) (fun l => trimR p l = trimR p s ∧ l.length ≤ 9223372036854775807) [(0, .str (trimR p s))] H ?_ ?_ s ⟨rfl, hs⟩ ⟨rfl, rfl, trivial⟩
 · intro fr hfr
   refine AC.to _ hfr (AC.seq (AC.reg ?_))
   refine go ?_
   exact RG.nilS (AC.ret (fin rfl ⟨rfl, rfl⟩))
 · intro l ⟨hl, hlen⟩ ih ex
   refine AC.seq (AC.seq (AC.reg ?_))
   refine go ?_
   rcases nil_or_snoc l with rfl | ⟨l', c, rfl⟩
   · exact RG.nilS (AC.cond_f rfl (AC.exit (ex _ ⟨congrArg DV.str hl, trivial⟩)))
   · have hll : (l' ++ [c]).length = l'.length + 1 := by simp
     have h0 : decide (((l' ++ [c]).length : Int) > 0) = true := by simp
     refine RG.nilS (AC.cond_t (by show DV.bool _ = _; rw [h0]) (AC.skip (AC.block (AC.seq (AC.seq (AC.reg ?_))))))
     refine go1 ?_
     refine go1 ?_
     refine go1 ?_
     refine go1 ?_
     refine RG.subI .d wh wh (by omega) ?_
     refine RG.at .d wh wh (by omega) (b := c) (by
      have : (((l' ++ [c]).length : Int) - 1).toNat = l'.length := by omega
      rw [this]; simp) ?_
     refine RG.callR .d rfl (contains_ok hb) ?_
     refine go ?_
     rw [trimR_snoc] at hl
     cases hp : p c
     · rw [hp] at hl
       refine RG.nilS (AC.cond_t rfl (AC.exit ?_))
       exact ex _ ⟨congrArg DV.str hl, trivial⟩
     · rw [hp] at hl
       refine RG.nilS (AC.cond_f rfl (AC.skip (AC.reg ?_)))
       refine go1 ?_
       refine go1 ?_
       refine go1 ?_
       refine RG.subI .d wh wh (by omega) ?_
       refine RG.upto .d wh wh (by omega) ?_
       refine go ?_
       refine RG.nil ?_
       have ht : (l' ++ [c]).take (((l' ++ [c]).length : Int) - 1).toNat = l' := by
        have : (((l' ++ [c]).length : Int) - 1).toNat = l'.length := by omega
        rw [this]; simp
       refine ih l' ⟨hl, by omega⟩ (by simp) _ ⟨congrArg DV.str ht, rfl, trivial⟩
theorem trim_ok (s cs : List UInt8) (h2 : 2 ≤ cs.length) (ha : ∀ c ∈ cs, c < 128) (hs : cs.length ≤ 4611686018427387904) (hsl : s.length ≤ 9223372036854775807) : PF prog G 117 [.str s, .str cs] (.str ((trimR cs.contains s).dropWhile cs.contains)) := by
 intro H
 refine CALL.of cF117 (Nat.le_of_ble_eq_true rfl) ?_
 have hcs : (cs == []) = false := by cases cs with
  | nil => simp at h2
  | cons => rfl
 have hl1 : ((cs.length : Int) == 1) = false := by simp; omega
 refine AC.seq (AC.reg ?_)
 refine go ?_
 refine RG.nilS (AC.seq (AC.seq (AC.reg ?_)))
 refine go ?_
 cases e : s == []
 · refine go ?_
   rw [hcs]
   refine RG.nilS (AC.cond_f rfl (AC.skip (AC.seq (AC.seq (AC.reg ?_)))))
   refine go ?_
   rw [hl1]
   refine go ?_
   refine RG.nilS (AC.cond_f rfl (AC.skip (AC.seq (AC.seq (AC.reg ?_)))))
   refine go ?_
   refine RG.callP .d rfl (makeSet_ok cs ha hs) ?_
   refine go ?_
   refine RG.alloc .d fun b hb => ?_
   refine RG.sto .d rfl Hp.upd_same rfl rfl (setOf_length _) (Nat.le_of_ble_eq_true (by kernel_rfl)) ?_
   have hsp : ∀ zs : List DV, zs.length = 256 → spliceL 0 (setOf cs.contains) zs = setOf cs.contains := fun zs hz => by
    simp only [spliceL, List.take_zero, List.nil_append, Nat.zero_add, setOf_length]
    rw [List.drop_of_length_le (by omega), List.append_nil]
   rw [Hp.upd_upd, hsp _ (by kernel_rfl)]
   refine go ?_
   refine RG.nilS (AC.seq (AC.reg ?_))
   refine go ?_
   refine RG.nilS (AC.cond_t rfl (AC.seq (AC.reg ?_)))
   refine go ?_
   refine RG.callR .d rfl (trimRightASCII_ok Hp.upd_same s hsl) ?_
   refine RG.callR .d rfl (trimLeftASCII_ok Hp.upd_same _) ?_
   refine go ?_
   exact RG.nilS (AC.ret (finD (H' := H) rfl (SubH.fresh hb) ⟨rfl, rfl⟩))
 · have : s = [] := by simpa using e
   subst this
   refine go ?_
   refine RG.nilS (AC.cond_t rfl (AC.seq (AC.reg ?_)))
   refine go ?_
   exact RG.nilS (AC.ret (fin rfl ⟨rfl, rfl⟩))
def F199 : FN := ⟨17, (.seq (.reg [ji 2 (.mv (.c (.bool false)))])
 (.seq (.reg [ji 3 (.mv (.t 0)), ji 4 (.bin .geq (.t 3) (.c (.int .u8 65))), ji 5 (.mv (.t 4)), jg 6 5 true (.mv (.t 0)), jg 7 5 true (.bin .leq (.t 6) (.c (.int .u8 90))), ji 8 (.pick (.t 5) (.t 7) (.c (.bool false))), ji 9 (.mv (.t 8)), jg 10 9 false (.mv (.t 0)), jg 11 9 false (.bin .geq (.t 10) (.c (.int .u8 97))), jg 12 9 false (.mv (.t 11)), jg 13 12 true (.mv (.t 0)), jg 14 12 true (.bin .leq (.t 13) (.c (.int .u8 122))), jg 15 9 false (.pick (.t 12) (.t 14) (.c (.bool false))), ji 16 (.pick (.t 9) (.c (.bool true)) (.t 15)), ji 2 (.mv (.t 16))])
 .ret)), [.tmp 2]⟩
theorem cF199 : cFn prog 199 = some F199 := by kernel_rfl
def F176 : FN := ⟨17, (.seq (.reg [ji 2 (.mv (.c (.bool false)))])
 (.seq (.reg [ji 3 (.mv (.t 0)), ji 4 (.bin .eql (.t 3) (.c (.int .u8 32))), ji 5 (.mv (.t 4)), jg 6 5 false (.mv (.t 0)), jg 7 5 false (.bin .eql (.t 6) (.c (.int .u8 9))), ji 8 (.pick (.t 5) (.c (.bool true)) (.t 7)), ji 9 (.mv (.t 8)), jg 10 9 false (.mv (.t 0)), jg 11 9 false (.bin .eql (.t 10) (.c (.int .u8 13))), ji 12 (.pick (.t 9) (.c (.bool true)) (.t 11)), ji 13 (.mv (.t 12)), jg 14 13 false (.mv (.t 0)), jg 15 13 false (.bin .eql (.t 14) (.c (.int .u8 10))), ji 16 (.pick (.t 13) (.c (.bool true)) (.t 15)), ji 2 (.mv (.t 16))])
 .ret)), [.tmp 2]⟩
theorem cF176 : cFn prog 176 = some F176 := by kernel_rfl
def F202 : FN := ⟨13, (.seq (.reg [ji 2 (.mv (.c (.bool false)))])
 (.seq (.reg [ji 3 (.mv (.t 0)), ji 4 (.bin .lss (.t 3) (.c (.int .u8 32))), ji 5 (.mv (.t 4)), jg 6 5 true (.mv (.t 0)), jg 7 5 true (.bin .neq (.t 6) (.c (.int .u8 9))), ji 8 (.pick (.t 5) (.t 7) (.c (.bool false))), ji 9 (.mv (.t 8)), jg 10 9 true (.mv (.t 0)), jg 11 9 true (.bin .neq (.t 10) (.c (.int .u8 10))), ji 12 (.pick (.t 9) (.t 11) (.c (.bool false))), ji 2 (.mv (.t 12))])
 .ret)), [.tmp 2]⟩
theorem cF202 : cFn prog 202 = some F202 := by kernel_rfl
def F201 : FN := ⟨14, (.seq (.reg [ji 2 (.mv (.c (.bool false)))])
 (.seq (.reg [ji 3 (.mv (.t 0)), ji 4 (.call 199 [(.t 3)]), ji 5 (.un .not (.t 4)), ji 6 (.mv (.t 5)), jg 7 6 true (.mv (.t 0)), jg 8 6 true (.bin .lss (.t 7) (.c (.int .u8 48))), jg 9 6 true (.mv (.t 8)), jg 10 9 false (.mv (.t 0)), jg 11 9 false (.bin .gtr (.t 10) (.c (.int .u8 57))), jg 12 6 true (.pick (.t 9) (.c (.bool true)) (.t 11)), ji 13 (.pick (.t 6) (.t 12) (.c (.bool false))), ji 2 (.mv (.t 13))])
 .ret)), [.tmp 2]⟩
theorem cF201 : cFn prog 201 = some F201 := by kernel_rfl
theorem treeLetter_ok (c : UInt8) : PF prog G 199 [.int .u8 c.toNat] (.bool (isLetter c)) := PF.byteTest (n := 20) cF199 (by decide) rfl (by kernel_rfl) c
theorem passed_ok (c : UInt8) : PF prog G 176 [.int .u8 c.toNat] (.bool (isWs c)) := PF.byteTest (n := 20) cF176 (by decide) rfl (by kernel_rfl) c
def isCtl (c : UInt8) : Bool := c < 32 && !(c == 9) && !(c == 10)
theorem shownC_ok (c : UInt8) : PF prog G 202 [.int .u8 c.toNat] (.bool (isCtl c)) := PF.byteTest (n := 20) cF202 (by decide) rfl (by kernel_rfl) c
theorem namedC_ok (c : UInt8) : PF prog G 201 [.int .u8 c.toNat] (.bool (!isNameC c)) := by
 intro H
 refine CALL.of cF201 (Nat.le_of_ble_eq_true rfl) ?_
 refine AC.seq (AC.reg ?_)
 refine go ?_
 refine RG.nilS (AC.seq (AC.reg ?_))
 refine go ?_
 refine RG.callP .d rfl (treeLetter_ok c) ?_
 refine go ?_
 have hd : isDigit c = (!(decide ((c.toNat : Int) < 48)) && !(decide ((c.toNat : Int) > 57))) := by
  unfold isDigit
  rw [Bool.eq_iff_iff]
  simp only [Bool.and_eq_true, decide_eq_true_eq, Bool.not_eq_true', decide_eq_false_iff_not, UInt8.le_iff_toNat_le]
  have e1 : (48 : UInt8).toNat = 48 := rfl
  have e2 : (57 : UInt8).toNat = 57 := rfl
  rw [e1, e2]
  omega
 cases hl : isLetter c
 · refine go ?_
   cases d1 : decide ((c.toNat : Int) < 48)
   · refine go ?_
     exact RG.nilS (AC.ret (fin rfl ⟨by
      show DV.bool (decide ((c.toNat : Int) > 57)) = _
      rw [isNameC, hl, hd, d1]; simp, rfl⟩))
   · refine go ?_
     exact RG.nilS (AC.ret (fin rfl ⟨by
      show DV.bool true = _
      rw [isNameC, hl, hd, d1]; simp, rfl⟩))
 · refine go ?_
   exact RG.nilS (AC.ret (fin rfl ⟨by
    show DV.bool false = _
    rw [isNameC, hl]; simp, rfl⟩))
def F227 : FN := ⟨19, (.seq (.reg [ji 4 (.mv (ci 0))])
 (.seq (.seq (.reg [ji 6 (.mv (.t 0)), ji 7 (.len false (.t 6)), ji 8 (.mv (ci 0))])
 (.block 0 (.loop (.seq (.reg [ji 9 (.bin .lss (.t 8) (.t 7))])
 (.seq (.cond (.t 9) .skip
 (.exit 0))
 (.seq (.block 1 (.seq (.reg [ji 10 (.mv (.t 8)), ji 5 (.mv (.t 10))])
 (.seq (.reg [ji 11 (.mv (.t 1)), ji 12 (.mv (.t 0)), ji 13 (.mv (.t 5)), ji 14 (.iadr 1 (.t 12) (.t 13)), ji 15 (.ld false 1 (.t 14)), ji 16 (.calv (.t 11) [(.t 15)])])
 (.cond (.t 16) (.seq (.reg [ji 17 (.mv (.t 5)), ji 4 (.mv (.t 17))])
 .ret)
 .skip))))
 (.reg [ji 18 (.bin .add (.t 8) (ci 1)), ji 8 (.mv (.t 18))])))))))
 (.seq (.reg [ji 4 (.mv (.c (.int .i64 (-1))))])
 .ret))), [.tmp 4]⟩
theorem cF227 : cFn prog 227 = some F227 := by kernel_rfl
def F200 : FN := ⟨9, (.seq (.reg [ji 4 (.mv (.c (.bool false)))])
 (.seq (.reg [ji 5 (.mv (.t 0)), ji 6 (.mv (.t 1)), ji 7 (.call 227 [(.t 5), (.t 6)]), ji 8 (.bin .geq (.t 7) (ci 0)), ji 4 (.mv (.t 8))])
 .ret)), [.tmp 4]⟩
theorem cF200 : cFn prog 200 = some F200 := by kernel_rfl
def idxF (p : UInt8 → Bool) : List UInt8 → Nat → Int
 | [], _ => -1
 | c :: l, n => bif p c then (n : Int) else idxF p l (n + 1)
theorem indexFunc_ok {f : Nat} {p : UInt8 → Bool} (hp : ∀ c : UInt8, PF prog G f [.int .u8 c.toNat] (.bool (p c))) (s : List UInt8) (hs : s.length ≤ 4611686018427387904) (tag : Option (Nat × Nat)) :
  PF prog G 227 [.lst (s.map B8) s.length 1 tag, .func (.func f) [] []] (.int .i64 (idxF p s 0)) := by
 intro H
 refine CALL.of cF227 (Nat.le_of_ble_eq_true rfl) ?_
 refine AC.seq (AC.reg ?_)
 refine go ?_
 refine RG.nilS (AC.seq (AC.seq (AC.reg ?_)))
 refine go ?_
 refine RG.nilS ?_
 refine AC.bloopH (α := Nat) (β := Unit) (fun n => s.length - n) (fun n => [(0, .lst (s.map B8) s.length 1 tag), (1, .func (.func f) [] []), (7, .int .i64 s.length), (8, .int .i64 n)]) (fun n H' => H' = H ∧ n ≤ s.length ∧ idxF p s 0 = idxF p (s.drop n) n) (fun _ => []) (fun _ H' => H' = H ∧ idxF p s 0 = -1) ?_ ?_ 0 H ⟨rfl, Nat.zero_le _, rfl⟩ ⟨rfl, rfl, rfl, rfl, trivial⟩
 · intro _ He fr ⟨h1, h2⟩ hfr
   subst h1
   refine AC.to _ hfr (AC.seq (AC.reg ?_))
   refine go ?_
   exact RG.nilS (AC.ret (fin rfl ⟨by rw [h2]; rfl, rfl⟩))
 · intro n H' ⟨h1, h2, h3⟩ ih ex
   subst h1
   refine AC.seq (AC.reg ?_)
   refine go ?_
   cases e1 : decide ((n : Int) < s.length)
   · have e := of_decide_eq_false e1
     have : s.drop n = [] := List.drop_eq_nil_of_le (by omega)
     rw [this] at h3
     exact RG.nilS (AC.seq (AC.cond_f rfl (AC.exit (ex () _ _ ⟨rfl, h3⟩ trivial))))
   · have e := of_decide_eq_true e1
     have hn : n < s.length := by omega
     rw [List.drop_eq_getElem_cons hn] at h3
     refine RG.nilS (AC.seq (AC.cond_t rfl (AC.skip (AC.seq (AC.block (AC.seq (AC.reg ?_)))))))
     refine go ?_
     refine RG.nilS (AC.seq (AC.reg ?_))
     refine go1 ?_
     refine go1 ?_
     refine go1 ?_
     refine RG.p .d (evP_iadr wh wh (by omega)) ?_
     refine RG.p .d (evP_ldc wh (partD_one (d := B8 s[n]) (by simp [hn]))) ?_
     refine RG.calvP .d rfl rfl (hp s[n]) ?_
     simp only [idxF] at h3
     cases c1 : p s[n]
     · rw [c1] at h3
       refine RG.nilS (AC.cond_f rfl (AC.skip (AC.reg ?_)))
       refine go ?_
       exact RG.nil (ih (n + 1) _ ⟨rfl, by omega, h3⟩ (by omega) _ ⟨rfl, rfl, rfl, rfl, trivial⟩)
     · rw [c1] at h3
       refine RG.nilS (AC.cond_t rfl (AC.seq (AC.reg ?_)))
       refine go ?_
       exact RG.nilS (AC.ret (fin rfl ⟨by rw [h3]; rfl, rfl⟩))
theorem idxF_any (p : UInt8 → Bool) : ∀ (l : List UInt8) (n : Nat), decide (idxF p l n ≥ 0) = l.any p
 | [], n => rfl
 | c :: l, n => by
   have ih := idxF_any p l (n + 1)
   have e : idxF p (c :: l) n = bif p c then (n : Int) else idxF p l (n + 1) := rfl
   rw [List.any_cons, e]
   cases h : p c with
   | false => rw [cond_false, ih, Bool.false_or]
   | true => rw [cond_true, Bool.true_or]; simp
theorem containsFunc_ok {f : Nat} {p : UInt8 → Bool} (hp : ∀ c : UInt8, PF prog G f [.int .u8 c.toNat] (.bool (p c))) (s : List UInt8) (hs : s.length ≤ 4611686018427387904) (tag : Option (Nat × Nat)) :
  PF prog G 200 [.lst (s.map B8) s.length 1 tag, .func (.func f) [] []] (.bool (s.any p)) := by
 intro H
 refine CALL.of cF200 (Nat.le_of_ble_eq_true rfl) ?_
 refine AC.seq (AC.reg ?_)
 refine go ?_
 refine RG.nilS (AC.seq (AC.reg ?_))
 refine go ?_
 refine RG.callP .d rfl (indexFunc_ok hp s hs tag) ?_
 refine go ?_
 exact RG.nilS (AC.ret (fin rfl ⟨congrArg DV.bool (idxF_any p s 0), rfl⟩))
def F156 : FN := ⟨21, (.seq (.reg [ji 2 (.mv (.c (.bool false)))])
 (.seq (.reg [ji 3 (.mv (.t 0)), ji 4 (.bin .neq (.t 3) (.c (.str []))), ji 5 (.mv (.t 4)), jg 6 5 true (.mv (.t 0)), jg 7 5 true (.len true (.t 6)), jg 8 5 true (.bin .leq (.t 7) (ci 32)), ji 9 (.pick (.t 5) (.t 8) (.c (.bool false))), ji 10 (.mv (.t 9)), jg 11 10 true (.mv (.t 0)), jg 12 10 true (.idx (.t 11) (ci 0)), jg 13 10 true (.call 199 [(.t 12)]), ji 14 (.pick (.t 10) (.t 13) (.c (.bool false))), ji 15 (.mv (.t 14)), jg 16 15 true (.mv (.t 0)), jg 17 15 true (.s2b 5 (.t 16)), jg 18 15 true (.call 200 [(.t 17), (.c (.func (.func 201) [] []))]), jg 19 15 true (.un .not (.t 18)), ji 20 (.pick (.t 15) (.t 19) (.c (.bool false))), ji 2 (.mv (.t 20))])
 .ret)), [.tmp 2]⟩
theorem cF156 : cFn prog 156 = some F156 := by kernel_rfl
def isName : List UInt8 → Bool
 | [] => false
 | c :: l => decide ((((c :: l).length : Nat) : Int) ≤ 32) && (isLetter c && !((c :: l).any fun c => !isNameC c))
theorem named_ok (s : List UInt8) : PF prog G 156 [.str s] (.bool (isName s)) := by
 intro H
 refine CALL.of cF156 (Nat.le_of_ble_eq_true rfl) ?_
 refine AC.seq (AC.reg ?_)
 refine go ?_
 refine RG.nilS (AC.seq (AC.reg ?_))
 cases s with
 | nil =>
   refine go ?_
   exact RG.nilS (AC.ret (fin rfl ⟨rfl, rfl⟩))
 | cons c l =>
   have e0 : (!((c :: l) == ([] : List UInt8))) = true := rfl
   refine go ?_
   cases e1 : decide ((((c :: l).length : Nat) : Int) ≤ 32)
   · refine go ?_
     exact RG.nilS (AC.ret (fin rfl ⟨by show DV.bool false = _; rw [isName, e1]; rfl, rfl⟩))
   · refine go ?_
     refine RG.callP .d rfl (treeLetter_ok c) ?_
     refine go ?_
     cases e2 : isLetter c
     · refine go ?_
       exact RG.nilS (AC.ret (fin rfl ⟨by show DV.bool false = _; rw [isName, e1, e2]; rfl, rfl⟩))
     · refine go ?_
       refine RG.s .d (ST.s2b rfl ?_)
       have hlen := of_decide_eq_true e1
       refine RG.callP .d rfl (containsFunc_ok namedC_ok (c :: l) (by omega) none) ?_
       refine go ?_
       exact RG.nilS (AC.ret (fin rfl ⟨by rw [isName, e1, e2]; rfl, rfl⟩))
end Go.Run.Tryz
