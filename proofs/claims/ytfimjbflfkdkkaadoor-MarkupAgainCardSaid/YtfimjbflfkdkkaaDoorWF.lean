/- A reader and a builder, their small steps. -/
import Derived.Test.YtfimjbflfkdkkaaDoorWD
import Derived.Test.YtfimjbflfkdkkaaDoorProg
import Derived.KernelRfl
import Derived.Test.YtfimjbflfkdkkaaDoorShelf
/- A reader's small steps. -/
namespace Go.Run.Tryd
open Go Go.Run
/-! cardcase/markup.need -/
def F24 : FN := ⟨12, (.seq (.reg [⟨(some 6), none, .mv (.t 0)⟩,
    ⟨(some 7), none, .un .not (.t 6)⟩])
  (.cond (.t 7) (.reg [⟨(some 8), none, .mv (.t 1)⟩,
    ⟨(some 9), none, .mv (.t 2)⟩,
    ⟨(some 10), none, .bld [(.int .i64 0), (.int .i64 0)] [(0, 1, (.t 8)), (1, 1, (.t 9))]⟩,
    ⟨(some 11), none, .mkif 52 (.t 10)⟩,
    ⟨none, none, .pan (.t 11)⟩])
  .skip)), []⟩
theorem cF24 : cFn Go.Proofs.Tryd.prog 24 = some F24 := by kernel_rfl
/-! (*cardcase/markup.reader).left -/
def F25 : FN := ⟨12, (.seq (.reg [⟨(some 2), none, .mv (.c (.str []))⟩])
  (.seq (.draw [⟨(some 3), none, .mv (.t 0)⟩,
    ⟨(some 4), none, .nilc (.t 3)⟩,
    ⟨(some 5), none, .fadr 0 (.t 4)⟩,
    ⟨(some 6), none, .ld false 1 (.t 5)⟩,
    ⟨(some 7), none, .mv (.t 0)⟩,
    ⟨(some 8), none, .nilc (.t 7)⟩,
    ⟨(some 9), none, .fadr 1 (.t 8)⟩,
    ⟨(some 10), none, .ld false 1 (.t 9)⟩,
    ⟨(some 11), none, .slcS (.t 6) (some (.t 10)) none⟩,
    ⟨(some 2), none, .mv (.t 11)⟩] [[], [0], [1], [2], [], [4], [5], [6], [3, 7], [8, 0, 1, 2, 3, 4, 5, 6, 7, 8]])
  .ret)), [.tmp 2]⟩
theorem cF25 : cFn Go.Proofs.Tryd.prog 25 = some F25 := by kernel_rfl
/-! (*cardcase/markup.reader).has -/
def F20 : FN := ⟨19, (.seq (.reg [⟨(some 4), none, .mv (.c (.bool false))⟩])
  (.seq (.seq (.reg [⟨(some 5), none, .mv (.t 0)⟩,
    ⟨(some 6), none, .call 25 [(.t 5)]⟩,
    ⟨(some 7), none, .mv (.t 1)⟩,
    ⟨(some 8), none, .call 39 [(.t 6), (.t 7)]⟩,
    ⟨(some 9), none, .un .not (.t 8)⟩])
  (.cond (.t 9) (.seq (.reg [⟨(some 4), none, .mv (.c (.bool false))⟩])
  .ret)
  .skip))
  (.seq (.reg [⟨(some 10), none, .mv (.t 0)⟩,
    ⟨(some 11), none, .nilc (.t 10)⟩,
    ⟨(some 12), none, .fadr 1 (.t 11)⟩,
    ⟨(some 13), none, .ld false 1 (.t 12)⟩,
    ⟨(some 14), none, .mv (.t 1)⟩,
    ⟨(some 15), none, .len true (.t 14)⟩,
    ⟨(some 16), none, .bin .add (.t 13) (.t 15)⟩,
    ⟨(some 17), none, .nilc (.t 10)⟩,
    ⟨(some 18), none, .fadr 1 (.t 17)⟩,
    ⟨none, none, .st 1 (.t 18) (.t 16)⟩])
  (.seq (.reg [⟨(some 4), none, .mv (.c (.bool true))⟩])
  .ret)))), [.tmp 4]⟩
theorem cF20 : cFn Go.Proofs.Tryd.prog 20 = some F20 := by kernel_rfl
/-! cardcase/markup.letter -/
def F43 : FN := ⟨17, (.seq (.reg [⟨(some 2), none, .mv (.c (.bool false))⟩])
  (.seq (.reg [⟨(some 3), none, .mv (.t 0)⟩,
    ⟨(some 4), none, .bin .geq (.t 3) (.c (.int .u8 65))⟩,
    ⟨(some 5), none, .mv (.t 4)⟩,
    ⟨(some 6), some (5, true), .mv (.t 0)⟩,
    ⟨(some 7), some (5, true), .bin .leq (.t 6) (.c (.int .u8 90))⟩,
    ⟨(some 8), none, .pick (.t 5) (.t 7) (.c (.bool false))⟩,
    ⟨(some 9), none, .mv (.t 8)⟩,
    ⟨(some 10), some (9, false), .mv (.t 0)⟩,
    ⟨(some 11), some (9, false), .bin .geq (.t 10) (.c (.int .u8 97))⟩,
    ⟨(some 12), some (9, false), .mv (.t 11)⟩,
    ⟨(some 13), some (12, true), .mv (.t 0)⟩,
    ⟨(some 14), some (12, true), .bin .leq (.t 13) (.c (.int .u8 122))⟩,
    ⟨(some 15), some (9, false), .pick (.t 12) (.t 14) (.c (.bool false))⟩,
    ⟨(some 16), none, .pick (.t 9) (.c (.bool true)) (.t 15)⟩,
    ⟨(some 2), none, .mv (.t 16)⟩])
  .ret)), [.tmp 2]⟩
theorem cF43 : cFn Go.Proofs.Tryd.prog 43 = some F43 := by kernel_rfl
/-! internal/stringslite.HasPrefix -/
def F59 : FN := ⟨18, (.seq (.reg [⟨(some 4), none, .mv (.c (.bool false))⟩])
  (.seq (.reg [⟨(some 5), none, .mv (.t 0)⟩,
    ⟨(some 6), none, .len true (.t 5)⟩,
    ⟨(some 7), none, .mv (.t 1)⟩,
    ⟨(some 8), none, .len true (.t 7)⟩,
    ⟨(some 9), none, .bin .geq (.t 6) (.t 8)⟩,
    ⟨(some 10), none, .mv (.t 9)⟩,
    ⟨(some 11), some (10, true), .mv (.t 0)⟩,
    ⟨(some 12), some (10, true), .mv (.t 1)⟩,
    ⟨(some 13), some (10, true), .len true (.t 12)⟩,
    ⟨(some 14), some (10, true), .slcS (.t 11) none (some (.t 13))⟩,
    ⟨(some 15), some (10, true), .mv (.t 1)⟩,
    ⟨(some 16), some (10, true), .bin .eql (.t 14) (.t 15)⟩,
    ⟨(some 17), none, .pick (.t 10) (.t 16) (.c (.bool false))⟩,
    ⟨(some 4), none, .mv (.t 17)⟩])
  .ret)), [.tmp 4]⟩
theorem cF59 : cFn Go.Proofs.Tryd.prog 59 = some F59 := by kernel_rfl
/-! strings.HasPrefix -/
def F39 : FN := ⟨8, (.seq (.reg [⟨(some 4), none, .mv (.c (.bool false))⟩])
  (.seq (.reg [⟨(some 5), none, .mv (.t 0)⟩,
    ⟨(some 6), none, .mv (.t 1)⟩,
    ⟨(some 7), none, .call 59 [(.t 5), (.t 6)]⟩,
    ⟨(some 4), none, .mv (.t 7)⟩])
  .ret)), [.tmp 4]⟩
theorem cF39 : cFn Go.Proofs.Tryd.prog 39 = some F39 := by kernel_rfl
/-! cardcase/markup.digit -/
def F67 : FN := ⟨9, (.seq (.reg [⟨(some 2), none, .mv (.c (.bool false))⟩])
  (.seq (.reg [⟨(some 3), none, .mv (.t 0)⟩,
    ⟨(some 4), none, .bin .geq (.t 3) (.c (.int .u8 48))⟩,
    ⟨(some 5), none, .mv (.t 4)⟩,
    ⟨(some 6), some (5, true), .mv (.t 0)⟩,
    ⟨(some 7), some (5, true), .bin .leq (.t 6) (.c (.int .u8 57))⟩,
    ⟨(some 8), none, .pick (.t 5) (.t 7) (.c (.bool false))⟩,
    ⟨(some 2), none, .mv (.t 8)⟩])
  .ret)), [.tmp 2]⟩
theorem cF67 : cFn Go.Proofs.Tryd.prog 67 = some F67 := by kernel_rfl
/-! (*cardcase/markup.reader).name$1 -/
def F66 : FN := ⟨9, (.seq (.reg [⟨(some 2), none, .mv (.c (.bool false))⟩])
  (.seq (.reg [⟨(some 3), none, .mv (.t 0)⟩,
    ⟨(some 4), none, .call 43 [(.t 3)]⟩,
    ⟨(some 5), none, .mv (.t 4)⟩,
    ⟨(some 6), some (5, false), .mv (.t 0)⟩,
    ⟨(some 7), some (5, false), .call 67 [(.t 6)]⟩,
    ⟨(some 8), none, .pick (.t 5) (.c (.bool true)) (.t 7)⟩,
    ⟨(some 2), none, .mv (.t 8)⟩])
  .ret)), [.tmp 2]⟩
theorem cF66 : cFn Go.Proofs.Tryd.prog 66 = some F66 := by kernel_rfl
variable {G : Gl}

theorem need_t (at_ : Int) (e : Int) : PF Go.Proofs.Tryd.prog G 24 [.bool true, .int .i64 at_, .int .i64 e] (.tup []) := by
  intro H
  refine CALL.of cF24 (Nat.le_of_ble_eq_true rfl) ?_
  refine AC.seq (AC.reg ?_)
  repeat (first | refine RG.z0 ?_ | refine RG.z1 ?_ | refine RG.z2 ?_ | refine RG.z3 ?_ | refine RG.z4 ?_ | refine RG.z5 ?_ | refine RG.z6 ?_ | refine RG.z7 ?_ | refine RG.z8 ?_ | refine RG.z9 ?_ | refine RG.zA ?_ | refine RG.zB ?_ | refine RG.zC ?_)
  refine RG.nilS (AC.cond_f rfl ?_)
  exact AC.skip (fin rfl ⟨rfl, rfl⟩)

theorem need_f (at_ : Int) (e : Int) (H : Hp) : CALL Go.Proofs.Tryd.prog G 24 [.bool false, .int .i64 at_, .int .i64 e] H (fun _ _ => False) (fun d H' => d = .iface 52 (.agg [.int .i64 at_, .int .i64 e]) ∧ H' = H) := by
  refine CALL.of cF24 (Nat.le_of_ble_eq_true rfl) ?_
  refine AC.seq (AC.reg ?_)
  repeat (first | refine RG.z0 ?_ | refine RG.z1 ?_ | refine RG.z2 ?_ | refine RG.z3 ?_ | refine RG.z4 ?_ | refine RG.z5 ?_ | refine RG.z6 ?_ | refine RG.z7 ?_ | refine RG.z8 ?_ | refine RG.z9 ?_ | refine RG.zA ?_ | refine RG.zB ?_ | refine RG.zC ?_)
  refine RG.nilS (AC.cond_t rfl (AC.reg ?_))
  repeat (first | refine RG.z0 ?_ | refine RG.z1 ?_ | refine RG.z2 ?_ | refine RG.z3 ?_ | refine RG.z4 ?_ | refine RG.z5 ?_ | refine RG.z6 ?_ | refine RG.z7 ?_ | refine RG.z8 ?_ | refine RG.z9 ?_ | refine RG.zA ?_ | refine RG.zB ?_ | refine RG.zC ?_)
  exact RG.st (ST.pan rfl ⟨H, SubH.refl H, rfl, rfl⟩)

theorem left_ok {b : Nat} {s : List UInt8} {i : Nat} {ty : TypeId} {H : Hp} (hb : H b = some (.cells [.str s, .int .i64 i] ty)) (hi : i ≤ s.length) :
    CALL Go.Proofs.Tryd.prog G 25 [.ptr b 0] H (fun d H' => d = .str (s.drop i) ∧ H' = H) (fun _ _ => False) := by
  refine CALL.of cF25 (Nat.le_of_ble_eq_true rfl) ?_
  refine AC.seq (AC.reg ?_)
  repeat (first | refine RG.z0 ?_ | refine RG.z1 ?_ | refine RG.z2 ?_ | refine RG.z3 ?_ | refine RG.z4 ?_ | refine RG.z5 ?_ | refine RG.z6 ?_ | refine RG.z7 ?_ | refine RG.z8 ?_ | refine RG.z9 ?_ | refine RG.zA ?_ | refine RG.zB ?_ | refine RG.zC ?_)
  refine RG.nilS (AC.seq (AC.drawV [] rfl ?_))
  first | refine VD.z0 0 ?_ | refine VD.z1 0 ?_ | refine VD.z2 0 ?_ | refine VD.z3 0 ?_ | refine VD.z4 0 ?_ | refine VD.z5 0 ?_
  first | refine VD.z0 1 ?_ | refine VD.z1 1 ?_ | refine VD.z2 1 ?_ | refine VD.z3 1 ?_ | refine VD.z4 1 ?_ | refine VD.z5 1 ?_
  first | refine VD.z0 2 ?_ | refine VD.z1 2 ?_ | refine VD.z2 2 ?_ | refine VD.z3 2 ?_ | refine VD.z4 2 ?_ | refine VD.z5 2 ?_
  first | refine VD.z0 3 ?_ | refine VD.z1 3 ?_ | refine VD.z2 3 ?_ | refine VD.z3 3 ?_ | refine VD.z4 3 ?_ | refine VD.z5 3 ?_
  first | refine VD.z0 4 ?_ | refine VD.z1 4 ?_ | refine VD.z2 4 ?_ | refine VD.z3 4 ?_ | refine VD.z4 4 ?_ | refine VD.z5 4 ?_
  first | refine VD.z0 5 ?_ | refine VD.z1 5 ?_ | refine VD.z2 5 ?_ | refine VD.z3 5 ?_ | refine VD.z4 5 ?_ | refine VD.z5 5 ?_
  first | refine VD.z0 6 ?_ | refine VD.z1 6 ?_ | refine VD.z2 6 ?_ | refine VD.z3 6 ?_ | refine VD.z4 6 ?_ | refine VD.z5 6 ?_
  first | refine VD.z0 7 ?_ | refine VD.z1 7 ?_ | refine VD.z2 7 ?_ | refine VD.z3 7 ?_ | refine VD.z4 7 ?_ | refine VD.z5 7 ?_
  first | refine VD.z0 8 ?_ | refine VD.z1 8 ?_ | refine VD.z2 8 ?_ | refine VD.z3 8 ?_ | refine VD.z4 8 ?_ | refine VD.z5 8 ?_
  first | refine VD.z0 9 ?_ | refine VD.z1 9 ?_ | refine VD.z2 9 ?_ | refine VD.z3 9 ?_ | refine VD.z4 9 ?_ | refine VD.z5 9 ?_
  refine VD.pd rfl ?_
  exact AC.ret (fin rfl ⟨rfl, rfl⟩)

def isLetter (c : UInt8) : Bool := (65 ≤ c && c ≤ 90) || (97 ≤ c && c ≤ 122)
def isDigit (c : UInt8) : Bool := 48 ≤ c && c ≤ 57

theorem letter_ok (c : UInt8) : PF Go.Proofs.Tryd.prog G 43 [.int .u8 c.toNat] (.bool (isLetter c)) := PF.byteTest (n := 20) cF43 (by decide) rfl (by kernel_rfl) c
theorem digit_ok (c : UInt8) : PF Go.Proofs.Tryd.prog G 67 [.int .u8 c.toNat] (.bool (isDigit c)) := PF.byteTest (n := 20) cF67 (by decide) rfl (by kernel_rfl) c

theorem nameC_ok (c : UInt8) : PF Go.Proofs.Tryd.prog G 66 [.int .u8 c.toNat] (.bool (isLetter c || isDigit c)) := by
  intro H
  refine CALL.of cF66 (Nat.le_of_ble_eq_true rfl) ?_
  refine AC.seq (AC.reg ?_)
  repeat (first | refine RG.z0 ?_ | refine RG.z1 ?_ | refine RG.z2 ?_ | refine RG.z3 ?_ | refine RG.z4 ?_ | refine RG.z5 ?_ | refine RG.z6 ?_ | refine RG.z7 ?_ | refine RG.z8 ?_ | refine RG.z9 ?_ | refine RG.zA ?_ | refine RG.zB ?_ | refine RG.zC ?_)
  refine RG.nilS (AC.seq (AC.reg ?_))
  repeat (first | refine RG.z0 ?_ | refine RG.z1 ?_ | refine RG.z2 ?_ | refine RG.z3 ?_ | refine RG.z4 ?_ | refine RG.z5 ?_ | refine RG.z6 ?_ | refine RG.z7 ?_ | refine RG.z8 ?_ | refine RG.z9 ?_ | refine RG.zA ?_ | refine RG.zB ?_ | refine RG.zC ?_)
  refine RG.callP (by first | exact trivial | exact rfl) rfl (letter_ok c) ?_
  repeat (first | refine RG.z0 ?_ | refine RG.z1 ?_ | refine RG.z2 ?_ | refine RG.z3 ?_ | refine RG.z4 ?_ | refine RG.z5 ?_ | refine RG.z6 ?_ | refine RG.z7 ?_ | refine RG.z8 ?_ | refine RG.z9 ?_ | refine RG.zA ?_ | refine RG.zB ?_ | refine RG.zC ?_)
  cases h : isLetter c
  · repeat (first | refine RG.z0 ?_ | refine RG.z1 ?_ | refine RG.z2 ?_ | refine RG.z3 ?_ | refine RG.z4 ?_ | refine RG.z5 ?_ | refine RG.z6 ?_ | refine RG.z7 ?_ | refine RG.z8 ?_ | refine RG.z9 ?_ | refine RG.zA ?_ | refine RG.zB ?_ | refine RG.zC ?_)
    refine RG.callP (by first | exact trivial | exact rfl) rfl (digit_ok c) ?_
    repeat (first | refine RG.z0 ?_ | refine RG.z1 ?_ | refine RG.z2 ?_ | refine RG.z3 ?_ | refine RG.z4 ?_ | refine RG.z5 ?_ | refine RG.z6 ?_ | refine RG.z7 ?_ | refine RG.z8 ?_ | refine RG.z9 ?_ | refine RG.zA ?_ | refine RG.zB ?_ | refine RG.zC ?_)
    exact RG.nilS (AC.ret (fin rfl ⟨rfl, rfl⟩))
  · repeat (first | refine RG.z0 ?_ | refine RG.z1 ?_ | refine RG.z2 ?_ | refine RG.z3 ?_ | refine RG.z4 ?_ | refine RG.z5 ?_ | refine RG.z6 ?_ | refine RG.z7 ?_ | refine RG.z8 ?_ | refine RG.z9 ?_ | refine RG.zA ?_ | refine RG.zB ?_ | refine RG.zC ?_)
    exact RG.nilS (AC.ret (fin rfl ⟨rfl, rfl⟩))

theorem pre_eq (s t : List UInt8) : t.isPrefixOf s = (decide ((s.length : Int) ≥ t.length) && s.take t.length == t) := by
  rw [Bool.eq_iff_iff]
  simp only [List.isPrefixOf_iff_prefix, Bool.and_eq_true, decide_eq_true_eq, beq_iff_eq]
  constructor
  · intro h
    exact ⟨by have := h.length_le; omega, (List.prefix_iff_eq_take.1 h).symm⟩
  · intro ⟨_, h⟩
    exact List.prefix_iff_eq_take.2 h.symm

theorem hasPre0_ok (s t : List UInt8) : PF Go.Proofs.Tryd.prog G 59 [.str s, .str t] (.bool (t.isPrefixOf s)) := by
  intro H
  refine CALL.of cF59 (Nat.le_of_ble_eq_true rfl) ?_
  refine AC.seq (AC.reg ?_)
  repeat (first | refine RG.z0 ?_ | refine RG.z1 ?_ | refine RG.z2 ?_ | refine RG.z3 ?_ | refine RG.z4 ?_ | refine RG.z5 ?_ | refine RG.z6 ?_ | refine RG.z7 ?_ | refine RG.z8 ?_ | refine RG.z9 ?_ | refine RG.zA ?_ | refine RG.zB ?_ | refine RG.zC ?_)
  refine RG.nilS (AC.seq (AC.reg ?_))
  repeat (first | refine RG.z0 ?_ | refine RG.z1 ?_ | refine RG.z2 ?_ | refine RG.z3 ?_ | refine RG.z4 ?_ | refine RG.z5 ?_ | refine RG.z6 ?_ | refine RG.z7 ?_ | refine RG.z8 ?_ | refine RG.z9 ?_ | refine RG.zA ?_ | refine RG.zB ?_ | refine RG.zC ?_)
  rw [pre_eq]
  cases h : decide ((s.length : Int) ≥ t.length)
  · repeat (first | refine RG.z0 ?_ | refine RG.z1 ?_ | refine RG.z2 ?_ | refine RG.z3 ?_ | refine RG.z4 ?_ | refine RG.z5 ?_ | refine RG.z6 ?_ | refine RG.z7 ?_ | refine RG.z8 ?_ | refine RG.z9 ?_ | refine RG.zA ?_ | refine RG.zB ?_ | refine RG.zC ?_)
    exact RG.nilS (AC.ret (fin rfl ⟨rfl, rfl⟩))
  · have := of_decide_eq_true h
    repeat (first | refine RG.z0 ?_ | refine RG.z1 ?_ | refine RG.z2 ?_ | refine RG.z3 ?_ | refine RG.z4 ?_ | refine RG.z5 ?_ | refine RG.z6 ?_ | refine RG.z7 ?_ | refine RG.z8 ?_ | refine RG.z9 ?_ | refine RG.zA ?_ | refine RG.zB ?_ | refine RG.zC ?_)
    exact RG.nilS (AC.ret (fin rfl ⟨rfl, rfl⟩))

theorem hasPre_ok (s t : List UInt8) : PF Go.Proofs.Tryd.prog G 39 [.str s, .str t] (.bool (t.isPrefixOf s)) := by
  intro H
  refine CALL.of cF39 (Nat.le_of_ble_eq_true rfl) ?_
  refine AC.seq (AC.reg ?_)
  repeat (first | refine RG.z0 ?_ | refine RG.z1 ?_ | refine RG.z2 ?_ | refine RG.z3 ?_ | refine RG.z4 ?_ | refine RG.z5 ?_ | refine RG.z6 ?_ | refine RG.z7 ?_ | refine RG.z8 ?_ | refine RG.z9 ?_ | refine RG.zA ?_ | refine RG.zB ?_ | refine RG.zC ?_)
  refine RG.nilS (AC.seq (AC.reg ?_))
  repeat (first | refine RG.z0 ?_ | refine RG.z1 ?_ | refine RG.z2 ?_ | refine RG.z3 ?_ | refine RG.z4 ?_ | refine RG.z5 ?_ | refine RG.z6 ?_ | refine RG.z7 ?_ | refine RG.z8 ?_ | refine RG.z9 ?_ | refine RG.zA ?_ | refine RG.zB ?_ | refine RG.zC ?_)
  refine RG.callP (by first | exact trivial | exact rfl) rfl (hasPre0_ok s t) ?_
  repeat (first | refine RG.z0 ?_ | refine RG.z1 ?_ | refine RG.z2 ?_ | refine RG.z3 ?_ | refine RG.z4 ?_ | refine RG.z5 ?_ | refine RG.z6 ?_ | refine RG.z7 ?_ | refine RG.z8 ?_ | refine RG.z9 ?_ | refine RG.zA ?_ | refine RG.zB ?_ | refine RG.zC ?_)
  exact RG.nilS (AC.ret (fin rfl ⟨rfl, rfl⟩))

/-- The reader's block. -/
def rd (s : List UInt8) (i : Nat) (ty : TypeId) : Option DO := some (.cells [.str s, .int .i64 i] ty)

theorem has_ok {b : Nat} {s t : List UInt8} {i : Nat} {ty : TypeId} {H : Hp} (hb : H b = rd s i ty) (hi : i ≤ s.length) (hs : s.length + t.length ≤ 9223372036854775807) :
    CALL Go.Proofs.Tryd.prog G 20 [.ptr b 0, .str t] H (fun d H' => d = .bool (t.isPrefixOf (s.drop i)) ∧ H' = H.upd b (rd s (bif t.isPrefixOf (s.drop i) then i + t.length else i) ty)) (fun _ _ => False) := by
  refine CALL.of cF20 (Nat.le_of_ble_eq_true rfl) ?_
  refine AC.seq (AC.reg ?_)
  repeat (first | refine RG.z0 ?_ | refine RG.z1 ?_ | refine RG.z2 ?_ | refine RG.z3 ?_ | refine RG.z4 ?_ | refine RG.z5 ?_ | refine RG.z6 ?_ | refine RG.z7 ?_ | refine RG.z8 ?_ | refine RG.z9 ?_ | refine RG.zA ?_ | refine RG.zB ?_ | refine RG.zC ?_)
  refine RG.nilS (AC.seq (AC.seq (AC.reg ?_)))
  repeat (first | refine RG.z0 ?_ | refine RG.z1 ?_ | refine RG.z2 ?_ | refine RG.z3 ?_ | refine RG.z4 ?_ | refine RG.z5 ?_ | refine RG.z6 ?_ | refine RG.z7 ?_ | refine RG.z8 ?_ | refine RG.z9 ?_ | refine RG.zA ?_ | refine RG.zB ?_ | refine RG.zC ?_)
  refine RG.callR (by first | exact trivial | exact rfl) rfl (left_ok hb hi) ?_
  repeat (first | refine RG.z0 ?_ | refine RG.z1 ?_ | refine RG.z2 ?_ | refine RG.z3 ?_ | refine RG.z4 ?_ | refine RG.z5 ?_ | refine RG.z6 ?_ | refine RG.z7 ?_ | refine RG.z8 ?_ | refine RG.z9 ?_ | refine RG.zA ?_ | refine RG.zB ?_ | refine RG.zC ?_)
  refine RG.callP (by first | exact trivial | exact rfl) rfl (hasPre_ok _ _) ?_
  repeat (first | refine RG.z0 ?_ | refine RG.z1 ?_ | refine RG.z2 ?_ | refine RG.z3 ?_ | refine RG.z4 ?_ | refine RG.z5 ?_ | refine RG.z6 ?_ | refine RG.z7 ?_ | refine RG.z8 ?_ | refine RG.z9 ?_ | refine RG.zA ?_ | refine RG.zB ?_ | refine RG.zC ?_)
  have hp : t.isPrefixOf (s.drop i) = true → i + t.length ≤ s.length := fun h => by
    have := (List.isPrefixOf_iff_prefix.1 h).length_le
    simp at this; omega
  cases h : t.isPrefixOf (s.drop i)
  · refine RG.nilS (AC.cond_t rfl (AC.seq (AC.reg ?_)))
    repeat (first | refine RG.z0 ?_ | refine RG.z1 ?_ | refine RG.z2 ?_ | refine RG.z3 ?_ | refine RG.z4 ?_ | refine RG.z5 ?_ | refine RG.z6 ?_ | refine RG.z7 ?_ | refine RG.z8 ?_ | refine RG.z9 ?_ | refine RG.zA ?_ | refine RG.zB ?_ | refine RG.zC ?_)
    exact RG.nilS (AC.ret (fin rfl ⟨rfl, (Hp.upd_id hb).symm⟩))
  · have := hp h
    refine RG.nilS (AC.cond_f rfl (AC.skip (AC.seq (AC.reg ?_))))
    repeat (first | refine RG.z0 ?_ | refine RG.z1 ?_ | refine RG.z2 ?_ | refine RG.z3 ?_ | refine RG.z4 ?_ | refine RG.z5 ?_ | refine RG.z6 ?_ | refine RG.z7 ?_ | refine RG.z8 ?_ | refine RG.z9 ?_ | refine RG.zA ?_ | refine RG.zB ?_ | refine RG.zC ?_)
    refine RG.nilS (AC.seq (AC.reg ?_))
    repeat (first | refine RG.z0 ?_ | refine RG.z1 ?_ | refine RG.z2 ?_ | refine RG.z3 ?_ | refine RG.z4 ?_ | refine RG.z5 ?_ | refine RG.z6 ?_ | refine RG.z7 ?_ | refine RG.z8 ?_ | refine RG.z9 ?_ | refine RG.zA ?_ | refine RG.zB ?_ | refine RG.zC ?_)
    exact RG.nilS (AC.ret (fin rfl ⟨rfl, rfl⟩))
end Go.Run.Tryd
/- A reader's while, name. -/
namespace Go.Run.Tryd
open Go Go.Run
/-! (*cardcase/markup.reader).while -/
def F65 : FN := ⟨40, (.seq (.reg [⟨(some 6), none, .mv (.c (.str []))⟩])
  (.seq (.reg [⟨(some 9), none, .mv (.t 0)⟩,
    ⟨(some 10), none, .call 25 [(.t 9)]⟩,
    ⟨(some 7), none, .mv (.t 10)⟩])
  (.seq (.reg [⟨(some 8), none, .mv (.c (.int .i64 0))⟩])
  (.seq (.block 0 (.loop (.seq (.seq (.reg [⟨(some 11), none, .mv (.t 8)⟩,
    ⟨(some 12), none, .mv (.t 7)⟩,
    ⟨(some 13), none, .len true (.t 12)⟩,
    ⟨(some 14), none, .bin .lss (.t 11) (.t 13)⟩,
    ⟨(some 15), none, .mv (.t 14)⟩,
    ⟨(some 16), some (15, true), .mv (.t 8)⟩,
    ⟨(some 17), some (15, true), .mv (.t 2)⟩,
    ⟨(some 18), some (15, true), .bin .lss (.t 16) (.t 17)⟩,
    ⟨(some 19), none, .pick (.t 15) (.t 18) (.c (.bool false))⟩,
    ⟨(some 20), none, .mv (.t 19)⟩,
    ⟨(some 21), some (20, true), .mv (.t 1)⟩,
    ⟨(some 22), some (20, true), .mv (.t 7)⟩,
    ⟨(some 23), some (20, true), .mv (.t 8)⟩,
    ⟨(some 24), some (20, true), .idx (.t 22) (.t 23)⟩,
    ⟨(some 25), some (20, true), .calv (.t 21) [(.t 24)]⟩,
    ⟨(some 26), none, .pick (.t 20) (.t 25) (.c (.bool false))⟩])
  (.cond (.t 26) .skip
  (.exit 0)))
  (.block 1 (.reg [⟨(some 27), none, .mv (.t 8)⟩,
    ⟨(some 28), none, .bin .add (.t 27) (.c (.int .i64 1))⟩,
    ⟨(some 8), none, .mv (.t 28)⟩])))))
  (.seq (.reg [⟨(some 29), none, .mv (.t 0)⟩,
    ⟨(some 30), none, .nilc (.t 29)⟩,
    ⟨(some 31), none, .fadr 1 (.t 30)⟩,
    ⟨(some 32), none, .ld false 1 (.t 31)⟩,
    ⟨(some 33), none, .mv (.t 8)⟩,
    ⟨(some 34), none, .bin .add (.t 32) (.t 33)⟩,
    ⟨(some 35), none, .nilc (.t 29)⟩,
    ⟨(some 36), none, .fadr 1 (.t 35)⟩,
    ⟨none, none, .st 1 (.t 36) (.t 34)⟩])
  (.seq (.reg [⟨(some 37), none, .mv (.t 7)⟩,
    ⟨(some 38), none, .mv (.t 8)⟩,
    ⟨(some 39), none, .slcS (.t 37) none (some (.t 38))⟩,
    ⟨(some 6), none, .mv (.t 39)⟩])
  .ret)))))), [.tmp 6]⟩
theorem cF65 : cFn Go.Proofs.Tryd.prog 65 = some F65 := by kernel_rfl
/-! (*cardcase/markup.reader).name -/
def F42 : FN := ⟨10, (.seq (.reg [⟨(some 2), none, .mv (.c (.str []))⟩])
  (.seq (.reg [⟨(some 3), none, .mv (.t 0)⟩,
    ⟨(some 4), none, .mv (.t 0)⟩,
    ⟨(some 5), none, .nilc (.t 4)⟩,
    ⟨(some 6), none, .fadr 0 (.t 5)⟩,
    ⟨(some 7), none, .ld false 1 (.t 6)⟩,
    ⟨(some 8), none, .len true (.t 7)⟩,
    ⟨(some 9), none, .call 65 [(.t 3), (.c (.func (.func 66) [] [])), (.t 8)]⟩,
    ⟨(some 2), none, .mv (.t 9)⟩])
  .ret)), [.tmp 2]⟩
theorem cF42 : cFn Go.Proofs.Tryd.prog 42 = some F42 := by kernel_rfl
variable {G : Gl}

/-- How many bytes ahead are so, so many at most. -/
def span (p : UInt8 → Bool) : Nat → List UInt8 → Nat
  | m + 1, c :: l => bif p c then span p m l + 1 else 0
  | _, _ => 0

theorem span_le (p : UInt8 → Bool) : ∀ (m : Nat) (l : List UInt8), span p m l ≤ l.length
  | 0, l => by simp [span]
  | m + 1, [] => by simp [span]
  | m + 1, c :: l => by
    have := span_le p m l
    simp only [span]
    cases p c <;> simp <;> omega

theorem while_ok {b f m : Nat} {s : List UInt8} {p : UInt8 → Bool} {i : Nat} {ty : TypeId} {H : Hp} (hp : ∀ c : UInt8, PF Go.Proofs.Tryd.prog G f [.int .u8 c.toNat] (.bool (p c))) (hb : H b = rd s i ty) (hi : i ≤ s.length) (hs : s.length ≤ 4611686018427387904) :
    CALL Go.Proofs.Tryd.prog G 65 [.ptr b 0, .func (.func f) [] [], .int .i64 m] H
      (fun d H' => d = .str ((s.drop i).take (span p m (s.drop i))) ∧ H' = H.upd b (rd s (i + span p m (s.drop i)) ty)) (fun _ _ => False) := by
  refine CALL.of cF65 (Nat.le_of_ble_eq_true rfl) ?_
  refine AC.seq (AC.reg ?_)
  repeat (first | refine RG.z0 ?_ | refine RG.z1 ?_ | refine RG.z2 ?_ | refine RG.z3 ?_ | refine RG.z4 ?_ | refine RG.z5 ?_ | refine RG.z6 ?_ | refine RG.z7 ?_ | refine RG.z8 ?_ | refine RG.z9 ?_ | refine RG.zA ?_ | refine RG.zB ?_ | refine RG.zC ?_)
  refine RG.nilS (AC.seq (AC.reg ?_))
  repeat (first | refine RG.z0 ?_ | refine RG.z1 ?_ | refine RG.z2 ?_ | refine RG.z3 ?_ | refine RG.z4 ?_ | refine RG.z5 ?_ | refine RG.z6 ?_ | refine RG.z7 ?_ | refine RG.z8 ?_ | refine RG.z9 ?_ | refine RG.zA ?_ | refine RG.zB ?_ | refine RG.zC ?_)
  refine RG.callR (by first | exact trivial | exact rfl) rfl (left_ok hb hi) ?_
  repeat (first | refine RG.z0 ?_ | refine RG.z1 ?_ | refine RG.z2 ?_ | refine RG.z3 ?_ | refine RG.z4 ?_ | refine RG.z5 ?_ | refine RG.z6 ?_ | refine RG.z7 ?_ | refine RG.z8 ?_ | refine RG.z9 ?_ | refine RG.zA ?_ | refine RG.zB ?_ | refine RG.zC ?_)
  refine RG.nilS (AC.seq (AC.reg ?_))
  repeat (first | refine RG.z0 ?_ | refine RG.z1 ?_ | refine RG.z2 ?_ | refine RG.z3 ?_ | refine RG.z4 ?_ | refine RG.z5 ?_ | refine RG.z6 ?_ | refine RG.z7 ?_ | refine RG.z8 ?_ | refine RG.z9 ?_ | refine RG.zA ?_ | refine RG.zB ?_ | refine RG.zC ?_)
  have hlen : (s.drop i).length ≤ 4611686018427387904 := by simp; omega
  have hli : i + (s.drop i).length = s.length := by simp; omega
  generalize hl : s.drop i = l at hlen hli ⊢
  refine RG.nilS (AC.seq ?_)
  refine AC.bloop (α := Nat) (fun n => l.length - n) (fun n => [(0, .ptr b 0), (1, .func (.func f) [] []), (2, .int .i64 m), (7, .str l), (8, .int .i64 n)]) (fun _ => H)
    (fun n => n ≤ l.length ∧ n ≤ m ∧ n + span p (m - n) (l.drop n) = span p m l) [(0, .ptr b 0), (7, .str l), (8, .int .i64 (span p m l : Nat))] H ?_ ?_ 0 ⟨by omega, by omega, by simp⟩ ⟨rfl, rfl, rfl, rfl, rfl, trivial⟩
  · intro fr hfr
    have hle := span_le p m l
    refine AC.to _ hfr (AC.seq (AC.reg ?_))
    repeat (first | refine RG.z0 ?_ | refine RG.z1 ?_ | refine RG.z2 ?_ | refine RG.z3 ?_ | refine RG.z4 ?_ | refine RG.z5 ?_ | refine RG.z6 ?_ | refine RG.z7 ?_ | refine RG.z8 ?_ | refine RG.z9 ?_ | refine RG.zA ?_ | refine RG.zB ?_ | refine RG.zC ?_)
    refine RG.nilS (AC.seq (AC.reg ?_))
    repeat (first | refine RG.z0 ?_ | refine RG.z1 ?_ | refine RG.z2 ?_ | refine RG.z3 ?_ | refine RG.z4 ?_ | refine RG.z5 ?_ | refine RG.z6 ?_ | refine RG.z7 ?_ | refine RG.z8 ?_ | refine RG.z9 ?_ | refine RG.zA ?_ | refine RG.zB ?_ | refine RG.zC ?_)
    exact RG.nilS (AC.ret (fin rfl ⟨rfl, rfl⟩))
  · intro n ⟨h1, h2, h3⟩ ih ex
    refine AC.seq (AC.seq (AC.reg ?_))
    repeat (first | refine RG.z0 ?_ | refine RG.z1 ?_ | refine RG.z2 ?_ | refine RG.z3 ?_ | refine RG.z4 ?_ | refine RG.z5 ?_ | refine RG.z6 ?_ | refine RG.z7 ?_ | refine RG.z8 ?_ | refine RG.z9 ?_ | refine RG.zA ?_ | refine RG.zB ?_ | refine RG.zC ?_)
    cases e1 : decide ((n : Int) < l.length)
    · repeat (first | refine RG.z0 ?_ | refine RG.z1 ?_ | refine RG.z2 ?_ | refine RG.z3 ?_ | refine RG.z4 ?_ | refine RG.z5 ?_ | refine RG.z6 ?_ | refine RG.z7 ?_ | refine RG.z8 ?_ | refine RG.z9 ?_ | refine RG.zA ?_ | refine RG.zB ?_ | refine RG.zC ?_)
      have e := of_decide_eq_false e1
      have : n = span p m l := by
        have : l.drop n = [] := List.drop_eq_nil_of_le (by omega)
        rw [this] at h3
        cases hm : m - n <;> rw [hm] at h3 <;> simpa [span] using h3
      exact RG.nilS (AC.cond_f rfl (AC.exit (ex _ ⟨rfl, rfl, this ▸ rfl, trivial⟩)))
    · have e := of_decide_eq_true e1
      repeat (first | refine RG.z0 ?_ | refine RG.z1 ?_ | refine RG.z2 ?_ | refine RG.z3 ?_ | refine RG.z4 ?_ | refine RG.z5 ?_ | refine RG.z6 ?_ | refine RG.z7 ?_ | refine RG.z8 ?_ | refine RG.z9 ?_ | refine RG.zA ?_ | refine RG.zB ?_ | refine RG.zC ?_)
      cases e2 : decide ((n : Int) < m)
      · repeat (first | refine RG.z0 ?_ | refine RG.z1 ?_ | refine RG.z2 ?_ | refine RG.z3 ?_ | refine RG.z4 ?_ | refine RG.z5 ?_ | refine RG.z6 ?_ | refine RG.z7 ?_ | refine RG.z8 ?_ | refine RG.z9 ?_ | refine RG.zA ?_ | refine RG.zB ?_ | refine RG.zC ?_)
        have e := of_decide_eq_false e2
        have : n = span p m l := by
          have : m - n = 0 := by omega
          rw [this] at h3
          simpa [span] using h3
        exact RG.nilS (AC.cond_f rfl (AC.exit (ex _ ⟨rfl, rfl, this ▸ rfl, trivial⟩)))
      · have e' := of_decide_eq_true e2
        repeat (first | refine RG.z0 ?_ | refine RG.z1 ?_ | refine RG.z2 ?_ | refine RG.z3 ?_ | refine RG.z4 ?_ | refine RG.z5 ?_ | refine RG.z6 ?_ | refine RG.z7 ?_ | refine RG.z8 ?_ | refine RG.z9 ?_ | refine RG.zA ?_ | refine RG.zB ?_ | refine RG.zC ?_)
        have hn : n < l.length := by omega
        refine RG.at (by first | exact trivial | exact rfl) (by conv => lhs; whnf) (by conv => lhs; whnf) (by omega) (List.getElem?_eq_getElem (by simpa using hn)) ?_
        repeat (first | refine RG.z0 ?_ | refine RG.z1 ?_ | refine RG.z2 ?_ | refine RG.z3 ?_ | refine RG.z4 ?_ | refine RG.z5 ?_ | refine RG.z6 ?_ | refine RG.z7 ?_ | refine RG.z8 ?_ | refine RG.z9 ?_ | refine RG.zA ?_ | refine RG.zB ?_ | refine RG.zC ?_)
        refine RG.calvP (by first | exact trivial | exact rfl) rfl rfl (hp _) ?_
        repeat (first | refine RG.z0 ?_ | refine RG.z1 ?_ | refine RG.z2 ?_ | refine RG.z3 ?_ | refine RG.z4 ?_ | refine RG.z5 ?_ | refine RG.z6 ?_ | refine RG.z7 ?_ | refine RG.z8 ?_ | refine RG.z9 ?_ | refine RG.zA ?_ | refine RG.zB ?_ | refine RG.zC ?_)
        obtain ⟨q, hq⟩ : ∃ q, m - n = q + 1 := ⟨m - n - 1, by omega⟩
        have hd : l.drop n = l[n] :: l.drop (n + 1) := List.drop_eq_getElem_cons hn
        rw [hq, hd] at h3
        simp only [span] at h3
        have hx : l[(n : Int).toNat]'(by simpa using hn) = l[n] := rfl
        cases e3 : p (l[(n : Int).toNat]'(by simpa using hn))
        · rw [hx] at e3
          rw [e3] at h3
          exact RG.nilS (AC.cond_f rfl (AC.exit (ex _ ⟨rfl, rfl, (by simpa using h3 : n = span p m l) ▸ rfl, trivial⟩)))
        · rw [hx] at e3
          rw [e3] at h3
          refine RG.nilS (AC.cond_t rfl (AC.skip (AC.block (AC.reg ?_))))
          repeat (first | refine RG.z0 ?_ | refine RG.z1 ?_ | refine RG.z2 ?_ | refine RG.z3 ?_ | refine RG.z4 ?_ | refine RG.z5 ?_ | refine RG.z6 ?_ | refine RG.z7 ?_ | refine RG.z8 ?_ | refine RG.z9 ?_ | refine RG.zA ?_ | refine RG.zB ?_ | refine RG.zC ?_)
          have hq' : m - (n + 1) = q := by omega
          exact RG.nil (ih (n + 1) ⟨by omega, by omega, by rw [hq']; simp at h3; omega⟩ (by omega) _ ⟨rfl, rfl, rfl, rfl, rfl, trivial⟩)

/-- A name's bytes. -/
def isNameC (c : UInt8) : Bool := isLetter c || isDigit c

theorem name_ok {b : Nat} {s : List UInt8} {i : Nat} {ty : TypeId} {H : Hp} (hb : H b = rd s i ty) (hi : i ≤ s.length) (hs : s.length ≤ 4611686018427387904) :
    CALL Go.Proofs.Tryd.prog G 42 [.ptr b 0] H
      (fun d H' => d = .str ((s.drop i).take (span isNameC s.length (s.drop i))) ∧ H' = H.upd b (rd s (i + span isNameC s.length (s.drop i)) ty)) (fun _ _ => False) := by
  refine CALL.of cF42 (Nat.le_of_ble_eq_true rfl) ?_
  refine AC.seq (AC.reg ?_)
  repeat (first | refine RG.z0 ?_ | refine RG.z1 ?_ | refine RG.z2 ?_ | refine RG.z3 ?_ | refine RG.z4 ?_ | refine RG.z5 ?_ | refine RG.z6 ?_ | refine RG.z7 ?_ | refine RG.z8 ?_ | refine RG.z9 ?_ | refine RG.zA ?_ | refine RG.zB ?_ | refine RG.zC ?_)
  refine RG.nilS (AC.seq (AC.reg ?_))
  repeat (first | refine RG.z0 ?_ | refine RG.z1 ?_ | refine RG.z2 ?_ | refine RG.z3 ?_ | refine RG.z4 ?_ | refine RG.z5 ?_ | refine RG.z6 ?_ | refine RG.z7 ?_ | refine RG.z8 ?_ | refine RG.z9 ?_ | refine RG.zA ?_ | refine RG.zB ?_ | refine RG.zC ?_)
  refine RG.callR (by first | exact trivial | exact rfl) rfl (while_ok (p := isNameC) nameC_ok hb hi hs) ?_
  repeat (first | refine RG.z0 ?_ | refine RG.z1 ?_ | refine RG.z2 ?_ | refine RG.z3 ?_ | refine RG.z4 ?_ | refine RG.z5 ?_ | refine RG.z6 ?_ | refine RG.z7 ?_ | refine RG.z8 ?_ | refine RG.z9 ?_ | refine RG.zA ?_ | refine RG.zB ?_ | refine RG.zC ?_)
  exact RG.nilS (AC.ret (fin rfl ⟨rfl, rfl⟩))
end Go.Run.Tryd
/- A reader's upto. -/
namespace Go.Run.Tryd
open Go Go.Run Go.RowKit
/-! (*cardcase/markup.reader).upto -/
def F21 : FN := ⟨36, (.seq (.reg [⟨(some 4), none, .mv (.c (.str []))⟩])
  (.seq (.reg [⟨(some 9), none, .mv (.t 0)⟩,
    ⟨(some 10), none, .call 25 [(.t 9)]⟩,
    ⟨(some 11), none, .mv (.t 1)⟩,
    ⟨(some 12), none, .call 40 [(.t 10), (.t 11)]⟩,
    ⟨(some 8), none, .mv (.t 12)⟩,
    ⟨(some 13), none, .ext (.t 8) 0⟩,
    ⟨(some 14), none, .ext (.t 8) 1⟩,
    ⟨(some 15), none, .ext (.t 8) 2⟩,
    ⟨(some 5), none, .mv (.t 13)⟩,
    ⟨(some 6), none, .mv (.t 14)⟩,
    ⟨(some 7), none, .mv (.t 15)⟩])
  (.seq (.reg [⟨(some 16), none, .mv (.t 7)⟩,
    ⟨(some 17), none, .mv (.t 0)⟩,
    ⟨(some 18), none, .nilc (.t 17)⟩,
    ⟨(some 19), none, .fadr 0 (.t 18)⟩,
    ⟨(some 20), none, .ld false 1 (.t 19)⟩,
    ⟨(some 21), none, .len true (.t 20)⟩,
    ⟨(some 22), none, .call 24 [(.t 16), (.t 21), (.c (.int .i64 1))]⟩])
  (.seq (.reg [⟨(some 23), none, .mv (.t 0)⟩,
    ⟨(some 24), none, .nilc (.t 23)⟩,
    ⟨(some 25), none, .fadr 1 (.t 24)⟩,
    ⟨(some 26), none, .ld false 1 (.t 25)⟩,
    ⟨(some 27), none, .mv (.t 5)⟩,
    ⟨(some 28), none, .len true (.t 27)⟩,
    ⟨(some 29), none, .mv (.t 1)⟩,
    ⟨(some 30), none, .len true (.t 29)⟩,
    ⟨(some 31), none, .bin .add (.t 28) (.t 30)⟩,
    ⟨(some 32), none, .bin .add (.t 26) (.t 31)⟩,
    ⟨(some 33), none, .nilc (.t 23)⟩,
    ⟨(some 34), none, .fadr 1 (.t 33)⟩,
    ⟨none, none, .st 1 (.t 34) (.t 32)⟩])
  (.seq (.reg [⟨(some 35), none, .mv (.t 5)⟩,
    ⟨(some 4), none, .mv (.t 35)⟩])
  .ret))))), [.tmp 4]⟩
theorem cF21 : cFn Go.Proofs.Tryd.prog 21 = some F21 := by kernel_rfl
variable {G : Gl}

theorem cut_ok (hG : ∃ m, G 2 = some [.int .i64 m]) (s t : List UInt8) (hs : s.length < 4294967281) :
    PF Go.Proofs.Tryd.prog G 40 [.str s, .str t] (.tup [.str (Lib.cut s t).1, .str (Lib.cut s t).2.1, .bool (Lib.cut s t).2.2]) := by
  obtain ⟨m, hm⟩ := hG
  refine PF.ofBelow Go.Proofs.Tryd.func40 (by rfl) (by rfl) fun w H Z vs hr hsz hv => ?_
  obtain ⟨v, v2, rfl, h1, h2⟩ := args2 hsz hv
  obtain ⟨x, rfl, hx⟩ := h1.str_inv
  obtain ⟨y, rfl, hy⟩ := h2.str_inv
  obtain ⟨c, hc, hc'⟩ := glob1 hr hm
  rw [hc'.int_inv] at hc
  have hlen : x.size < 4294967281 := by rw [Lib.size_eq, hx]; exact hs
  refine (Go.Proofs.Tryd.strings_Cut x y m w hlen hc).mono fun e w' ⟨he, n, hw⟩ => ⟨_, he, ?_, hw ▸ below_drewN w n⟩
  rw [hx, hy]
  refine tup_any rfl fun j v d e1 e2 w H Z => ?_
  match j, e1, e2 with
  | 0, e1, e2 => cases e1; cases e2; exact .str _ _ (by simp)
  | 1, e1, e2 => cases e1; cases e2; exact .str _ _ (by simp)
  | 2, e1, e2 => cases e1; cases e2; exact .bool _
  | j + 3, e1, e2 => cases e2

/-- The fault that a reader panics with. -/
def fault (at_ e : Int) : DV := .iface 52 (.agg [.int .i64 at_, .int .i64 e])

/-- What stands ahead of a text, and what behind it. -/
def cutO (t : List UInt8) : List UInt8 → Option (List UInt8 × List UInt8)
  | [] => bif t.isPrefixOf [] then some ([], []) else none
  | c :: l => bif t.isPrefixOf (c :: l) then some ([], (c :: l).drop t.length) else (cutO t l).map fun p => (c :: p.1, p.2)

theorem cutO_spec (t : List UInt8) : ∀ (l a b : List UInt8), cutO t l = some (a, b) → l = a ++ t ++ b
  | [], a, b, h => by
    simp only [cutO] at h
    cases hp : t.isPrefixOf [] with
    | false => rw [hp] at h; cases h
    | true =>
      rw [hp] at h; cases h
      have : t = [] := by cases t with
        | nil => rfl
        | cons x t => cases hp
      subst this; rfl
  | c :: l, a, b, h => by
    simp only [cutO] at h
    cases hp : t.isPrefixOf (c :: l) with
    | true =>
      rw [hp] at h
      simp only [cond_true, Option.some.injEq, Prod.mk.injEq] at h
      obtain ⟨rfl, rfl⟩ := h
      have := List.prefix_iff_eq_append.1 (List.isPrefixOf_iff_prefix.1 hp)
      simpa using this.symm
    | false =>
      rw [hp] at h
      simp only [cond_false, Option.map_eq_some_iff] at h
      obtain ⟨p, h1, h2⟩ := h
      cases h2
      have := cutO_spec t l p.1 p.2 h1
      rw [this]; rfl

theorem cut_cutO (t : List UInt8) : ∀ (l : List UInt8), Lib.cut l t = match cutO t l with | some (a, b) => (a, b, true) | none => (l, [], false)
  | [] => by
    simp only [cutO, Lib.cut, Lib.index]
    cases t with
    | nil => rfl
    | cons x t => rfl
  | c :: l => by
    have ih := cut_cutO t l
    simp only [Lib.cut] at ih ⊢
    have hge := Lib.index_ge l t
    cases hp : t.isPrefixOf (c :: l) with
    | true =>
      have e : Lib.index (c :: l) t = 0 := by simp only [Lib.index, hp, if_true]
      rw [e]
      simp only [cutO, hp, cond_true]
      simp
    | false =>
      have e : Lib.index (c :: l) t = if Lib.index l t == -1 then -1 else Lib.index l t + 1 := by simp only [Lib.index, hp, Bool.false_eq_true, if_false]
      rw [e]
      simp only [cutO, hp, cond_false]
      by_cases h1 : Lib.index l t = -1
      · rw [h1] at ih ⊢
        simp only [show ((-1 : Int) == -1) = true from rfl, if_true]
        have h2 : ¬ (0 : Int) ≤ -1 := by omega
        rw [if_neg h2] at ih ⊢
        cases ho : cutO t l with
        | none => rfl
        | some p => rw [ho] at ih; simp at ih
      · have h2 : (Lib.index l t == -1) = false := by simpa using h1
        rw [h2]
        simp only [Bool.false_eq_true, if_false]
        have h3 : (0 : Int) ≤ Lib.index l t := by omega
        rw [if_pos h3] at ih
        rw [if_pos (by omega)]
        cases ho : cutO t l with
        | none => rw [ho] at ih; simp at ih
        | some p =>
          rw [ho] at ih
          simp only [Prod.mk.injEq, and_true] at ih
          obtain ⟨i1, i2⟩ := ih
          have hn : (Lib.index l t + 1).toNat = (Lib.index l t).toNat + 1 := by omega
          simp only [Option.map_some, hn, Prod.mk.injEq, and_true]
          refine ⟨by rw [List.take_succ_cons, i1], ?_⟩
          rw [← i2, show (Lib.index l t).toNat + 1 + t.length = ((Lib.index l t).toNat + t.length) + 1 by omega, List.drop_succ_cons]

theorem upto_ok (hG : ∃ m, G 2 = some [.int .i64 m]) {b : Nat} {s t : List UInt8} {i : Nat} {ty : TypeId} {H : Hp} (hb : H b = rd s i ty) (hi : i ≤ s.length) (hs : s.length + t.length < 4294967281) :
    CALL Go.Proofs.Tryd.prog G 21 [.ptr b 0, .str t] H
      (fun d H' => ∃ x y, cutO t (s.drop i) = some (x, y) ∧ d = .str x ∧ H' = H.upd b (rd s (i + (x.length + t.length)) ty))
      (fun d H' => cutO t (s.drop i) = none ∧ d = fault s.length 1 ∧ H' = H) := by
  refine CALL.of cF21 (Nat.le_of_ble_eq_true rfl) ?_
  refine AC.seq (AC.reg ?_)
  repeat (first | refine RG.z0 ?_ | refine RG.z1 ?_ | refine RG.z2 ?_ | refine RG.z3 ?_ | refine RG.z4 ?_ | refine RG.z5 ?_ | refine RG.z6 ?_ | refine RG.z7 ?_ | refine RG.z8 ?_ | refine RG.z9 ?_ | refine RG.zA ?_ | refine RG.zB ?_ | refine RG.zC ?_)
  refine RG.nilS (AC.seq (AC.reg ?_))
  repeat (first | refine RG.z0 ?_ | refine RG.z1 ?_ | refine RG.z2 ?_ | refine RG.z3 ?_ | refine RG.z4 ?_ | refine RG.z5 ?_ | refine RG.z6 ?_ | refine RG.z7 ?_ | refine RG.z8 ?_ | refine RG.z9 ?_ | refine RG.zA ?_ | refine RG.zB ?_ | refine RG.zC ?_)
  refine RG.callR (by first | exact trivial | exact rfl) rfl (left_ok hb hi) ?_
  repeat (first | refine RG.z0 ?_ | refine RG.z1 ?_ | refine RG.z2 ?_ | refine RG.z3 ?_ | refine RG.z4 ?_ | refine RG.z5 ?_ | refine RG.z6 ?_ | refine RG.z7 ?_ | refine RG.z8 ?_ | refine RG.z9 ?_ | refine RG.zA ?_ | refine RG.zB ?_ | refine RG.zC ?_)
  refine RG.callP (by first | exact trivial | exact rfl) rfl (cut_ok hG _ _ (by simp; omega)) ?_
  repeat (first | refine RG.z0 ?_ | refine RG.z1 ?_ | refine RG.z2 ?_ | refine RG.z3 ?_ | refine RG.z4 ?_ | refine RG.z5 ?_ | refine RG.z6 ?_ | refine RG.z7 ?_ | refine RG.z8 ?_ | refine RG.z9 ?_ | refine RG.zA ?_ | refine RG.zB ?_ | refine RG.zC ?_)
  have hdl : (s.drop i).length = s.length - i := by simp
  cases ho : cutO t (s.drop i) with
  | none =>
    rw [show Lib.cut (s.drop i) t = (s.drop i, [], false) by rw [cut_cutO, ho]]
    refine RG.nilS (AC.seq (AC.reg ?_))
    repeat (first | refine RG.z0 ?_ | refine RG.z1 ?_ | refine RG.z2 ?_ | refine RG.z3 ?_ | refine RG.z4 ?_ | refine RG.z5 ?_ | refine RG.z6 ?_ | refine RG.z7 ?_ | refine RG.z8 ?_ | refine RG.z9 ?_ | refine RG.zA ?_ | refine RG.zB ?_ | refine RG.zC ?_)
    refine RG.call (by first | exact trivial | exact rfl) rfl (need_f _ _ H) (fun _ _ h => h.elim) fun d H' ⟨e1, e2⟩ => ?_
    exact ⟨H', SubH.refl _, rfl, e1, e2⟩
  | some p =>
    obtain ⟨x, y⟩ := p
    rw [show Lib.cut (s.drop i) t = (x, y, true) by rw [cut_cutO, ho]]
    dsimp only
    have hl := congrArg List.length (cutO_spec t _ x y ho)
    simp only [List.length_append] at hl
    refine RG.nilS (AC.seq (AC.reg ?_))
    repeat (first | refine RG.z0 ?_ | refine RG.z1 ?_ | refine RG.z2 ?_ | refine RG.z3 ?_ | refine RG.z4 ?_ | refine RG.z5 ?_ | refine RG.z6 ?_ | refine RG.z7 ?_ | refine RG.z8 ?_ | refine RG.z9 ?_ | refine RG.zA ?_ | refine RG.zB ?_ | refine RG.zC ?_)
    refine RG.callP (by first | exact trivial | exact rfl) rfl (need_t _ _) ?_
    repeat (first | refine RG.z0 ?_ | refine RG.z1 ?_ | refine RG.z2 ?_ | refine RG.z3 ?_ | refine RG.z4 ?_ | refine RG.z5 ?_ | refine RG.z6 ?_ | refine RG.z7 ?_ | refine RG.z8 ?_ | refine RG.z9 ?_ | refine RG.zA ?_ | refine RG.zB ?_ | refine RG.zC ?_)
    refine RG.nilS (AC.seq (AC.reg ?_))
    repeat (first | refine RG.z0 ?_ | refine RG.z1 ?_ | refine RG.z2 ?_ | refine RG.z3 ?_ | refine RG.z4 ?_ | refine RG.z5 ?_ | refine RG.z6 ?_ | refine RG.z7 ?_ | refine RG.z8 ?_ | refine RG.z9 ?_ | refine RG.zA ?_ | refine RG.zB ?_ | refine RG.zC ?_)
    refine RG.nilS (AC.seq (AC.reg ?_))
    repeat (first | refine RG.z0 ?_ | refine RG.z1 ?_ | refine RG.z2 ?_ | refine RG.z3 ?_ | refine RG.z4 ?_ | refine RG.z5 ?_ | refine RG.z6 ?_ | refine RG.z7 ?_ | refine RG.z8 ?_ | refine RG.z9 ?_ | refine RG.zA ?_ | refine RG.zB ?_ | refine RG.zC ?_)
    exact RG.nilS (AC.ret (fin rfl ⟨x, y, rfl, rfl, rfl⟩))
end Go.Run.Tryd
/- A reader's space. -/
namespace Go.Run.Tryd
open Go Go.Run
/-! (*strings.asciiSet).contains -/
def F81 : FN := ⟨10, (.seq (.reg [⟨(some 4), none, .mv (.c (.bool false))⟩])
  (.seq (.reg [⟨(some 5), none, .mv (.t 0)⟩,
    ⟨(some 6), none, .mv (.t 1)⟩,
    ⟨(some 7), none, .nilc (.t 5)⟩,
    ⟨(some 8), none, .iadrA 256 1 (.t 7) (.t 6)⟩,
    ⟨(some 9), none, .ld false 1 (.t 8)⟩,
    ⟨(some 4), none, .mv (.t 9)⟩])
  .ret)), [.tmp 4]⟩
theorem cF81 : cFn Go.Proofs.Tryd.prog 81 = some F81 := by kernel_rfl
/-! strings.trimLeftASCII -/
def F63 : FN := ⟨16, (.seq (.reg [⟨(some 4), none, .mv (.c (.str []))⟩])
  (.seq (.block 0 (.loop (.seq (.seq (.reg [⟨(some 5), none, .mv (.t 0)⟩,
    ⟨(some 6), none, .len true (.t 5)⟩,
    ⟨(some 7), none, .bin .gtr (.t 6) (.c (.int .i64 0))⟩])
  (.cond (.t 7) .skip
  (.exit 0)))
  (.block 1 (.seq (.seq (.reg [⟨(some 8), none, .mv (.t 1)⟩,
    ⟨(some 9), none, .mv (.t 0)⟩,
    ⟨(some 10), none, .idx (.t 9) (.c (.int .i64 0))⟩,
    ⟨(some 11), none, .call 81 [(.t 8), (.t 10)]⟩,
    ⟨(some 12), none, .un .not (.t 11)⟩])
  (.cond (.t 12) (.exit 0)
  .skip))
  (.reg [⟨(some 13), none, .mv (.t 0)⟩,
    ⟨(some 14), none, .slcS (.t 13) (some (.c (.int .i64 1))) none⟩,
    ⟨(some 0), none, .mv (.t 14)⟩]))))))
  (.seq (.reg [⟨(some 15), none, .mv (.t 0)⟩,
    ⟨(some 4), none, .mv (.t 15)⟩])
  .ret))), [.tmp 4]⟩
theorem cF63 : cFn Go.Proofs.Tryd.prog 63 = some F63 := by kernel_rfl
/-! strings.makeASCIISet -/
def F62 : FN := ⟨21, (.seq (.reg [⟨(some 2), none, .alloc [(.bool false), (.bool false), (.bool false), (.bool false), (.bool false), (.bool false), (.bool false), (.bool false), (.bool false), (.bool false), (.bool false), (.bool false), (.bool false), (.bool false), (.bool false), (.bool false), (.bool false), (.bool false), (.bool false), (.bool false), (.bool false), (.bool false), (.bool false), (.bool false), (.bool false), (.bool false), (.bool false), (.bool false), (.bool false), (.bool false), (.bool false), (.bool false), (.bool false), (.bool false), (.bool false), (.bool false), (.bool false), (.bool false), (.bool false), (.bool false), (.bool false), (.bool false), (.bool false), (.bool false), (.bool false), (.bool false), (.bool false), (.bool false), (.bool false), (.bool false), (.bool false), (.bool false), (.bool false), (.bool false), (.bool false), (.bool false), (.bool false), (.bool false), (.bool false), (.bool false), (.bool false), (.bool false), (.bool false), (.bool false), (.bool false), (.bool false), (.bool false), (.bool false), (.bool false), (.bool false), (.bool false), (.bool false), (.bool false), (.bool false), (.bool false), (.bool false), (.bool false), (.bool false), (.bool false), (.bool false), (.bool false), (.bool false), (.bool false), (.bool false), (.bool false), (.bool false), (.bool false), (.bool false), (.bool false), (.bool false), (.bool false), (.bool false), (.bool false), (.bool false), (.bool false), (.bool false), (.bool false), (.bool false), (.bool false), (.bool false), (.bool false), (.bool false), (.bool false), (.bool false), (.bool false), (.bool false), (.bool false), (.bool false), (.bool false), (.bool false), (.bool false), (.bool false), (.bool false), (.bool false), (.bool false), (.bool false), (.bool false), (.bool false), (.bool false), (.bool false), (.bool false), (.bool false), (.bool false), (.bool false), (.bool false), (.bool false), (.bool false), (.bool false), (.bool false), (.bool false), (.bool false), (.bool false), (.bool false), (.bool false), (.bool false), (.bool false), (.bool false), (.bool false), (.bool false), (.bool false), (.bool false), (.bool false), (.bool false), (.bool false), (.bool false), (.bool false), (.bool false), (.bool false), (.bool false), (.bool false), (.bool false), (.bool false), (.bool false), (.bool false), (.bool false), (.bool false), (.bool false), (.bool false), (.bool false), (.bool false), (.bool false), (.bool false), (.bool false), (.bool false), (.bool false), (.bool false), (.bool false), (.bool false), (.bool false), (.bool false), (.bool false), (.bool false), (.bool false), (.bool false), (.bool false), (.bool false), (.bool false), (.bool false), (.bool false), (.bool false), (.bool false), (.bool false), (.bool false), (.bool false), (.bool false), (.bool false), (.bool false), (.bool false), (.bool false), (.bool false), (.bool false), (.bool false), (.bool false), (.bool false), (.bool false), (.bool false), (.bool false), (.bool false), (.bool false), (.bool false), (.bool false), (.bool false), (.bool false), (.bool false), (.bool false), (.bool false), (.bool false), (.bool false), (.bool false), (.bool false), (.bool false), (.bool false), (.bool false), (.bool false), (.bool false), (.bool false), (.bool false), (.bool false), (.bool false), (.bool false), (.bool false), (.bool false), (.bool false), (.bool false), (.bool false), (.bool false), (.bool false), (.bool false), (.bool false), (.bool false), (.bool false), (.bool false), (.bool false), (.bool false), (.bool false), (.bool false), (.bool false), (.bool false), (.bool false), (.bool false), (.bool false), (.bool false), (.bool false), (.bool false), (.bool false), (.bool false), (.bool false), (.bool false), (.bool false), (.bool false), (.bool false), (.bool false), (.bool false), (.bool false), (.bool false), (.bool false)] 94⟩,
    ⟨(some 3), none, .mv (.c (.bool false))⟩])
  (.seq (.seq (.reg [⟨(some 4), none, .mv (.c (.int .i64 0))⟩])
  (.block 0 (.loop (.seq (.seq (.reg [⟨(some 6), none, .mv (.t 4)⟩,
    ⟨(some 7), none, .mv (.t 0)⟩,
    ⟨(some 8), none, .len true (.t 7)⟩,
    ⟨(some 9), none, .bin .lss (.t 6) (.t 8)⟩])
  (.cond (.t 9) .skip
  (.exit 0)))
  (.seq (.block 1 (.seq (.reg [⟨(some 12), none, .mv (.t 0)⟩,
    ⟨(some 13), none, .mv (.t 4)⟩,
    ⟨(some 14), none, .idx (.t 12) (.t 13)⟩,
    ⟨(some 5), none, .mv (.t 14)⟩])
  (.seq (.seq (.reg [⟨(some 15), none, .mv (.t 5)⟩,
    ⟨(some 16), none, .bin .geq (.t 15) (.c (.int .u8 128))⟩])
  (.cond (.t 16) (.seq (.reg [⟨(some 17), none, .ld true 256 (.t 2)⟩,
    ⟨none, none, .st 256 (.t 2) (.t 17)⟩,
    ⟨(some 3), none, .mv (.c (.bool false))⟩])
  .ret)
  .skip))
  (.reg [⟨(some 18), none, .mv (.t 5)⟩,
    ⟨(some 19), none, .iadrA 256 1 (.t 2) (.t 18)⟩,
    ⟨none, none, .st 1 (.t 19) (.c (.bool true))⟩]))))
  (.reg [⟨(some 10), none, .mv (.t 4)⟩,
    ⟨(some 11), none, .bin .add (.t 10) (.c (.int .i64 1))⟩,
    ⟨(some 4), none, .mv (.t 11)⟩]))))))
  (.seq (.reg [⟨(some 20), none, .ld true 256 (.t 2)⟩,
    ⟨none, none, .st 256 (.t 2) (.t 20)⟩,
    ⟨(some 3), none, .mv (.c (.bool true))⟩])
  .ret))), [.cell 2 true 256, .tmp 3]⟩
theorem cF62 : cFn Go.Proofs.Tryd.prog 62 = some F62 := by kernel_rfl
/-! strings.TrimLeft -/
def F41 : FN := ⟨37, (.seq (.reg [⟨(some 4), none, .mv (.c (.str []))⟩])
  (.seq (.seq (.reg [⟨(some 7), none, .mv (.t 0)⟩,
    ⟨(some 8), none, .bin .eql (.t 7) (.c (.str []))⟩,
    ⟨(some 9), none, .mv (.t 8)⟩,
    ⟨(some 10), some (9, false), .mv (.t 1)⟩,
    ⟨(some 11), some (9, false), .bin .eql (.t 10) (.c (.str []))⟩,
    ⟨(some 12), none, .pick (.t 9) (.c (.bool true)) (.t 11)⟩])
  (.cond (.t 12) (.seq (.reg [⟨(some 13), none, .mv (.t 0)⟩,
    ⟨(some 4), none, .mv (.t 13)⟩])
  .ret)
  .skip))
  (.seq (.seq (.reg [⟨(some 14), none, .mv (.t 1)⟩,
    ⟨(some 15), none, .len true (.t 14)⟩,
    ⟨(some 16), none, .bin .eql (.t 15) (.c (.int .i64 1))⟩,
    ⟨(some 17), none, .mv (.t 16)⟩,
    ⟨(some 18), some (17, true), .mv (.t 1)⟩,
    ⟨(some 19), some (17, true), .idx (.t 18) (.c (.int .i64 0))⟩,
    ⟨(some 20), some (17, true), .bin .lss (.t 19) (.c (.int .u8 128))⟩,
    ⟨(some 21), none, .pick (.t 17) (.t 20) (.c (.bool false))⟩])
  (.cond (.t 21) (.seq (.reg [⟨(some 22), none, .mv (.t 0)⟩,
    ⟨(some 23), none, .mv (.t 1)⟩,
    ⟨(some 24), none, .idx (.t 23) (.c (.int .i64 0))⟩,
    ⟨(some 25), none, .call 61 [(.t 22), (.t 24)]⟩,
    ⟨(some 4), none, .mv (.t 25)⟩])
  .ret)
  .skip))
  (.seq (.seq (.reg [⟨(some 27), none, .mv (.t 1)⟩,
    ⟨(some 28), none, .call 62 [(.t 27)]⟩,
    ⟨(some 26), none, .mv (.t 28)⟩,
    ⟨(some 29), none, .ext (.t 26) 0⟩,
    ⟨(some 30), none, .ext (.t 26) 1⟩,
    ⟨(some 5), none, .alloc [(.bool false), (.bool false), (.bool false), (.bool false), (.bool false), (.bool false), (.bool false), (.bool false), (.bool false), (.bool false), (.bool false), (.bool false), (.bool false), (.bool false), (.bool false), (.bool false), (.bool false), (.bool false), (.bool false), (.bool false), (.bool false), (.bool false), (.bool false), (.bool false), (.bool false), (.bool false), (.bool false), (.bool false), (.bool false), (.bool false), (.bool false), (.bool false), (.bool false), (.bool false), (.bool false), (.bool false), (.bool false), (.bool false), (.bool false), (.bool false), (.bool false), (.bool false), (.bool false), (.bool false), (.bool false), (.bool false), (.bool false), (.bool false), (.bool false), (.bool false), (.bool false), (.bool false), (.bool false), (.bool false), (.bool false), (.bool false), (.bool false), (.bool false), (.bool false), (.bool false), (.bool false), (.bool false), (.bool false), (.bool false), (.bool false), (.bool false), (.bool false), (.bool false), (.bool false), (.bool false), (.bool false), (.bool false), (.bool false), (.bool false), (.bool false), (.bool false), (.bool false), (.bool false), (.bool false), (.bool false), (.bool false), (.bool false), (.bool false), (.bool false), (.bool false), (.bool false), (.bool false), (.bool false), (.bool false), (.bool false), (.bool false), (.bool false), (.bool false), (.bool false), (.bool false), (.bool false), (.bool false), (.bool false), (.bool false), (.bool false), (.bool false), (.bool false), (.bool false), (.bool false), (.bool false), (.bool false), (.bool false), (.bool false), (.bool false), (.bool false), (.bool false), (.bool false), (.bool false), (.bool false), (.bool false), (.bool false), (.bool false), (.bool false), (.bool false), (.bool false), (.bool false), (.bool false), (.bool false), (.bool false), (.bool false), (.bool false), (.bool false), (.bool false), (.bool false), (.bool false), (.bool false), (.bool false), (.bool false), (.bool false), (.bool false), (.bool false), (.bool false), (.bool false), (.bool false), (.bool false), (.bool false), (.bool false), (.bool false), (.bool false), (.bool false), (.bool false), (.bool false), (.bool false), (.bool false), (.bool false), (.bool false), (.bool false), (.bool false), (.bool false), (.bool false), (.bool false), (.bool false), (.bool false), (.bool false), (.bool false), (.bool false), (.bool false), (.bool false), (.bool false), (.bool false), (.bool false), (.bool false), (.bool false), (.bool false), (.bool false), (.bool false), (.bool false), (.bool false), (.bool false), (.bool false), (.bool false), (.bool false), (.bool false), (.bool false), (.bool false), (.bool false), (.bool false), (.bool false), (.bool false), (.bool false), (.bool false), (.bool false), (.bool false), (.bool false), (.bool false), (.bool false), (.bool false), (.bool false), (.bool false), (.bool false), (.bool false), (.bool false), (.bool false), (.bool false), (.bool false), (.bool false), (.bool false), (.bool false), (.bool false), (.bool false), (.bool false), (.bool false), (.bool false), (.bool false), (.bool false), (.bool false), (.bool false), (.bool false), (.bool false), (.bool false), (.bool false), (.bool false), (.bool false), (.bool false), (.bool false), (.bool false), (.bool false), (.bool false), (.bool false), (.bool false), (.bool false), (.bool false), (.bool false), (.bool false), (.bool false), (.bool false), (.bool false), (.bool false), (.bool false), (.bool false), (.bool false), (.bool false), (.bool false), (.bool false), (.bool false), (.bool false), (.bool false), (.bool false), (.bool false), (.bool false), (.bool false), (.bool false), (.bool false), (.bool false), (.bool false), (.bool false), (.bool false), (.bool false), (.bool false), (.bool false), (.bool false)] 94⟩,
    ⟨none, none, .st 256 (.t 5) (.t 29)⟩,
    ⟨(some 6), none, .mv (.t 30)⟩])
  (.seq (.reg [⟨(some 31), none, .mv (.t 6)⟩])
  (.cond (.t 31) (.seq (.reg [⟨(some 32), none, .mv (.t 0)⟩,
    ⟨(some 33), none, .call 63 [(.t 32), (.t 5)]⟩,
    ⟨(some 4), none, .mv (.t 33)⟩])
  .ret)
  .skip)))
  (.seq (.reg [⟨(some 34), none, .mv (.t 0)⟩,
    ⟨(some 35), none, .mv (.t 1)⟩,
    ⟨(some 36), none, .call 64 [(.t 34), (.t 35)]⟩,
    ⟨(some 4), none, .mv (.t 36)⟩])
  .ret))))), [.tmp 4]⟩
theorem cF41 : cFn Go.Proofs.Tryd.prog 41 = some F41 := by kernel_rfl
/-! (*cardcase/markup.reader).space -/
def F22 : FN := ⟨22, (.seq (.reg [⟨(some 2), none, .mv (.c (.bool false))⟩])
  (.seq (.reg [⟨(some 4), none, .mv (.t 0)⟩,
    ⟨(some 5), none, .call 25 [(.t 4)]⟩,
    ⟨(some 6), none, .len true (.t 5)⟩,
    ⟨(some 7), none, .mv (.t 0)⟩,
    ⟨(some 8), none, .call 25 [(.t 7)]⟩,
    ⟨(some 9), none, .call 41 [(.t 8), (.c (.str [32, 9, 10, 13]))]⟩,
    ⟨(some 10), none, .len true (.t 9)⟩,
    ⟨(some 11), none, .bin .sub (.t 6) (.t 10)⟩,
    ⟨(some 3), none, .mv (.t 11)⟩])
  (.seq (.reg [⟨(some 12), none, .mv (.t 0)⟩,
    ⟨(some 13), none, .nilc (.t 12)⟩,
    ⟨(some 14), none, .fadr 1 (.t 13)⟩,
    ⟨(some 15), none, .ld false 1 (.t 14)⟩,
    ⟨(some 16), none, .mv (.t 3)⟩,
    ⟨(some 17), none, .bin .add (.t 15) (.t 16)⟩,
    ⟨(some 18), none, .nilc (.t 12)⟩,
    ⟨(some 19), none, .fadr 1 (.t 18)⟩,
    ⟨none, none, .st 1 (.t 19) (.t 17)⟩])
  (.seq (.reg [⟨(some 20), none, .mv (.t 3)⟩,
    ⟨(some 21), none, .bin .gtr (.t 20) (.c (.int .i64 0))⟩,
    ⟨(some 2), none, .mv (.t 21)⟩])
  .ret)))), [.tmp 2]⟩
theorem cF22 : cFn Go.Proofs.Tryd.prog 22 = some F22 := by kernel_rfl
variable {G : Gl}

/-- A set of bytes, as the library keeps it. -/
def setOf (p : UInt8 → Bool) : List DV := (List.range 256).map fun k => .bool (p (UInt8.ofNat k))

theorem setOf_get (p : UInt8 → Bool) (c : UInt8) : (setOf p)[c.toNat]? = some (.bool (p c)) := by
  have h : c.toNat < 256 := c.toNat_lt
  simp [setOf, h]

theorem setOf_length (p : UInt8 → Bool) : (setOf p).length = 256 := by simp [setOf]

theorem contains_ok {b : Nat} {p : UInt8 → Bool} {c : UInt8} {ty : TypeId} {H : Hp} (hb : H b = some (.cells (setOf p) ty)) :
    CALL Go.Proofs.Tryd.prog G 81 [.ptr b 0, .int .u8 c.toNat] H (fun d H' => d = .bool (p c) ∧ H' = H) (fun _ _ => False) := by
  have hc : c.toNat < 256 := c.toNat_lt
  refine CALL.of cF81 (Nat.le_of_ble_eq_true rfl) ?_
  refine AC.seq (AC.reg ?_)
  repeat (first | refine RG.z0 ?_ | refine RG.z1 ?_ | refine RG.z2 ?_ | refine RG.z3 ?_ | refine RG.z4 ?_ | refine RG.z5 ?_ | refine RG.z6 ?_ | refine RG.z7 ?_ | refine RG.z8 ?_ | refine RG.z9 ?_ | refine RG.zA ?_ | refine RG.zB ?_ | refine RG.zC ?_)
  refine RG.nilS (AC.seq (AC.reg ?_))
  (first | refine RG.z0 ?_ | refine RG.z1 ?_ | refine RG.z2 ?_ | refine RG.z3 ?_ | refine RG.z4 ?_ | refine RG.z5 ?_ | refine RG.z6 ?_ | refine RG.z7 ?_ | refine RG.z8 ?_ | refine RG.z9 ?_ | refine RG.zA ?_ | refine RG.zB ?_ | refine RG.zC ?_)
  (first | refine RG.z0 ?_ | refine RG.z1 ?_ | refine RG.z2 ?_ | refine RG.z3 ?_ | refine RG.z4 ?_ | refine RG.z5 ?_ | refine RG.z6 ?_ | refine RG.z7 ?_ | refine RG.z8 ?_ | refine RG.z9 ?_ | refine RG.zA ?_ | refine RG.zB ?_ | refine RG.zC ?_)
  (first | refine RG.z0 ?_ | refine RG.z1 ?_ | refine RG.z2 ?_ | refine RG.z3 ?_ | refine RG.z4 ?_ | refine RG.z5 ?_ | refine RG.z6 ?_ | refine RG.z7 ?_ | refine RG.z8 ?_ | refine RG.z9 ?_ | refine RG.zA ?_ | refine RG.zB ?_ | refine RG.zC ?_)
  refine RG.p (by first | exact trivial | exact rfl) (evP_iadrA (by conv => lhs; whnf) (by conv => lhs; whnf) (by omega)) ?_
  refine RG.ld (by first | exact trivial | exact rfl) (by conv => lhs; whnf) hb (d := .bool (p c)) (by
    show (setOf p)[0 + ((c.toNat : Nat) : Int).toNat * 1]? = _
    rw [Nat.zero_add, Nat.mul_one]; exact setOf_get p c) ?_
  repeat (first | refine RG.z0 ?_ | refine RG.z1 ?_ | refine RG.z2 ?_ | refine RG.z3 ?_ | refine RG.z4 ?_ | refine RG.z5 ?_ | refine RG.z6 ?_ | refine RG.z7 ?_ | refine RG.z8 ?_ | refine RG.z9 ?_ | refine RG.zA ?_ | refine RG.zB ?_ | refine RG.zC ?_)
  exact RG.nilS (AC.ret (fin rfl ⟨rfl, rfl⟩))

theorem trimLeftASCII_ok {b : Nat} {p : UInt8 → Bool} {ty : TypeId} {H : Hp} (hb : H b = some (.cells (setOf p) ty)) (s : List UInt8) :
    CALL Go.Proofs.Tryd.prog G 63 [.str s, .ptr b 0] H (fun d H' => d = .str (s.dropWhile p) ∧ H' = H) (fun _ _ => False) := by
  refine CALL.of cF63 (Nat.le_of_ble_eq_true rfl) ?_
  refine AC.seq (AC.reg ?_)
  repeat (first | refine RG.z0 ?_ | refine RG.z1 ?_ | refine RG.z2 ?_ | refine RG.z3 ?_ | refine RG.z4 ?_ | refine RG.z5 ?_ | refine RG.z6 ?_ | refine RG.z7 ?_ | refine RG.z8 ?_ | refine RG.z9 ?_ | refine RG.zA ?_ | refine RG.zB ?_ | refine RG.zC ?_)
  refine RG.nilS (AC.seq ?_)
  refine AC.bloop (α := List UInt8) (fun l => l.length) (fun l => [(0, .str l), (1, .ptr b 0)]) (fun _ => H) (fun l => l.dropWhile p = s.dropWhile p) [(0, .str (s.dropWhile p))] H ?_ ?_ s rfl ⟨rfl, rfl, trivial⟩
  · intro fr hfr
    refine AC.to _ hfr (AC.seq (AC.reg ?_))
    repeat (first | refine RG.z0 ?_ | refine RG.z1 ?_ | refine RG.z2 ?_ | refine RG.z3 ?_ | refine RG.z4 ?_ | refine RG.z5 ?_ | refine RG.z6 ?_ | refine RG.z7 ?_ | refine RG.z8 ?_ | refine RG.z9 ?_ | refine RG.zA ?_ | refine RG.zB ?_ | refine RG.zC ?_)
    exact RG.nilS (AC.ret (fin rfl ⟨rfl, rfl⟩))
  · intro l hl ih ex
    refine AC.seq (AC.seq (AC.reg ?_))
    repeat (first | refine RG.z0 ?_ | refine RG.z1 ?_ | refine RG.z2 ?_ | refine RG.z3 ?_ | refine RG.z4 ?_ | refine RG.z5 ?_ | refine RG.z6 ?_ | refine RG.z7 ?_ | refine RG.z8 ?_ | refine RG.z9 ?_ | refine RG.zA ?_ | refine RG.zB ?_ | refine RG.zC ?_)
    cases l with
    | nil => exact RG.nilS (AC.cond_f rfl (AC.exit (ex _ ⟨congrArg DV.str hl, trivial⟩)))
    | cons c l =>
      have h0 : decide (((c :: l).length : Int) > 0) = true := by simp
      refine RG.nilS (AC.cond_t (by show DV.bool _ = _; rw [h0]) (AC.skip (AC.block (AC.seq (AC.seq (AC.reg ?_))))))
      (first | refine RG.z0 ?_ | refine RG.z1 ?_ | refine RG.z2 ?_ | refine RG.z3 ?_ | refine RG.z4 ?_ | refine RG.z5 ?_ | refine RG.z6 ?_ | refine RG.z7 ?_ | refine RG.z8 ?_ | refine RG.z9 ?_ | refine RG.zA ?_ | refine RG.zB ?_ | refine RG.zC ?_)
      (first | refine RG.z0 ?_ | refine RG.z1 ?_ | refine RG.z2 ?_ | refine RG.z3 ?_ | refine RG.z4 ?_ | refine RG.z5 ?_ | refine RG.z6 ?_ | refine RG.z7 ?_ | refine RG.z8 ?_ | refine RG.z9 ?_ | refine RG.zA ?_ | refine RG.zB ?_ | refine RG.zC ?_)
      refine RG.at (by first | exact trivial | exact rfl) (by conv => lhs; whnf) (by conv => lhs; whnf) (by omega) (b := c) rfl ?_
      refine RG.callR (by first | exact trivial | exact rfl) rfl (contains_ok hb) ?_
      repeat (first | refine RG.z0 ?_ | refine RG.z1 ?_ | refine RG.z2 ?_ | refine RG.z3 ?_ | refine RG.z4 ?_ | refine RG.z5 ?_ | refine RG.z6 ?_ | refine RG.z7 ?_ | refine RG.z8 ?_ | refine RG.z9 ?_ | refine RG.zA ?_ | refine RG.zB ?_ | refine RG.zC ?_)
      cases hp : p c
      · refine RG.nilS (AC.cond_t rfl (AC.exit ?_))
        have : (c :: l) = s.dropWhile p := by rw [← hl]; simp [hp]
        exact ex _ ⟨congrArg DV.str this, trivial⟩
      · refine RG.nilS (AC.cond_f rfl (AC.skip (AC.reg ?_)))
        repeat (first | refine RG.z0 ?_ | refine RG.z1 ?_ | refine RG.z2 ?_ | refine RG.z3 ?_ | refine RG.z4 ?_ | refine RG.z5 ?_ | refine RG.z6 ?_ | refine RG.z7 ?_ | refine RG.z8 ?_ | refine RG.z9 ?_ | refine RG.zA ?_ | refine RG.zB ?_ | refine RG.zC ?_)
        refine RG.nil ?_
        refine ih l ?_ (by simp) _ ⟨rfl, rfl, trivial⟩
        rw [← hl]; simp [hp]

theorem setOf_put (p : UInt8 → Bool) (c : UInt8) : spliceL (0 + c.toNat * 1) [.bool true] (setOf p) = setOf fun x => x == c || p x := by
  have hc : c.toNat < 256 := c.toNat_lt
  rw [Nat.zero_add, Nat.mul_one]
  apply List.ext_getElem?
  intro j
  have hl : ((setOf p).take c.toNat).length = c.toNat := by rw [List.length_take, setOf_length]; omega
  unfold spliceL
  by_cases hj : j < 256
  · have hR : (setOf fun x => x == c || p x)[j]? = some (.bool (UInt8.ofNat j == c || p (UInt8.ofNat j))) := by simp [setOf, hj]
    rw [hR, List.append_assoc, List.getElem?_append, hl]
    by_cases h1 : j < c.toNat
    · rw [if_pos h1, List.getElem?_take, if_pos h1]
      have hne : (UInt8.ofNat j == c) = false := by
        rw [beq_eq_false_iff_ne]
        intro e
        have := congrArg UInt8.toNat e
        rw [UInt8.toNat_ofNat'] at this
        omega
      rw [hne]
      simp [setOf, hj]
    · rw [if_neg h1]
      by_cases h2 : j = c.toNat
      · subst h2
        simp
      · obtain ⟨k, hk⟩ : ∃ k, j - c.toNat = k + 1 := ⟨j - c.toNat - 1, by omega⟩
        rw [hk]
        simp only [List.cons_append, List.nil_append, List.getElem?_cons_succ, List.getElem?_drop, List.length_singleton]
        have hne : (UInt8.ofNat j == c) = false := by
          rw [beq_eq_false_iff_ne]
          intro e
          have := congrArg UInt8.toNat e
          rw [UInt8.toNat_ofNat'] at this
          omega
        rw [hne, show c.toNat + 1 + k = j by omega]
        simp [setOf, hj]
  · have h1 : (setOf fun x => x == c || p x)[j]? = none := by simp [setOf]; omega
    rw [h1, List.getElem?_eq_none]
    simp only [List.length_append, List.length_singleton, hl, List.length_drop, setOf_length]
    omega

theorem makeSet_ok (cs : List UInt8) (ha : ∀ c ∈ cs, c < 128) (hs : cs.length ≤ 4611686018427387904) :
    PF Go.Proofs.Tryd.prog G 62 [.str cs] (.tup [.agg (setOf cs.contains), .bool true]) := by
  intro H
  refine CALL.of cF62 (Nat.le_of_ble_eq_true rfl) ?_
  refine AC.seq (AC.reg ?_)
  refine RG.alloc (by first | exact trivial | exact rfl) fun b hb => ?_
  repeat (first | refine RG.z0 ?_ | refine RG.z1 ?_ | refine RG.z2 ?_ | refine RG.z3 ?_ | refine RG.z4 ?_ | refine RG.z5 ?_ | refine RG.z6 ?_ | refine RG.z7 ?_ | refine RG.z8 ?_ | refine RG.z9 ?_ | refine RG.zA ?_ | refine RG.zB ?_ | refine RG.zC ?_)
  refine RG.nilS (AC.seq (AC.seq (AC.reg ?_)))
  repeat (first | refine RG.z0 ?_ | refine RG.z1 ?_ | refine RG.z2 ?_ | refine RG.z3 ?_ | refine RG.z4 ?_ | refine RG.z5 ?_ | refine RG.z6 ?_ | refine RG.z7 ?_ | refine RG.z8 ?_ | refine RG.z9 ?_ | refine RG.zA ?_ | refine RG.zB ?_ | refine RG.zC ?_)
  refine RG.nilS ?_
  have hz : (List.map (fun _ => DV.bool false) (List.range 256)) = setOf fun c => (cs.take 0).contains c := by simp [setOf]
  have hz2 : ∀ zs, zs = (List.map (fun _ => DV.bool false) (List.range 256)) → H.upd b (some (.cells zs 94)) = H.upd b (some (.cells (setOf fun c => (cs.take 0).contains c) 94)) := fun zs h => by rw [h, hz]
  rw [hz2 _ (by kernel_rfl)]
  refine AC.bloop (α := Nat) (fun n => cs.length - n) (fun n => [(0, .str cs), (2, .ptr b 0), (4, .int .i64 n)]) (fun n => H.upd b (some (.cells (setOf fun c => (cs.take n).contains c) 94))) (fun n => n ≤ cs.length)
    [(2, .ptr b 0)] (H.upd b (some (.cells (setOf cs.contains) 94))) ?_ ?_ 0 (Nat.zero_le _) ⟨rfl, rfl, rfl, trivial⟩
  · intro fr hfr
    refine AC.to _ hfr (AC.seq (AC.reg ?_))
    have hp : partD true 0 256 (setOf cs.contains) = some (.agg (setOf cs.contains)) := by
      simp only [partD, if_true, setOf_length]
      rw [if_pos (by omega), List.drop_zero, List.take_of_length_le (by rw [setOf_length]; omega)]
    refine RG.ld (by first | exact trivial | exact rfl) rfl Hp.upd_same hp ?_
    refine RG.sto (by first | exact trivial | exact rfl) rfl Hp.upd_same rfl rfl (setOf_length _) (by rw [setOf_length]; omega) ?_
    have hsp : spliceL 0 (setOf cs.contains) (setOf cs.contains) = setOf cs.contains := by
      simp only [spliceL, List.take_zero, List.nil_append, Nat.zero_add]
      rw [List.drop_length, List.append_nil]
    rw [Hp.upd_upd, hsp]
    repeat (first | refine RG.z0 ?_ | refine RG.z1 ?_ | refine RG.z2 ?_ | refine RG.z3 ?_ | refine RG.z4 ?_ | refine RG.z5 ?_ | refine RG.z6 ?_ | refine RG.z7 ?_ | refine RG.z8 ?_ | refine RG.z9 ?_ | refine RG.zA ?_ | refine RG.zB ?_ | refine RG.zC ?_)
    refine RG.nilS (AC.ret (finD (ds := [.agg (setOf cs.contains), .bool true]) (H' := H) ?_ (SubH.fresh hb) ⟨rfl, rfl⟩))
    show (ldD _ true 256 (.ptr b 0)).bind _ = _
    simp only [ldD, Hp.upd_same, hp, Option.bind_some]
    rfl
  · intro n hn ih ex
    refine AC.seq (AC.seq (AC.reg ?_))
    repeat (first | refine RG.z0 ?_ | refine RG.z1 ?_ | refine RG.z2 ?_ | refine RG.z3 ?_ | refine RG.z4 ?_ | refine RG.z5 ?_ | refine RG.z6 ?_ | refine RG.z7 ?_ | refine RG.z8 ?_ | refine RG.z9 ?_ | refine RG.zA ?_ | refine RG.zB ?_ | refine RG.zC ?_)
    cases e1 : decide ((n : Int) < cs.length)
    · have e := of_decide_eq_false e1
      have : cs.take n = cs := List.take_of_length_le (by omega)
      refine RG.nilS (AC.cond_f rfl (AC.exit ?_))
      rw [this] at *
      exact ex _ ⟨rfl, trivial⟩
    · have e := of_decide_eq_true e1
      have hn' : n < cs.length := by omega
      refine RG.nilS (AC.cond_t rfl (AC.skip (AC.seq (AC.block (AC.seq (AC.reg ?_))))))
      (first | refine RG.z0 ?_ | refine RG.z1 ?_ | refine RG.z2 ?_ | refine RG.z3 ?_ | refine RG.z4 ?_ | refine RG.z5 ?_ | refine RG.z6 ?_ | refine RG.z7 ?_ | refine RG.z8 ?_ | refine RG.z9 ?_ | refine RG.zA ?_ | refine RG.zB ?_ | refine RG.zC ?_)
      (first | refine RG.z0 ?_ | refine RG.z1 ?_ | refine RG.z2 ?_ | refine RG.z3 ?_ | refine RG.z4 ?_ | refine RG.z5 ?_ | refine RG.z6 ?_ | refine RG.z7 ?_ | refine RG.z8 ?_ | refine RG.z9 ?_ | refine RG.zA ?_ | refine RG.zB ?_ | refine RG.zC ?_)
      refine RG.at (by first | exact trivial | exact rfl) (by conv => lhs; whnf) (by conv => lhs; whnf) (by omega) (b := cs[n]) (by simp [hn']) ?_
      repeat (first | refine RG.z0 ?_ | refine RG.z1 ?_ | refine RG.z2 ?_ | refine RG.z3 ?_ | refine RG.z4 ?_ | refine RG.z5 ?_ | refine RG.z6 ?_ | refine RG.z7 ?_ | refine RG.z8 ?_ | refine RG.z9 ?_ | refine RG.zA ?_ | refine RG.zB ?_ | refine RG.zC ?_)
      have hc : cs[n].toNat < 128 := by
        have := ha cs[n] (List.getElem_mem hn')
        simpa [UInt8.lt_iff_toNat_lt] using this
      have hcd : decide ((cs[n].toNat : Int) ≥ 128) = false := by simp; omega
      refine RG.nilS (AC.seq (AC.seq (AC.reg ?_)))
      repeat (first | refine RG.z0 ?_ | refine RG.z1 ?_ | refine RG.z2 ?_ | refine RG.z3 ?_ | refine RG.z4 ?_ | refine RG.z5 ?_ | refine RG.z6 ?_ | refine RG.z7 ?_ | refine RG.z8 ?_ | refine RG.z9 ?_ | refine RG.zA ?_ | refine RG.zB ?_ | refine RG.zC ?_)
      refine RG.nilS (AC.cond_f (by show DV.bool _ = _; rw [hcd]) (AC.skip (AC.reg ?_)))
      (first | refine RG.z0 ?_ | refine RG.z1 ?_ | refine RG.z2 ?_ | refine RG.z3 ?_ | refine RG.z4 ?_ | refine RG.z5 ?_ | refine RG.z6 ?_ | refine RG.z7 ?_ | refine RG.z8 ?_ | refine RG.z9 ?_ | refine RG.zA ?_ | refine RG.zB ?_ | refine RG.zC ?_)
      refine RG.p (by first | exact trivial | exact rfl) (evP_iadrA (by conv => lhs; whnf) (by conv => lhs; whnf) (by omega)) ?_
      refine RG.sto (by first | exact trivial | exact rfl) (by conv => lhs; whnf) Hp.upd_same (by conv => lhs; whnf) rfl rfl (by simp only [setOf_length, Int.toNat_natCast]; omega) ?_
      refine RG.nil (AC.reg ?_)
      repeat (first | refine RG.z0 ?_ | refine RG.z1 ?_ | refine RG.z2 ?_ | refine RG.z3 ?_ | refine RG.z4 ?_ | refine RG.z5 ?_ | refine RG.z6 ?_ | refine RG.z7 ?_ | refine RG.z8 ?_ | refine RG.z9 ?_ | refine RG.zA ?_ | refine RG.zB ?_ | refine RG.zC ?_)
      refine RG.nil ?_
      rw [Hp.upd_upd]
      have hput : spliceL (0 + ((cs[n].toNat : Nat) : Int).toNat * 1) [.bool true] (setOf fun c => (cs.take n).contains c) = setOf fun c => (cs.take (n + 1)).contains c := by
        rw [Int.toNat_natCast, setOf_put]
        congr 1
        funext x
        rw [List.take_succ_eq_append_getElem hn', List.contains_append]
        by_cases hx : x = cs[n] <;> simp [hx, Bool.or_comm]
      rw [hput]
      exact ih (n + 1) (by omega) (by omega) _ ⟨rfl, rfl, rfl, trivial⟩

theorem trimLeft_ok (s cs : List UInt8) (h2 : 2 ≤ cs.length) (ha : ∀ c ∈ cs, c < 128) (hs : cs.length ≤ 4611686018427387904) : PF Go.Proofs.Tryd.prog G 41 [.str s, .str cs] (.str (s.dropWhile cs.contains)) := by
  intro H
  refine CALL.of cF41 (Nat.le_of_ble_eq_true rfl) ?_
  have hcs : (cs == []) = false := by cases cs with
    | nil => simp at h2
    | cons => rfl
  have hl1 : ((cs.length : Int) == 1) = false := by simp; omega
  refine AC.seq (AC.reg ?_)
  repeat (first | refine RG.z0 ?_ | refine RG.z1 ?_ | refine RG.z2 ?_ | refine RG.z3 ?_ | refine RG.z4 ?_ | refine RG.z5 ?_ | refine RG.z6 ?_ | refine RG.z7 ?_ | refine RG.z8 ?_ | refine RG.z9 ?_ | refine RG.zA ?_ | refine RG.zB ?_ | refine RG.zC ?_)
  refine RG.nilS (AC.seq (AC.seq (AC.reg ?_)))
  repeat (first | refine RG.z0 ?_ | refine RG.z1 ?_ | refine RG.z2 ?_ | refine RG.z3 ?_ | refine RG.z4 ?_ | refine RG.z5 ?_ | refine RG.z6 ?_ | refine RG.z7 ?_ | refine RG.z8 ?_ | refine RG.z9 ?_ | refine RG.zA ?_ | refine RG.zB ?_ | refine RG.zC ?_)
  cases e : s == []
  · repeat (first | refine RG.z0 ?_ | refine RG.z1 ?_ | refine RG.z2 ?_ | refine RG.z3 ?_ | refine RG.z4 ?_ | refine RG.z5 ?_ | refine RG.z6 ?_ | refine RG.z7 ?_ | refine RG.z8 ?_ | refine RG.z9 ?_ | refine RG.zA ?_ | refine RG.zB ?_ | refine RG.zC ?_)
    rw [hcs]
    refine RG.nilS (AC.cond_f rfl (AC.skip (AC.seq (AC.seq (AC.reg ?_)))))
    repeat (first | refine RG.z0 ?_ | refine RG.z1 ?_ | refine RG.z2 ?_ | refine RG.z3 ?_ | refine RG.z4 ?_ | refine RG.z5 ?_ | refine RG.z6 ?_ | refine RG.z7 ?_ | refine RG.z8 ?_ | refine RG.z9 ?_ | refine RG.zA ?_ | refine RG.zB ?_ | refine RG.zC ?_)
    rw [hl1]
    repeat (first | refine RG.z0 ?_ | refine RG.z1 ?_ | refine RG.z2 ?_ | refine RG.z3 ?_ | refine RG.z4 ?_ | refine RG.z5 ?_ | refine RG.z6 ?_ | refine RG.z7 ?_ | refine RG.z8 ?_ | refine RG.z9 ?_ | refine RG.zA ?_ | refine RG.zB ?_ | refine RG.zC ?_)
    refine RG.nilS (AC.cond_f rfl (AC.skip (AC.seq (AC.seq (AC.reg ?_)))))
    repeat (first | refine RG.z0 ?_ | refine RG.z1 ?_ | refine RG.z2 ?_ | refine RG.z3 ?_ | refine RG.z4 ?_ | refine RG.z5 ?_ | refine RG.z6 ?_ | refine RG.z7 ?_ | refine RG.z8 ?_ | refine RG.z9 ?_ | refine RG.zA ?_ | refine RG.zB ?_ | refine RG.zC ?_)
    refine RG.callP (by first | exact trivial | exact rfl) rfl (makeSet_ok cs ha hs) ?_
    repeat (first | refine RG.z0 ?_ | refine RG.z1 ?_ | refine RG.z2 ?_ | refine RG.z3 ?_ | refine RG.z4 ?_ | refine RG.z5 ?_ | refine RG.z6 ?_ | refine RG.z7 ?_ | refine RG.z8 ?_ | refine RG.z9 ?_ | refine RG.zA ?_ | refine RG.zB ?_ | refine RG.zC ?_)
    refine RG.alloc (by first | exact trivial | exact rfl) fun b hb => ?_
    refine RG.sto (by first | exact trivial | exact rfl) rfl Hp.upd_same rfl rfl (setOf_length _) (Nat.le_of_ble_eq_true (by kernel_rfl)) ?_
    have hsp : ∀ zs : List DV, zs.length = 256 → spliceL 0 (setOf cs.contains) zs = setOf cs.contains := fun zs hz => by
      simp only [spliceL, List.take_zero, List.nil_append, Nat.zero_add, setOf_length]
      rw [List.drop_of_length_le (by omega), List.append_nil]
    rw [Hp.upd_upd, hsp _ (by kernel_rfl)]
    repeat (first | refine RG.z0 ?_ | refine RG.z1 ?_ | refine RG.z2 ?_ | refine RG.z3 ?_ | refine RG.z4 ?_ | refine RG.z5 ?_ | refine RG.z6 ?_ | refine RG.z7 ?_ | refine RG.z8 ?_ | refine RG.z9 ?_ | refine RG.zA ?_ | refine RG.zB ?_ | refine RG.zC ?_)
    refine RG.nilS (AC.seq (AC.reg ?_))
    repeat (first | refine RG.z0 ?_ | refine RG.z1 ?_ | refine RG.z2 ?_ | refine RG.z3 ?_ | refine RG.z4 ?_ | refine RG.z5 ?_ | refine RG.z6 ?_ | refine RG.z7 ?_ | refine RG.z8 ?_ | refine RG.z9 ?_ | refine RG.zA ?_ | refine RG.zB ?_ | refine RG.zC ?_)
    refine RG.nilS (AC.cond_t rfl (AC.seq (AC.reg ?_)))
    repeat (first | refine RG.z0 ?_ | refine RG.z1 ?_ | refine RG.z2 ?_ | refine RG.z3 ?_ | refine RG.z4 ?_ | refine RG.z5 ?_ | refine RG.z6 ?_ | refine RG.z7 ?_ | refine RG.z8 ?_ | refine RG.z9 ?_ | refine RG.zA ?_ | refine RG.zB ?_ | refine RG.zC ?_)
    refine RG.callR (by first | exact trivial | exact rfl) rfl (trimLeftASCII_ok Hp.upd_same s) ?_
    repeat (first | refine RG.z0 ?_ | refine RG.z1 ?_ | refine RG.z2 ?_ | refine RG.z3 ?_ | refine RG.z4 ?_ | refine RG.z5 ?_ | refine RG.z6 ?_ | refine RG.z7 ?_ | refine RG.z8 ?_ | refine RG.z9 ?_ | refine RG.zA ?_ | refine RG.zB ?_ | refine RG.zC ?_)
    exact RG.nilS (AC.ret (finD (H' := H) rfl (SubH.fresh hb) ⟨rfl, rfl⟩))
  · have : s = [] := by simpa using e
    subst this
    repeat (first | refine RG.z0 ?_ | refine RG.z1 ?_ | refine RG.z2 ?_ | refine RG.z3 ?_ | refine RG.z4 ?_ | refine RG.z5 ?_ | refine RG.z6 ?_ | refine RG.z7 ?_ | refine RG.z8 ?_ | refine RG.z9 ?_ | refine RG.zA ?_ | refine RG.zB ?_ | refine RG.zC ?_)
    refine RG.nilS (AC.cond_t rfl (AC.seq (AC.reg ?_)))
    repeat (first | refine RG.z0 ?_ | refine RG.z1 ?_ | refine RG.z2 ?_ | refine RG.z3 ?_ | refine RG.z4 ?_ | refine RG.z5 ?_ | refine RG.z6 ?_ | refine RG.z7 ?_ | refine RG.z8 ?_ | refine RG.z9 ?_ | refine RG.zA ?_ | refine RG.zB ?_ | refine RG.zC ?_)
    exact RG.nilS (AC.ret (fin rfl ⟨rfl, rfl⟩))

/-- Space. -/
def isWs (c : UInt8) : Bool := List.contains [32, 9, 10, 13] c

/-- How much space there is ahead. -/
def wsN (l : List UInt8) : Nat := l.length - (l.dropWhile isWs).length

theorem wsN_le (l : List UInt8) : wsN l ≤ l.length := Nat.sub_le _ _

theorem space_ok {b : Nat} {s : List UInt8} {i : Nat} {ty : TypeId} {H : Hp} (hb : H b = rd s i ty) (hi : i ≤ s.length) (hs : s.length ≤ 4611686018427387904) :
    CALL Go.Proofs.Tryd.prog G 22 [.ptr b 0] H
      (fun d H' => d = .bool (decide (0 < wsN (s.drop i))) ∧ H' = H.upd b (rd s (i + wsN (s.drop i)) ty)) (fun _ _ => False) := by
  have hdl : (s.drop i).length = s.length - i := by simp
  have hle : ((s.drop i).dropWhile isWs).length ≤ (s.drop i).length := (List.dropWhile_sublist _).length_le
  refine CALL.of cF22 (Nat.le_of_ble_eq_true rfl) ?_
  refine AC.seq (AC.reg ?_)
  repeat (first | refine RG.z0 ?_ | refine RG.z1 ?_ | refine RG.z2 ?_ | refine RG.z3 ?_ | refine RG.z4 ?_ | refine RG.z5 ?_ | refine RG.z6 ?_ | refine RG.z7 ?_ | refine RG.z8 ?_ | refine RG.z9 ?_ | refine RG.zA ?_ | refine RG.zB ?_ | refine RG.zC ?_)
  refine RG.nilS (AC.seq (AC.reg ?_))
  repeat (first | refine RG.z0 ?_ | refine RG.z1 ?_ | refine RG.z2 ?_ | refine RG.z3 ?_ | refine RG.z4 ?_ | refine RG.z5 ?_ | refine RG.z6 ?_ | refine RG.z7 ?_ | refine RG.z8 ?_ | refine RG.z9 ?_ | refine RG.zA ?_ | refine RG.zB ?_ | refine RG.zC ?_)
  refine RG.callR (by first | exact trivial | exact rfl) rfl (left_ok hb hi) ?_
  repeat (first | refine RG.z0 ?_ | refine RG.z1 ?_ | refine RG.z2 ?_ | refine RG.z3 ?_ | refine RG.z4 ?_ | refine RG.z5 ?_ | refine RG.z6 ?_ | refine RG.z7 ?_ | refine RG.z8 ?_ | refine RG.z9 ?_ | refine RG.zA ?_ | refine RG.zB ?_ | refine RG.zC ?_)
  refine RG.callR (by first | exact trivial | exact rfl) rfl (left_ok hb hi) ?_
  refine RG.callP (by first | exact trivial | exact rfl) rfl (trimLeft_ok (s.drop i) [32, 9, 10, 13] (by decide) (by decide) (by decide)) ?_
  have hw : (s.drop i).dropWhile (List.contains [32, 9, 10, 13]) = (s.drop i).dropWhile isWs := rfl
  rw [hw]
  generalize hq : ((s.drop i).dropWhile isWs) = q at hle
  have hn : wsN (s.drop i) = (s.drop i).length - q.length := by rw [wsN, hq]
  (first | refine RG.z0 ?_ | refine RG.z1 ?_ | refine RG.z2 ?_ | refine RG.z3 ?_ | refine RG.z4 ?_ | refine RG.z5 ?_ | refine RG.z6 ?_ | refine RG.z7 ?_ | refine RG.z8 ?_ | refine RG.z9 ?_ | refine RG.zA ?_ | refine RG.zB ?_ | refine RG.zC ?_)
  have hsub : (((s.drop i).length : Nat) : Int) - (q.length : Nat) = (wsN (s.drop i) : Nat) := by omega
  refine RG.subI (by first | exact trivial | exact rfl) (by conv => lhs; whnf) (by conv => lhs; whnf) (by omega) ?_
  rw [hsub]
  repeat (first | refine RG.z0 ?_ | refine RG.z1 ?_ | refine RG.z2 ?_ | refine RG.z3 ?_ | refine RG.z4 ?_ | refine RG.z5 ?_ | refine RG.z6 ?_ | refine RG.z7 ?_ | refine RG.z8 ?_ | refine RG.z9 ?_ | refine RG.zA ?_ | refine RG.zB ?_ | refine RG.zC ?_)
  refine RG.nilS (AC.seq (AC.reg ?_))
  repeat (first | refine RG.z0 ?_ | refine RG.z1 ?_ | refine RG.z2 ?_ | refine RG.z3 ?_ | refine RG.z4 ?_ | refine RG.z5 ?_ | refine RG.z6 ?_ | refine RG.z7 ?_ | refine RG.z8 ?_ | refine RG.z9 ?_ | refine RG.zA ?_ | refine RG.zB ?_ | refine RG.zC ?_)
  refine RG.nilS (AC.seq (AC.reg ?_))
  repeat (first | refine RG.z0 ?_ | refine RG.z1 ?_ | refine RG.z2 ?_ | refine RG.z3 ?_ | refine RG.z4 ?_ | refine RG.z5 ?_ | refine RG.z6 ?_ | refine RG.z7 ?_ | refine RG.z8 ?_ | refine RG.z9 ?_ | refine RG.zA ?_ | refine RG.zB ?_ | refine RG.zC ?_)
  refine RG.nilS (AC.ret (fin rfl ⟨?_, rfl⟩))
  show DV.bool (decide (((wsN (s.drop i) : Nat) : Int) > 0)) = _
  congr 1
  simp
end Go.Run.Tryd
/- strings.Builder. -/
namespace Go.Run.Tryd
open Go Go.Run
/-! (*strings.Builder).copyCheck -/
def F34 : FN := ⟨20, (.seq (.reg [⟨(some 2), none, .mv (.t 0)⟩,
    ⟨(some 3), none, .nilc (.t 2)⟩,
    ⟨(some 4), none, .fadr 0 (.t 3)⟩,
    ⟨(some 5), none, .ld false 1 (.t 4)⟩,
    ⟨(some 6), none, .eqn false .ptr (.t 5) (.c .nilp)⟩])
  (.cond (.t 6) (.reg [⟨(some 7), none, .mv (.t 0)⟩,
    ⟨(some 8), none, .mv (.t 0)⟩,
    ⟨(some 9), none, .oth (.convert 40 79 (.tmp 8))⟩,
    ⟨(some 10), none, .call 55 [(.t 9)]⟩,
    ⟨(some 11), none, .oth (.convert 79 40 (.tmp 10))⟩,
    ⟨(some 12), none, .nilc (.t 7)⟩,
    ⟨(some 13), none, .fadr 0 (.t 12)⟩,
    ⟨none, none, .st 1 (.t 13) (.t 11)⟩])
  (.seq (.reg [⟨(some 14), none, .mv (.t 0)⟩,
    ⟨(some 15), none, .nilc (.t 14)⟩,
    ⟨(some 16), none, .fadr 0 (.t 15)⟩,
    ⟨(some 17), none, .ld false 1 (.t 16)⟩,
    ⟨(some 18), none, .mv (.t 0)⟩,
    ⟨(some 19), none, .eqn true .ptr (.t 17) (.t 18)⟩])
  (.cond (.t 19) .stuck
  .skip)))), []⟩
theorem cF34 : cFn Go.Proofs.Tryd.prog 34 = some F34 := by kernel_rfl
/-! (*strings.Builder).WriteString -/
def F14 : FN := ⟨19, (.seq (.reg [⟨(some 4), none, .mv (.c (.int .i64 0))⟩,
    ⟨(some 5), none, .mv (.c .nilif)⟩])
  (.seq (.reg [⟨(some 6), none, .mv (.t 0)⟩,
    ⟨(some 7), none, .call 34 [(.t 6)]⟩])
  (.seq (.reg [⟨(some 8), none, .mv (.t 0)⟩,
    ⟨(some 9), none, .mv (.t 0)⟩,
    ⟨(some 10), none, .nilc (.t 9)⟩,
    ⟨(some 11), none, .fadr 1 (.t 10)⟩,
    ⟨(some 12), none, .ld false 1 (.t 11)⟩,
    ⟨(some 13), none, .mv (.t 1)⟩,
    ⟨(some 14), none, .app 5 1 1 (.t 12) (.t 13)⟩,
    ⟨(some 15), none, .nilc (.t 8)⟩,
    ⟨(some 16), none, .fadr 1 (.t 15)⟩,
    ⟨none, none, .st 1 (.t 16) (.t 14)⟩])
  (.seq (.reg [⟨(some 17), none, .mv (.t 1)⟩,
    ⟨(some 18), none, .len true (.t 17)⟩,
    ⟨(some 4), none, .mv (.t 18)⟩,
    ⟨(some 5), none, .mv (.c .nilif)⟩])
  .ret)))), [.tmp 4, .tmp 5]⟩
theorem cF14 : cFn Go.Proofs.Tryd.prog 14 = some F14 := by kernel_rfl
/-! (*strings.Builder).WriteByte -/
def F56 : FN := ⟨17, (.seq (.reg [⟨(some 4), none, .mv (.c .nilif)⟩])
  (.seq (.reg [⟨(some 5), none, .mv (.t 0)⟩,
    ⟨(some 6), none, .call 34 [(.t 5)]⟩])
  (.seq (.reg [⟨(some 7), none, .mv (.t 0)⟩,
    ⟨(some 8), none, .mv (.t 0)⟩,
    ⟨(some 9), none, .nilc (.t 8)⟩,
    ⟨(some 10), none, .fadr 1 (.t 9)⟩,
    ⟨(some 11), none, .ld false 1 (.t 10)⟩,
    ⟨(some 12), none, .mv (.t 1)⟩,
    ⟨(some 13), none, .bsl 5 1 1 [(.int .u8 0)] [(0, 1, (.t 12))]⟩,
    ⟨(some 14), none, .app 5 1 1 (.t 11) (.t 13)⟩,
    ⟨(some 15), none, .nilc (.t 7)⟩,
    ⟨(some 16), none, .fadr 1 (.t 15)⟩,
    ⟨none, none, .st 1 (.t 16) (.t 14)⟩])
  (.seq (.reg [⟨(some 4), none, .mv (.c .nilif)⟩])
  .ret)))), [.tmp 4]⟩
theorem cF56 : cFn Go.Proofs.Tryd.prog 56 = some F56 := by kernel_rfl
/-! (*strings.Builder).Len -/
def F16 : FN := ⟨8, (.seq (.reg [⟨(some 2), none, .mv (.c (.int .i64 0))⟩])
  (.seq (.reg [⟨(some 3), none, .mv (.t 0)⟩,
    ⟨(some 4), none, .nilc (.t 3)⟩,
    ⟨(some 5), none, .fadr 1 (.t 4)⟩,
    ⟨(some 6), none, .ld false 1 (.t 5)⟩,
    ⟨(some 7), none, .len false (.t 6)⟩,
    ⟨(some 2), none, .mv (.t 7)⟩])
  .ret)), [.tmp 2]⟩
theorem cF16 : cFn Go.Proofs.Tryd.prog 16 = some F16 := by kernel_rfl
/-! (*strings.Builder).String -/
def F17 : FN := ⟨14, (.seq (.reg [⟨(some 2), none, .mv (.c (.str []))⟩])
  (.seq (.draw [⟨(some 3), none, .mv (.t 0)⟩,
    ⟨(some 4), none, .nilc (.t 3)⟩,
    ⟨(some 5), none, .fadr 1 (.t 4)⟩,
    ⟨(some 6), none, .ld false 1 (.t 5)⟩,
    ⟨(some 7), none, .oth (.call ⟨.builtin .unsafeSliceData, #[(.tmp 6)], #[41]⟩)⟩,
    ⟨(some 8), none, .mv (.t 0)⟩,
    ⟨(some 9), none, .nilc (.t 8)⟩,
    ⟨(some 10), none, .fadr 1 (.t 9)⟩,
    ⟨(some 11), none, .ld false 1 (.t 10)⟩,
    ⟨(some 12), none, .len false (.t 11)⟩,
    ⟨(some 13), none, .oth (.call ⟨.builtin .unsafeString, #[(.tmp 7), (.tmp 12)], #[66, 3]⟩)⟩,
    ⟨(some 2), none, .mv (.t 13)⟩] [[], [0], [1], [2], [3], [], [5], [6], [7], [8], [4, 9], [10, 0, 1, 2, 3, 4, 5, 6, 7, 8, 9, 10]])
  .ret)), [.tmp 2]⟩
theorem cF17 : cFn Go.Proofs.Tryd.prog 17 = some F17 := by kernel_rfl
variable {G : Gl}

def bAddr (u : Bool) (b : Nat) : DV := bif u then .ptr b 0 else .nilp

/-- A builder in a block of its own, beside whatever else is told. -/
inductive BLD (H0 : Hp) (b : Nat) : Bool → List UInt8 → Hp → Prop
  | mt (u : Bool) : H0 b = none → BLD H0 b u [] (H0.upd b (some (.cells [bAddr u b, .nils] 43)))
  | on (u : Bool) (g : Nat) (bs : List UInt8) : H0 b = none → H0 g = none → g ≠ b → bs ≠ [] →
      BLD H0 b u bs ((H0.upd b (some (.cells [bAddr u b, .lst (bs.map B8) bs.length 1 (some (g, 0))] 43))).upd g (some (.front bs.length 1 5)))

theorem BLD.free {H0 H : Hp} {b : Nat} {u : Bool} {bs : List UInt8} (h : BLD H0 b u bs H) : H0 b = none := by cases h <;> assumption

theorem BLD.sub {H0 H : Hp} {b : Nat} {u : Bool} {bs : List UInt8} (h : BLD H0 b u bs H) : SubH H0 H := by
  cases h with
  | mt h => exact SubH.fresh h
  | on g bs h1 h2 h3 h4 =>
    refine (SubH.fresh h1).trans (SubH.fresh ?_)
    rw [Hp.upd_ne h3]; exact h2

/-- What else is told is turned. -/
theorem BLD.upd {H0 H : Hp} {b k : Nat} {u : Bool} {bs : List UInt8} {o o' : DO} (h : BLD H0 b u bs H) (hk : H0 k = some o) : BLD (H0.upd k (some o')) b u bs (H.upd k (some o')) := by
  have hkb : k ≠ b := fun e => by rw [e, h.free] at hk; cases hk
  cases h with
  | mt h =>
    rw [Hp.upd_comm (Ne.symm hkb)]
    exact .mt u (by rw [Hp.upd_ne (Ne.symm hkb)]; exact h)
  | on g bs h1 h2 h3 h4 =>
    have hkg : k ≠ g := fun e => by rw [e, h2] at hk; cases hk
    rw [Hp.upd_comm (Ne.symm hkg), Hp.upd_comm (Ne.symm hkb)]
    exact .on u g bs (by rw [Hp.upd_ne (Ne.symm hkb)]; exact h1) (by rw [Hp.upd_ne (Ne.symm hkg)]; exact h2) h3 h4

theorem BLD.cell {H0 H : Hp} {b : Nat} {u : Bool} {bs : List UInt8} (h : BLD H0 b u bs H) : ∃ buf, H b = some (.cells [bAddr u b, buf] 43) := by
  cases h with
  | mt h => exact ⟨_, Hp.upd_same⟩
  | on g bs h1 h2 h3 h4 => exact ⟨_, by rw [Hp.upd_ne (Ne.symm h3)]; exact Hp.upd_same⟩

theorem BLD.use {H0 H : Hp} {b : Nat} {u : Bool} {bs : List UInt8} {buf : DV} (h : BLD H0 b u bs H) (hb : H b = some (.cells [bAddr u b, buf] 43)) : BLD H0 b true bs (H.upd b (some (.cells [.ptr b 0, buf] 43))) := by
  cases h with
  | mt h =>
    rw [Hp.upd_same] at hb
    cases hb
    rw [Hp.upd_upd]
    exact .mt true h
  | on g bs h1 h2 h3 h4 =>
    rw [Hp.upd_ne (Ne.symm h3), Hp.upd_same] at hb
    cases hb
    rw [Hp.upd_comm h3, Hp.upd_upd]
    exact .on true g bs h1 h2 h3 h4

theorem copyCheck_ok {H0 H : Hp} {b : Nat} {u : Bool} {bs : List UInt8} (h : BLD H0 b u bs H) :
    CALL Go.Proofs.Tryd.prog G 34 [.ptr b 0] H (fun d H' => d = .tup [] ∧ BLD H0 b true bs H') (fun _ _ => False) := by
  obtain ⟨buf, hb⟩ := h.cell
  refine CALL.of cF34 (Nat.le_of_ble_eq_true rfl) ?_
  refine AC.seq (AC.reg ?_)
  cases u
  · repeat (first | refine RG.z0 ?_ | refine RG.z1 ?_ | refine RG.z2 ?_ | refine RG.z3 ?_ | refine RG.z4 ?_ | refine RG.z5 ?_ | refine RG.z6 ?_ | refine RG.z7 ?_ | refine RG.z8 ?_ | refine RG.z9 ?_ | refine RG.zA ?_ | refine RG.zB ?_ | refine RG.zC ?_)
    refine RG.nilS (AC.cond_t rfl (AC.reg ?_))
    repeat (first | refine RG.z0 ?_ | refine RG.z1 ?_ | refine RG.z2 ?_ | refine RG.z3 ?_ | refine RG.z4 ?_ | refine RG.z5 ?_ | refine RG.z6 ?_ | refine RG.z7 ?_ | refine RG.z8 ?_ | refine RG.z9 ?_ | refine RG.zA ?_ | refine RG.zB ?_ | refine RG.zC ?_)
    refine RG.s (by first | exact trivial | exact rfl) (ST.p2u (P := Go.Proofs.Tryd.prog) (u := 43) (j := Go.Proofs.Tryd.t43) (by kernel_rfl) (by kernel_rfl) (by kernel_rfl) (fun h => by cases (show (2 : Nat) = 0 from h)) rfl hb (by simp) ?_)
    refine RG.s (by first | exact trivial | exact rfl) (ST.noEscape Go.Proofs.Tryd.func55 rfl rfl (by kernel_rfl) (by kernel_rfl) rfl ?_)
    refine RG.s (by first | exact trivial | exact rfl) (ST.u2p (P := Go.Proofs.Tryd.prog) (u := 43) (j := Go.Proofs.Tryd.t43) (by kernel_rfl) (by kernel_rfl) (by kernel_rfl) rfl hb (by kernel_rfl) ?_)
    repeat (first | refine RG.z0 ?_ | refine RG.z1 ?_ | refine RG.z2 ?_ | refine RG.z3 ?_ | refine RG.z4 ?_ | refine RG.z5 ?_ | refine RG.z6 ?_ | refine RG.z7 ?_ | refine RG.z8 ?_ | refine RG.z9 ?_ | refine RG.zA ?_ | refine RG.zB ?_ | refine RG.zC ?_)
    exact RG.nil (fin rfl ⟨rfl, h.use hb⟩)
  · repeat (first | refine RG.z0 ?_ | refine RG.z1 ?_ | refine RG.z2 ?_ | refine RG.z3 ?_ | refine RG.z4 ?_ | refine RG.z5 ?_ | refine RG.z6 ?_ | refine RG.z7 ?_ | refine RG.z8 ?_ | refine RG.z9 ?_ | refine RG.zA ?_ | refine RG.zB ?_ | refine RG.zC ?_)
    refine RG.nilS (AC.cond_f rfl (AC.seq (AC.reg ?_)))
    repeat (first | refine RG.z0 ?_ | refine RG.z1 ?_ | refine RG.z2 ?_ | refine RG.z3 ?_ | refine RG.z4 ?_ | refine RG.z5 ?_ | refine RG.z6 ?_ | refine RG.z7 ?_ | refine RG.z8 ?_ | refine RG.z9 ?_ | refine RG.zA ?_ | refine RG.zB ?_ | refine RG.zC ?_)
    refine RG.p (by first | exact trivial | exact rfl) (evP_eqptr (b := b) (o := 0) (o' := 0) rfl rfl) ?_
    refine RG.nilS (AC.cond_f rfl (AC.skip (fin rfl ⟨rfl, h⟩)))

/-- What is appended: bytes, in whatever form. -/
theorem BLD.app {H0 H : Hp} {b : Nat} {u : Bool} {bs ys : List UInt8} {N : Nat} {x y : X} {dst : Option Nat} {l : List Ins} {Q : EX → Fr → Hp → Prop} {fr : Fr} (h : BLD H0 b u bs H) (hlen : bs.length + ys.length ≤ 140737488355328)
    (hx : ∀ buf, H b = some (.cells [bAddr u b, buf] 43) → XV G fr x = buf) (hy : srcD H 1 (XV G fr y) = some (ys.map B8, ys.length))
    (k : ∀ buf H', cellsD buf = some [buf] → H' b = some (.cells [bAddr u b, (XV G fr x)] 43) → BLD H0 b u (bs ++ ys) (H'.upd b (some (.cells [bAddr u b, buf] 43))) → RG Go.Proofs.Tryd.prog G none N l Q (fr.put dst buf) H') :
    RG Go.Proofs.Tryd.prog G none N (⟨dst, none, .app 5 1 1 x y⟩ :: l) Q fr H := by
  cases h with
  | mt h =>
    have hxv := hx _ Hp.upd_same
    by_cases hys : ys = []
    · subst hys
      refine RG.st (ST.app_nothing (.inl hxv) hy ?_)
      rw [hxv]
      refine k _ _ rfl (by rw [hxv]; exact Hp.upd_same) ?_
      rw [Hp.upd_upd]
      exact .mt u h
    · have hpos : 0 < ys.length := List.length_pos_iff.2 hys
      refine RG.st (ST.app_new (.inl hxv) hy hpos (by simp at hlen; omega) fun g hg => ?_)
      have hgb : g ≠ b := fun e => by rw [e, Hp.upd_same] at hg; cases hg
      rw [Hp.upd_ne hgb] at hg
      refine k _ _ rfl (by rw [Hp.upd_ne (Ne.symm hgb), hxv]; exact Hp.upd_same) ?_
      rw [Hp.upd_comm hgb, Hp.upd_upd, List.nil_append]
      exact .on u g ys h hg hgb hys
  | on g _ h1 h2 h3 h4 =>
    have hb : ((H0.upd b (some (.cells [bAddr u b, .lst (bs.map B8) bs.length 1 (some (g, 0))] 43))).upd g (some (.front bs.length 1 5))) b = some (.cells [bAddr u b, .lst (bs.map B8) bs.length 1 (some (g, 0))] 43) := by
      rw [Hp.upd_ne (Ne.symm h3)]; exact Hp.upd_same
    have hxv := hx _ hb
    refine RG.st (ST.app_own hxv Hp.upd_same hy (by omega) fun g' hg' => ?_)
    have hg2 : g' ≠ b ∧ H0 g' = none := by
      rcases hg' with rfl | hg'
      · exact ⟨h3, h2⟩
      · have e1 : g' ≠ g := fun e => by rw [e, Hp.upd_same] at hg'; cases hg'
        rw [Hp.upd_ne e1] at hg'
        have e2 : g' ≠ b := fun e => by rw [e, Hp.upd_same] at hg'; cases hg'
        rw [Hp.upd_ne e2] at hg'
        exact ⟨e2, hg'⟩
    rw [Hp.upd_upd]
    have hz : (H0.upd b (some (.cells [bAddr u b, .lst (bs.map B8) bs.length 1 (some (g, 0))] 43))).upd g none = H0.upd b (some (.cells [bAddr u b, .lst (bs.map B8) bs.length 1 (some (g, 0))] 43)) :=
      Hp.upd_id (by rw [Hp.upd_ne h3]; exact h2)
    rw [hz]
    refine k _ _ rfl (by rw [Hp.upd_ne (Ne.symm hg2.1), hxv]; exact Hp.upd_same) ?_
    rw [Hp.upd_comm hg2.1, Hp.upd_upd, ← List.map_append, ← List.length_append]
    exact .on u g' (bs ++ ys) h1 hg2.2 hg2.1 (by simp [h4])

theorem WriteString_ok {H0 H : Hp} {b : Nat} {u : Bool} {bs s : List UInt8} (h : BLD H0 b u bs H) (hlen : bs.length + s.length ≤ 140737488355328) :
    CALL Go.Proofs.Tryd.prog G 14 [.ptr b 0, .str s] H (fun d H' => d = .tup [.int .i64 s.length, .nilif] ∧ BLD H0 b true (bs ++ s) H') (fun _ _ => False) := by
  refine CALL.of cF14 (Nat.le_of_ble_eq_true rfl) ?_
  refine AC.seq (AC.reg ?_)
  repeat (first | refine RG.z0 ?_ | refine RG.z1 ?_ | refine RG.z2 ?_ | refine RG.z3 ?_ | refine RG.z4 ?_ | refine RG.z5 ?_ | refine RG.z6 ?_ | refine RG.z7 ?_ | refine RG.z8 ?_ | refine RG.z9 ?_ | refine RG.zA ?_ | refine RG.zB ?_ | refine RG.zC ?_)
  refine RG.nilS (AC.seq (AC.reg ?_))
  repeat (first | refine RG.z0 ?_ | refine RG.z1 ?_ | refine RG.z2 ?_ | refine RG.z3 ?_ | refine RG.z4 ?_ | refine RG.z5 ?_ | refine RG.z6 ?_ | refine RG.z7 ?_ | refine RG.z8 ?_ | refine RG.z9 ?_ | refine RG.zA ?_ | refine RG.zB ?_ | refine RG.zC ?_)
  refine RG.call (by first | exact trivial | exact rfl) rfl (copyCheck_ok h) (fun d H' ⟨e1, h'⟩ => ?_) (fun _ _ h => h.elim)
  subst e1
  refine RG.nilS (AC.seq (AC.reg ?_))
  obtain ⟨buf, hb⟩ := h'.cell
  repeat (first | refine RG.z0 ?_ | refine RG.z1 ?_ | refine RG.z2 ?_ | refine RG.z3 ?_ | refine RG.z4 ?_ | refine RG.z5 ?_ | refine RG.z6 ?_ | refine RG.z7 ?_ | refine RG.z8 ?_ | refine RG.z9 ?_ | refine RG.zA ?_ | refine RG.zB ?_ | refine RG.zC ?_)
  refine h'.app hlen (fun buf' hb' => ?_) rfl (fun buf' H2 hcd hb2 h2 => ?_)
  · rw [hb] at hb'; cases hb'; rfl
  · (first | refine RG.z0 ?_ | refine RG.z1 ?_ | refine RG.z2 ?_ | refine RG.z3 ?_ | refine RG.z4 ?_ | refine RG.z5 ?_ | refine RG.z6 ?_ | refine RG.z7 ?_ | refine RG.z8 ?_ | refine RG.z9 ?_ | refine RG.zA ?_ | refine RG.zB ?_ | refine RG.zC ?_)
    (first | refine RG.z0 ?_ | refine RG.z1 ?_ | refine RG.z2 ?_ | refine RG.z3 ?_ | refine RG.z4 ?_ | refine RG.z5 ?_ | refine RG.z6 ?_ | refine RG.z7 ?_ | refine RG.z8 ?_ | refine RG.z9 ?_ | refine RG.zA ?_ | refine RG.zB ?_ | refine RG.zC ?_)
    refine RG.sto (by first | exact trivial | exact rfl) (by conv => lhs; whnf) hb2 (by conv => lhs; whnf) hcd rfl (by simp) ?_
    refine RG.nilS (AC.seq (AC.reg ?_))
    repeat (first | refine RG.z0 ?_ | refine RG.z1 ?_ | refine RG.z2 ?_ | refine RG.z3 ?_ | refine RG.z4 ?_ | refine RG.z5 ?_ | refine RG.z6 ?_ | refine RG.z7 ?_ | refine RG.z8 ?_ | refine RG.z9 ?_ | refine RG.zA ?_ | refine RG.zB ?_ | refine RG.zC ?_)
    exact RG.nilS (AC.ret (fin rfl ⟨rfl, h2⟩))

theorem WriteByte_ok {H0 H : Hp} {b : Nat} {u : Bool} {bs : List UInt8} {c : UInt8} (h : BLD H0 b u bs H) (hlen : bs.length + 1 ≤ 140737488355328) :
    CALL Go.Proofs.Tryd.prog G 56 [.ptr b 0, .int .u8 c.toNat] H (fun d H' => d = .nilif ∧ BLD H0 b true (bs ++ [c]) H') (fun _ _ => False) := by
  refine CALL.of cF56 (Nat.le_of_ble_eq_true rfl) ?_
  refine AC.seq (AC.reg ?_)
  repeat (first | refine RG.z0 ?_ | refine RG.z1 ?_ | refine RG.z2 ?_ | refine RG.z3 ?_ | refine RG.z4 ?_ | refine RG.z5 ?_ | refine RG.z6 ?_ | refine RG.z7 ?_ | refine RG.z8 ?_ | refine RG.z9 ?_ | refine RG.zA ?_ | refine RG.zB ?_ | refine RG.zC ?_)
  refine RG.nilS (AC.seq (AC.reg ?_))
  repeat (first | refine RG.z0 ?_ | refine RG.z1 ?_ | refine RG.z2 ?_ | refine RG.z3 ?_ | refine RG.z4 ?_ | refine RG.z5 ?_ | refine RG.z6 ?_ | refine RG.z7 ?_ | refine RG.z8 ?_ | refine RG.z9 ?_ | refine RG.zA ?_ | refine RG.zB ?_ | refine RG.zC ?_)
  refine RG.call (by first | exact trivial | exact rfl) rfl (copyCheck_ok h) (fun d H' ⟨e1, h'⟩ => ?_) (fun _ _ h => h.elim)
  subst e1
  refine RG.nilS (AC.seq (AC.reg ?_))
  obtain ⟨buf, hb⟩ := h'.cell
  repeat (first | refine RG.z0 ?_ | refine RG.z1 ?_ | refine RG.z2 ?_ | refine RG.z3 ?_ | refine RG.z4 ?_ | refine RG.z5 ?_ | refine RG.z6 ?_ | refine RG.z7 ?_ | refine RG.z8 ?_ | refine RG.z9 ?_ | refine RG.zA ?_ | refine RG.zB ?_ | refine RG.zC ?_)
  refine RG.st (ST.bsl (cs := [.int .u8 c.toNat]) rfl fun g hg => ?_)
  refine RG.drop (SubH.fresh hg) ?_
  refine h'.app (ys := [c]) hlen (fun buf' hb' => ?_) rfl (fun buf' H2 hcd hb2 h2 => ?_)
  · rw [hb] at hb'; cases hb'; rfl
  · (first | refine RG.z0 ?_ | refine RG.z1 ?_ | refine RG.z2 ?_ | refine RG.z3 ?_ | refine RG.z4 ?_ | refine RG.z5 ?_ | refine RG.z6 ?_ | refine RG.z7 ?_ | refine RG.z8 ?_ | refine RG.z9 ?_ | refine RG.zA ?_ | refine RG.zB ?_ | refine RG.zC ?_)
    (first | refine RG.z0 ?_ | refine RG.z1 ?_ | refine RG.z2 ?_ | refine RG.z3 ?_ | refine RG.z4 ?_ | refine RG.z5 ?_ | refine RG.z6 ?_ | refine RG.z7 ?_ | refine RG.z8 ?_ | refine RG.z9 ?_ | refine RG.zA ?_ | refine RG.zB ?_ | refine RG.zC ?_)
    refine RG.sto (by first | exact trivial | exact rfl) (by conv => lhs; whnf) hb2 (by conv => lhs; whnf) hcd rfl (by simp) ?_
    refine RG.nilS (AC.seq (AC.reg ?_))
    repeat (first | refine RG.z0 ?_ | refine RG.z1 ?_ | refine RG.z2 ?_ | refine RG.z3 ?_ | refine RG.z4 ?_ | refine RG.z5 ?_ | refine RG.z6 ?_ | refine RG.z7 ?_ | refine RG.z8 ?_ | refine RG.z9 ?_ | refine RG.zA ?_ | refine RG.zB ?_ | refine RG.zC ?_)
    exact RG.nilS (AC.ret (fin rfl ⟨rfl, h2⟩))

theorem Len_ok {H0 H : Hp} {b : Nat} {u : Bool} {bs : List UInt8} (h : BLD H0 b u bs H) :
    CALL Go.Proofs.Tryd.prog G 16 [.ptr b 0] H (fun d H' => d = .int .i64 bs.length ∧ H' = H) (fun _ _ => False) := by
  refine CALL.of cF16 (Nat.le_of_ble_eq_true rfl) ?_
  refine AC.seq (AC.reg ?_)
  repeat (first | refine RG.z0 ?_ | refine RG.z1 ?_ | refine RG.z2 ?_ | refine RG.z3 ?_ | refine RG.z4 ?_ | refine RG.z5 ?_ | refine RG.z6 ?_ | refine RG.z7 ?_ | refine RG.z8 ?_ | refine RG.z9 ?_ | refine RG.zA ?_ | refine RG.zB ?_ | refine RG.zC ?_)
  refine RG.nilS (AC.seq (AC.reg ?_))
  cases h with
  | mt h =>
    repeat (first | refine RG.z0 ?_ | refine RG.z1 ?_ | refine RG.z2 ?_ | refine RG.z3 ?_ | refine RG.z4 ?_ | refine RG.z5 ?_ | refine RG.z6 ?_ | refine RG.z7 ?_ | refine RG.z8 ?_ | refine RG.z9 ?_ | refine RG.zA ?_ | refine RG.zB ?_ | refine RG.zC ?_)
    exact RG.nilS (AC.ret (fin rfl ⟨rfl, rfl⟩))
  | on g _ h1 h2 h3 h4 =>
    have hb : ((H0.upd b (some (.cells [bAddr u b, .lst (bs.map B8) bs.length 1 (some (g, 0))] 43))).upd g (some (.front bs.length 1 5))) b = some (.cells [bAddr u b, .lst (bs.map B8) bs.length 1 (some (g, 0))] 43) := by
      rw [Hp.upd_ne (Ne.symm h3)]; exact Hp.upd_same
    repeat (first | refine RG.z0 ?_ | refine RG.z1 ?_ | refine RG.z2 ?_ | refine RG.z3 ?_ | refine RG.z4 ?_ | refine RG.z5 ?_ | refine RG.z6 ?_ | refine RG.z7 ?_ | refine RG.z8 ?_ | refine RG.z9 ?_ | refine RG.zA ?_ | refine RG.zB ?_ | refine RG.zC ?_)
    exact RG.nilS (AC.ret (fin rfl ⟨rfl, rfl⟩))

theorem String_ok {H0 H : Hp} {b : Nat} {u : Bool} {bs : List UInt8} (h : BLD H0 b u bs H) (hlen : bs.length ≤ 9223372036854775807) :
    CALL Go.Proofs.Tryd.prog G 17 [.ptr b 0] H (fun d H' => d = .str bs ∧ H' = H0) (fun _ _ => False) := by
  refine CALL.of cF17 (Nat.le_of_ble_eq_true rfl) ?_
  refine AC.seq (AC.reg ?_)
  repeat (first | refine RG.z0 ?_ | refine RG.z1 ?_ | refine RG.z2 ?_ | refine RG.z3 ?_ | refine RG.z4 ?_ | refine RG.z5 ?_ | refine RG.z6 ?_ | refine RG.z7 ?_ | refine RG.z8 ?_ | refine RG.z9 ?_ | refine RG.zA ?_ | refine RG.zB ?_ | refine RG.zC ?_)
  cases h with
  | mt h =>
    refine RG.nilS (AC.seq (AC.drawV [4, 10] rfl ?_))
    first | refine VD.z0 0 ?_ | refine VD.z1 0 ?_ | refine VD.z2 0 ?_ | refine VD.z3 0 ?_ | refine VD.z4 0 ?_ | refine VD.z5 0 ?_
    first | refine VD.z0 1 ?_ | refine VD.z1 1 ?_ | refine VD.z2 1 ?_ | refine VD.z3 1 ?_ | refine VD.z4 1 ?_ | refine VD.z5 1 ?_
    first | refine VD.z0 2 ?_ | refine VD.z1 2 ?_ | refine VD.z2 2 ?_ | refine VD.z3 2 ?_ | refine VD.z4 2 ?_ | refine VD.z5 2 ?_
    first | refine VD.z0 3 ?_ | refine VD.z1 3 ?_ | refine VD.z2 3 ?_ | refine VD.z3 3 ?_ | refine VD.z4 3 ?_ | refine VD.z5 3 ?_
    first | refine VD.z0 5 ?_ | refine VD.z1 5 ?_ | refine VD.z2 5 ?_ | refine VD.z3 5 ?_ | refine VD.z4 5 ?_ | refine VD.z5 5 ?_
    first | refine VD.z0 6 ?_ | refine VD.z1 6 ?_ | refine VD.z2 6 ?_ | refine VD.z3 6 ?_ | refine VD.z4 6 ?_ | refine VD.z5 6 ?_
    first | refine VD.z0 7 ?_ | refine VD.z1 7 ?_ | refine VD.z2 7 ?_ | refine VD.z3 7 ?_ | refine VD.z4 7 ?_ | refine VD.z5 7 ?_
    first | refine VD.z0 8 ?_ | refine VD.z1 8 ?_ | refine VD.z2 8 ?_ | refine VD.z3 8 ?_ | refine VD.z4 8 ?_ | refine VD.z5 8 ?_
    first | refine VD.z0 9 ?_ | refine VD.z1 9 ?_ | refine VD.z2 9 ?_ | refine VD.z3 9 ?_ | refine VD.z4 9 ?_ | refine VD.z5 9 ?_
    refine VD.pe (K := fun d H' => d = .nilp ∧ H' = H0.upd b (some (.cells [bAddr u b, .nils] 43))) (Kp := fun _ _ => False) 4 rfl rfl (fun fr1 l Q hs k _ => RG.st (ST.sdata_nil ((hs 6 (by decide)).trans rfl) (k _ _ ⟨rfl, rfl⟩))) (fun _ _ _ h => h.elim) (fun d H' ⟨e1, e2⟩ => ?_)
    subst e1; subst e2
    refine ⟨(by (repeat (refine stabAll_cons rfl (by first | exact Stab.ld rfl (by first | assumption | exact Hp.upd_same | (rw [Hp.upd_ne (by first | assumption | omega)]; first | assumption | exact Hp.upd_same | (rw [Hp.upd_ne (by first | assumption | omega)]; first | assumption | exact Hp.upd_same))) rfl rfl | exact Stab.of rfl rfl) ?_)); exact stabAll_nil), ?_⟩
    refine VD.pe (K := fun d H' => d = .str [] ∧ H' = H0.upd b (some (.cells [bAddr u b, .nils] 43))) (Kp := fun _ _ => False) 10 rfl rfl (fun fr1 l Q hs k _ => RG.st (ST.ustr_nil ((hs 7 (by decide)).trans rfl) ((hs 12 (by decide)).trans rfl) (k _ _ ⟨rfl, rfl⟩))) (fun _ _ _ h => h.elim) (fun d H' ⟨e1, e2⟩ => ?_)
    subst e1; subst e2
    refine ⟨(by (repeat (refine stabAll_cons rfl (by first | exact Stab.ld rfl (by first | assumption | exact Hp.upd_same | (rw [Hp.upd_ne (by first | assumption | omega)]; first | assumption | exact Hp.upd_same | (rw [Hp.upd_ne (by first | assumption | omega)]; first | assumption | exact Hp.upd_same))) rfl rfl | exact Stab.of rfl rfl) ?_)); exact stabAll_nil), ?_⟩
    first | refine VD.z0 11 ?_ | refine VD.z1 11 ?_ | refine VD.z2 11 ?_ | refine VD.z3 11 ?_ | refine VD.z4 11 ?_ | refine VD.z5 11 ?_
    refine VD.pd rfl ?_
    exact AC.ret (finD rfl (SubH.fresh h) ⟨rfl, rfl⟩)
  | on g _ h1 h2 h3 h4 =>
    have hb : ((H0.upd b (some (.cells [bAddr u b, .lst (bs.map B8) bs.length 1 (some (g, 0))] 43))).upd g (some (.front bs.length 1 5))) b = some (.cells [bAddr u b, .lst (bs.map B8) bs.length 1 (some (g, 0))] 43) := by
      rw [Hp.upd_ne (Ne.symm h3)]; exact Hp.upd_same
    obtain ⟨c, cs, rfl⟩ : ∃ c cs, bs = c :: cs := by
      cases bs with
      | nil => exact absurd rfl h4
      | cons c cs => exact ⟨c, cs, rfl⟩
    refine RG.nilS (AC.seq (AC.drawV [4, 10] rfl ?_))
    first | refine VD.z0 0 ?_ | refine VD.z1 0 ?_ | refine VD.z2 0 ?_ | refine VD.z3 0 ?_ | refine VD.z4 0 ?_ | refine VD.z5 0 ?_
    first | refine VD.z0 1 ?_ | refine VD.z1 1 ?_ | refine VD.z2 1 ?_ | refine VD.z3 1 ?_ | refine VD.z4 1 ?_ | refine VD.z5 1 ?_
    first | refine VD.z0 2 ?_ | refine VD.z1 2 ?_ | refine VD.z2 2 ?_ | refine VD.z3 2 ?_ | refine VD.z4 2 ?_ | refine VD.z5 2 ?_
    first | refine VD.z0 3 ?_ | refine VD.z1 3 ?_ | refine VD.z2 3 ?_ | refine VD.z3 3 ?_ | refine VD.z4 3 ?_ | refine VD.z5 3 ?_
    first | refine VD.z0 5 ?_ | refine VD.z1 5 ?_ | refine VD.z2 5 ?_ | refine VD.z3 5 ?_ | refine VD.z4 5 ?_ | refine VD.z5 5 ?_
    first | refine VD.z0 6 ?_ | refine VD.z1 6 ?_ | refine VD.z2 6 ?_ | refine VD.z3 6 ?_ | refine VD.z4 6 ?_ | refine VD.z5 6 ?_
    first | refine VD.z0 7 ?_ | refine VD.z1 7 ?_ | refine VD.z2 7 ?_ | refine VD.z3 7 ?_ | refine VD.z4 7 ?_ | refine VD.z5 7 ?_
    first | refine VD.z0 8 ?_ | refine VD.z1 8 ?_ | refine VD.z2 8 ?_ | refine VD.z3 8 ?_ | refine VD.z4 8 ?_ | refine VD.z5 8 ?_
    first | refine VD.z0 9 ?_ | refine VD.z1 9 ?_ | refine VD.z2 9 ?_ | refine VD.z3 9 ?_ | refine VD.z4 9 ?_ | refine VD.z5 9 ?_
    refine VD.pe (K := fun d H' => d = .ptr g 0 ∧ H' = (H0.upd b (some (.cells [bAddr u b, .lst ((c :: cs).map B8) (c :: cs).length 1 (some (g, 0))] 43))).upd g (some (.front (c :: cs).length 1 5))) (Kp := fun _ _ => False) 4 rfl rfl
      (fun fr1 l Q hs k _ => RG.st (ST.sdata (c := B8 c) (cs := cs.map B8) ((hs 6 (by decide)).trans rfl) Hp.upd_same (k _ _ ⟨rfl, rfl⟩))) (fun _ _ _ h => h.elim) (fun d H' ⟨e1, e2⟩ => ?_)
    subst e1; subst e2
    refine ⟨(by (repeat (refine stabAll_cons rfl (by first | exact Stab.ld rfl (by first | assumption | exact Hp.upd_same | (rw [Hp.upd_ne (by first | assumption | omega)]; first | assumption | exact Hp.upd_same | (rw [Hp.upd_ne (by first | assumption | omega)]; first | assumption | exact Hp.upd_same))) rfl rfl | exact Stab.of rfl rfl) ?_)); exact stabAll_nil), ?_⟩
    refine VD.pe (K := fun d H' => d = .str (c :: cs) ∧ H' = ((H0.upd b (some (.cells [bAddr u b, .lst ((c :: cs).map B8) (c :: cs).length 1 (some (g, 0))] 43))).upd g (some (.front (c :: cs).length 1 5))).upd g none) (Kp := fun _ _ => False) 10 rfl rfl
      (fun fr1 l Q hs k _ => RG.st (ST.ustr (P := Go.Proofs.Tryd.prog) (ty := 5) (k := 1) (by kernel_rfl) (by kernel_rfl) h4 hlen ((hs 7 (by decide)).trans rfl) ((hs 12 (by decide)).trans rfl) Hp.upd_same hb rfl (k _ _ ⟨rfl, rfl⟩))) (fun _ _ _ h => h.elim) (fun d H' ⟨e1, e2⟩ => ?_)
    subst e1; subst e2
    refine ⟨(by (repeat (refine stabAll_cons rfl (by first | exact Stab.ld rfl (by first | assumption | exact Hp.upd_same | (rw [Hp.upd_ne (by first | assumption | omega)]; first | assumption | exact Hp.upd_same | (rw [Hp.upd_ne (by first | assumption | omega)]; first | assumption | exact Hp.upd_same))) rfl rfl | exact Stab.of rfl rfl) ?_)); exact stabAll_nil), ?_⟩
    first | refine VD.z0 11 ?_ | refine VD.z1 11 ?_ | refine VD.z2 11 ?_ | refine VD.z3 11 ?_ | refine VD.z4 11 ?_ | refine VD.z5 11 ?_
    refine VD.pd rfl ?_
    rw [Hp.upd_upd]
    have hz : (H0.upd b (some (.cells [bAddr u b, .lst ((c :: cs).map B8) (c :: cs).length 1 (some (g, 0))] 43))).upd g none = H0.upd b (some (.cells [bAddr u b, .lst ((c :: cs).map B8) (c :: cs).length 1 (some (g, 0))] 43)) :=
      Hp.upd_id (by rw [Hp.upd_ne h3]; exact h2)
    rw [hz]
    exact AC.ret (finD rfl (SubH.fresh h1) ⟨rfl, rfl⟩)
end Go.Run.Tryd
/- Pages and their namespaces; a reader's close. -/
namespace Go.Run.Tryd
open Go Go.Run
/-! cardcase/vocab.Space -/
def F35 : FN := ⟨10, (.seq (.reg [⟨(some 2), none, .mv (.c (.str []))⟩])
  (.seq (.seq (.reg [⟨(some 3), none, .mv (.t 0)⟩])
  (.block 0 (.seq (.reg [⟨(some 5), none, .bin .eql (.t 3) (.c (.int .i64 0))⟩,
    ⟨(some 4), none, .mv (.t 5)⟩])
  (.cond (.t 4) (.seq (.reg [⟨(some 2), none, .mv (.c (.str [83, 89, 78, 67, 77, 76, 58, 83, 89, 78, 67, 77, 76, 49, 46, 50]))⟩])
  .ret)
  (.seq (.reg [⟨(some 7), none, .bin .eql (.t 3) (.c (.int .i64 1))⟩,
    ⟨(some 6), none, .mv (.t 7)⟩])
  (.cond (.t 6) (.seq (.reg [⟨(some 2), none, .mv (.c (.str [115, 121, 110, 99, 109, 108, 58, 109, 101, 116, 105, 110, 102]))⟩])
  .ret)
  (.seq (.reg [⟨(some 9), none, .bin .eql (.t 3) (.c (.int .i64 2))⟩,
    ⟨(some 8), none, .mv (.t 9)⟩])
  (.cond (.t 8) (.seq (.reg [⟨(some 2), none, .mv (.c (.str [115, 121, 110, 99, 109, 108, 58, 100, 101, 118, 105, 110, 102]))⟩])
  .ret)
  .skip))))))))
  (.seq (.reg [⟨(some 2), none, .mv (.c (.str []))⟩])
  .ret))), [.tmp 2]⟩
theorem cF35 : cFn Go.Proofs.Tryd.prog 35 = some F35 := by kernel_rfl
/-! cardcase/vocab.Page -/
def F44 : FN := ⟨13, (.seq (.reg [⟨(some 2), none, .mv (.c (.int .i64 0))⟩])
  (.seq (.seq (.reg [⟨(some 4), none, .mv (.c (.int .i64 0))⟩])
  (.block 0 (.loop (.seq (.reg [⟨(some 5), none, .bin .lss (.t 4) (.c (.int .i64 3))⟩])
  (.seq (.cond (.t 5) .skip
  (.exit 0))
  (.seq (.block 1 (.seq (.reg [⟨(some 6), none, .mv (.t 4)⟩,
    ⟨(some 3), none, .mv (.t 6)⟩])
  (.seq (.reg [⟨(some 7), none, .mv (.t 3)⟩,
    ⟨(some 8), none, .call 35 [(.t 7)]⟩,
    ⟨(some 9), none, .mv (.t 0)⟩,
    ⟨(some 10), none, .bin .eql (.t 8) (.t 9)⟩])
  (.cond (.t 10) (.seq (.reg [⟨(some 11), none, .mv (.t 3)⟩,
    ⟨(some 2), none, .mv (.t 11)⟩])
  .ret)
  .skip))))
  (.reg [⟨(some 12), none, .bin .add (.t 4) (.c (.int .i64 1))⟩,
    ⟨(some 4), none, .mv (.t 12)⟩])))))))
  (.seq (.reg [⟨(some 2), none, .mv (.c (.int .i64 (-1)))⟩])
  .ret))), [.tmp 2]⟩
theorem cF44 : cFn Go.Proofs.Tryd.prog 44 = some F44 := by kernel_rfl
/-! (*cardcase/markup.reader).close -/
def F46 : FN := ⟨34, (.seq (.reg [⟨(some 6), none, .mv (.t 0)⟩,
    ⟨(some 7), none, .nilc (.t 6)⟩,
    ⟨(some 8), none, .fadr 1 (.t 7)⟩,
    ⟨(some 9), none, .ld false 1 (.t 8)⟩,
    ⟨(some 4), none, .mv (.t 9)⟩])
  (.seq (.reg [⟨(some 10), none, .mv (.t 0)⟩,
    ⟨(some 11), none, .call 42 [(.t 10)]⟩,
    ⟨(some 12), none, .mv (.t 1)⟩,
    ⟨(some 13), none, .bin .eql (.t 11) (.t 12)⟩,
    ⟨(some 14), none, .mv (.t 4)⟩,
    ⟨(some 15), none, .call 24 [(.t 13), (.t 14), (.c (.int .i64 19))]⟩])
  (.seq (.reg [⟨(some 16), none, .mv (.t 0)⟩,
    ⟨(some 17), none, .call 22 [(.t 16)]⟩])
  (.seq (.draw [⟨(some 18), none, .mv (.t 0)⟩,
    ⟨(some 19), none, .call 25 [(.t 18)]⟩,
    ⟨(some 20), none, .bin .neq (.t 19) (.c (.str []))⟩,
    ⟨(some 21), none, .mv (.t 0)⟩,
    ⟨(some 22), none, .nilc (.t 21)⟩,
    ⟨(some 23), none, .fadr 1 (.t 22)⟩,
    ⟨(some 24), none, .ld false 1 (.t 23)⟩,
    ⟨(some 25), none, .call 24 [(.t 20), (.t 24), (.c (.int .i64 1))]⟩] [[], [0], [1], [], [3], [4], [5], [2, 6, 1]])
  (.seq (.reg [⟨(some 26), none, .mv (.t 0)⟩,
    ⟨(some 27), none, .nilc (.t 26)⟩,
    ⟨(some 28), none, .fadr 1 (.t 27)⟩,
    ⟨(some 29), none, .ld false 1 (.t 28)⟩,
    ⟨(some 5), none, .mv (.t 29)⟩])
  (.reg [⟨(some 30), none, .mv (.t 0)⟩,
    ⟨(some 31), none, .call 20 [(.t 30), (.c (.str [62]))]⟩,
    ⟨(some 32), none, .mv (.t 5)⟩,
    ⟨(some 33), none, .call 24 [(.t 31), (.t 32), (.c (.int .i64 3))]⟩])))))), []⟩
theorem cF46 : cFn Go.Proofs.Tryd.prog 46 = some F46 := by kernel_rfl
variable {G : Gl}

def sp0 : List UInt8 := [83, 89, 78, 67, 77, 76, 58, 83, 89, 78, 67, 77, 76, 49, 46, 50]
def sp1 : List UInt8 := [115, 121, 110, 99, 109, 108, 58, 109, 101, 116, 105, 110, 102]
def sp2 : List UInt8 := [115, 121, 110, 99, 109, 108, 58, 100, 101, 118, 105, 110, 102]

/-- A page's namespace. -/
def spaceOf (i : Int) : List UInt8 := bif i == 0 then sp0 else bif i == 1 then sp1 else bif i == 2 then sp2 else []

theorem Space_ok (i : Int) : PF Go.Proofs.Tryd.prog G 35 [.int .i64 i] (.str (spaceOf i)) := by
  intro H
  refine CALL.of cF35 (Nat.le_of_ble_eq_true rfl) ?_
  refine AC.seq (AC.reg ?_)
  repeat (first | refine RG.z0 ?_ | refine RG.z1 ?_ | refine RG.z2 ?_ | refine RG.z3 ?_ | refine RG.z4 ?_ | refine RG.z5 ?_ | refine RG.z6 ?_ | refine RG.z7 ?_ | refine RG.z8 ?_ | refine RG.z9 ?_ | refine RG.zA ?_ | refine RG.zB ?_ | refine RG.zC ?_)
  refine RG.nilS (AC.seq (AC.seq (AC.reg ?_)))
  repeat (first | refine RG.z0 ?_ | refine RG.z1 ?_ | refine RG.z2 ?_ | refine RG.z3 ?_ | refine RG.z4 ?_ | refine RG.z5 ?_ | refine RG.z6 ?_ | refine RG.z7 ?_ | refine RG.z8 ?_ | refine RG.z9 ?_ | refine RG.zA ?_ | refine RG.zB ?_ | refine RG.zC ?_)
  refine RG.nilS (AC.block (AC.seq (AC.reg ?_)))
  repeat (first | refine RG.z0 ?_ | refine RG.z1 ?_ | refine RG.z2 ?_ | refine RG.z3 ?_ | refine RG.z4 ?_ | refine RG.z5 ?_ | refine RG.z6 ?_ | refine RG.z7 ?_ | refine RG.z8 ?_ | refine RG.z9 ?_ | refine RG.zA ?_ | refine RG.zB ?_ | refine RG.zC ?_)
  cases e0 : i == 0
  · refine RG.nilS (AC.cond_f rfl (AC.seq (AC.reg ?_)))
    repeat (first | refine RG.z0 ?_ | refine RG.z1 ?_ | refine RG.z2 ?_ | refine RG.z3 ?_ | refine RG.z4 ?_ | refine RG.z5 ?_ | refine RG.z6 ?_ | refine RG.z7 ?_ | refine RG.z8 ?_ | refine RG.z9 ?_ | refine RG.zA ?_ | refine RG.zB ?_ | refine RG.zC ?_)
    cases e1 : i == 1
    · refine RG.nilS (AC.cond_f rfl (AC.seq (AC.reg ?_)))
      repeat (first | refine RG.z0 ?_ | refine RG.z1 ?_ | refine RG.z2 ?_ | refine RG.z3 ?_ | refine RG.z4 ?_ | refine RG.z5 ?_ | refine RG.z6 ?_ | refine RG.z7 ?_ | refine RG.z8 ?_ | refine RG.z9 ?_ | refine RG.zA ?_ | refine RG.zB ?_ | refine RG.zC ?_)
      cases e2 : i == 2
      · refine RG.nilS (AC.cond_f rfl (AC.skip (AC.seq (AC.reg ?_))))
        repeat (first | refine RG.z0 ?_ | refine RG.z1 ?_ | refine RG.z2 ?_ | refine RG.z3 ?_ | refine RG.z4 ?_ | refine RG.z5 ?_ | refine RG.z6 ?_ | refine RG.z7 ?_ | refine RG.z8 ?_ | refine RG.z9 ?_ | refine RG.zA ?_ | refine RG.zB ?_ | refine RG.zC ?_)
        exact RG.nilS (AC.ret (fin rfl ⟨by simp [spaceOf, e0, e1, e2, tupD, Fr.put, Fr.set], rfl⟩))
      · refine RG.nilS (AC.cond_t rfl (AC.seq (AC.reg ?_)))
        repeat (first | refine RG.z0 ?_ | refine RG.z1 ?_ | refine RG.z2 ?_ | refine RG.z3 ?_ | refine RG.z4 ?_ | refine RG.z5 ?_ | refine RG.z6 ?_ | refine RG.z7 ?_ | refine RG.z8 ?_ | refine RG.z9 ?_ | refine RG.zA ?_ | refine RG.zB ?_ | refine RG.zC ?_)
        exact RG.nilS (AC.ret (fin rfl ⟨by simp [spaceOf, e0, e1, e2, tupD, Fr.put, Fr.set, sp2], rfl⟩))
    · refine RG.nilS (AC.cond_t rfl (AC.seq (AC.reg ?_)))
      repeat (first | refine RG.z0 ?_ | refine RG.z1 ?_ | refine RG.z2 ?_ | refine RG.z3 ?_ | refine RG.z4 ?_ | refine RG.z5 ?_ | refine RG.z6 ?_ | refine RG.z7 ?_ | refine RG.z8 ?_ | refine RG.z9 ?_ | refine RG.zA ?_ | refine RG.zB ?_ | refine RG.zC ?_)
      exact RG.nilS (AC.ret (fin rfl ⟨by simp [spaceOf, e0, e1, tupD, Fr.put, Fr.set, sp1], rfl⟩))
  · refine RG.nilS (AC.cond_t rfl (AC.seq (AC.reg ?_)))
    repeat (first | refine RG.z0 ?_ | refine RG.z1 ?_ | refine RG.z2 ?_ | refine RG.z3 ?_ | refine RG.z4 ?_ | refine RG.z5 ?_ | refine RG.z6 ?_ | refine RG.z7 ?_ | refine RG.z8 ?_ | refine RG.z9 ?_ | refine RG.zA ?_ | refine RG.zB ?_ | refine RG.zC ?_)
    exact RG.nilS (AC.ret (fin rfl ⟨by simp [spaceOf, e0, tupD, Fr.put, Fr.set, sp0], rfl⟩))

/-- The page of a namespace. -/
def pageOf (s : List UInt8) : Int := bif sp0 == s then 0 else bif sp1 == s then 1 else bif sp2 == s then 2 else -1

theorem pageOf_hit {s : List UInt8} : ∀ (n : Nat), n < 3 → (∀ k : Nat, k < n → (spaceOf (k : Nat) == s) = false) → (spaceOf (n : Nat) == s) = true → pageOf s = n
  | 0, _, _, h => by have h : (sp0 == s) = true := h; simp [pageOf, h]
  | 1, _, h0, h => by
    have a0 : (sp0 == s) = false := h0 0 (by omega)
    have h : (sp1 == s) = true := h
    simp [pageOf, a0, h]
  | 2, _, h0, h => by
    have a0 : (sp0 == s) = false := h0 0 (by omega)
    have a1 : (sp1 == s) = false := h0 1 (by omega)
    have h : (sp2 == s) = true := h
    simp [pageOf, a0, a1, h]
  | n + 3, h, _, _ => by omega

theorem pageOf_none {s : List UInt8} (h0 : ∀ k : Nat, k < 3 → (spaceOf (k : Nat) == s) = false) : pageOf s = -1 := by
  have a0 : (sp0 == s) = false := h0 0 (by omega)
  have a1 : (sp1 == s) = false := h0 1 (by omega)
  have a2 : (sp2 == s) = false := h0 2 (by omega)
  simp [pageOf, a0, a1, a2]

theorem Page_ok (s : List UInt8) : PF Go.Proofs.Tryd.prog G 44 [.str s] (.int .i64 (pageOf s)) := by
  intro H
  refine CALL.of cF44 (Nat.le_of_ble_eq_true rfl) ?_
  refine AC.seq (AC.reg ?_)
  repeat (first | refine RG.z0 ?_ | refine RG.z1 ?_ | refine RG.z2 ?_ | refine RG.z3 ?_ | refine RG.z4 ?_ | refine RG.z5 ?_ | refine RG.z6 ?_ | refine RG.z7 ?_ | refine RG.z8 ?_ | refine RG.z9 ?_ | refine RG.zA ?_ | refine RG.zB ?_ | refine RG.zC ?_)
  refine RG.nilS (AC.seq (AC.seq (AC.reg ?_)))
  repeat (first | refine RG.z0 ?_ | refine RG.z1 ?_ | refine RG.z2 ?_ | refine RG.z3 ?_ | refine RG.z4 ?_ | refine RG.z5 ?_ | refine RG.z6 ?_ | refine RG.z7 ?_ | refine RG.z8 ?_ | refine RG.z9 ?_ | refine RG.zA ?_ | refine RG.zB ?_ | refine RG.zC ?_)
  refine RG.nilS ?_
  refine AC.bloopH (α := Nat) (β := Unit) (fun n => 3 - n) (fun n => [(0, .str s), (4, .int .i64 n)]) (fun n H' => H' = H ∧ n ≤ 3 ∧ ∀ k : Nat, k < n → (spaceOf (k : Nat) == s) = false) (fun _ => [(0, .str s)]) (fun _ H' => H' = H ∧ pageOf s = -1) ?_ ?_ 0 H ⟨rfl, by omega, fun k hk => by omega⟩ ⟨rfl, rfl, trivial⟩
  · intro _ He fr ⟨h1, h2⟩ hfr
    subst h1
    refine AC.to _ hfr (AC.seq (AC.reg ?_))
    repeat (first | refine RG.z0 ?_ | refine RG.z1 ?_ | refine RG.z2 ?_ | refine RG.z3 ?_ | refine RG.z4 ?_ | refine RG.z5 ?_ | refine RG.z6 ?_ | refine RG.z7 ?_ | refine RG.z8 ?_ | refine RG.z9 ?_ | refine RG.zA ?_ | refine RG.zB ?_ | refine RG.zC ?_)
    exact RG.nilS (AC.ret (fin rfl ⟨by rw [h2]; rfl, rfl⟩))
  · intro n H' ⟨h1, h2, h3⟩ ih ex
    subst h1
    refine AC.seq (AC.reg ?_)
    repeat (first | refine RG.z0 ?_ | refine RG.z1 ?_ | refine RG.z2 ?_ | refine RG.z3 ?_ | refine RG.z4 ?_ | refine RG.z5 ?_ | refine RG.z6 ?_ | refine RG.z7 ?_ | refine RG.z8 ?_ | refine RG.z9 ?_ | refine RG.zA ?_ | refine RG.zB ?_ | refine RG.zC ?_)
    cases e1 : decide ((n : Int) < 3)
    · have e := of_decide_eq_false e1
      have : n = 3 := by omega
      subst this
      exact RG.nilS (AC.seq (AC.cond_f rfl (AC.exit (ex () _ _ ⟨rfl, pageOf_none h3⟩ ⟨rfl, trivial⟩))))
    · have e := of_decide_eq_true e1
      refine RG.nilS (AC.seq (AC.cond_t rfl (AC.skip (AC.seq (AC.block (AC.seq (AC.reg ?_)))))))
      repeat (first | refine RG.z0 ?_ | refine RG.z1 ?_ | refine RG.z2 ?_ | refine RG.z3 ?_ | refine RG.z4 ?_ | refine RG.z5 ?_ | refine RG.z6 ?_ | refine RG.z7 ?_ | refine RG.z8 ?_ | refine RG.z9 ?_ | refine RG.zA ?_ | refine RG.zB ?_ | refine RG.zC ?_)
      refine RG.nilS (AC.seq (AC.reg ?_))
      repeat (first | refine RG.z0 ?_ | refine RG.z1 ?_ | refine RG.z2 ?_ | refine RG.z3 ?_ | refine RG.z4 ?_ | refine RG.z5 ?_ | refine RG.z6 ?_ | refine RG.z7 ?_ | refine RG.z8 ?_ | refine RG.z9 ?_ | refine RG.zA ?_ | refine RG.zB ?_ | refine RG.zC ?_)
      refine RG.callP (by first | exact trivial | exact rfl) rfl (Space_ok _) ?_
      repeat (first | refine RG.z0 ?_ | refine RG.z1 ?_ | refine RG.z2 ?_ | refine RG.z3 ?_ | refine RG.z4 ?_ | refine RG.z5 ?_ | refine RG.z6 ?_ | refine RG.z7 ?_ | refine RG.z8 ?_ | refine RG.z9 ?_ | refine RG.zA ?_ | refine RG.zB ?_ | refine RG.zC ?_)
      cases e2 : spaceOf (n : Nat) == s
      · refine RG.nilS (AC.cond_f rfl (AC.skip (AC.reg ?_)))
        repeat (first | refine RG.z0 ?_ | refine RG.z1 ?_ | refine RG.z2 ?_ | refine RG.z3 ?_ | refine RG.z4 ?_ | refine RG.z5 ?_ | refine RG.z6 ?_ | refine RG.z7 ?_ | refine RG.z8 ?_ | refine RG.z9 ?_ | refine RG.zA ?_ | refine RG.zB ?_ | refine RG.zC ?_)
        refine RG.nil (ih (n + 1) _ ⟨rfl, by omega, fun k hk => ?_⟩ (by omega) _ ⟨rfl, rfl, trivial⟩)
        by_cases hkn : k = n
        · rw [hkn]; exact e2
        · exact h3 k (by omega)
      · refine RG.nilS (AC.cond_t rfl (AC.seq (AC.reg ?_)))
        repeat (first | refine RG.z0 ?_ | refine RG.z1 ?_ | refine RG.z2 ?_ | refine RG.z3 ?_ | refine RG.z4 ?_ | refine RG.z5 ?_ | refine RG.z6 ?_ | refine RG.z7 ?_ | refine RG.z8 ?_ | refine RG.z9 ?_ | refine RG.zA ?_ | refine RG.zB ?_ | refine RG.zC ?_)
        exact RG.nilS (AC.ret (fin rfl ⟨by rw [pageOf_hit n (by omega) h3 e2]; rfl, rfl⟩))

theorem need_ok (v : Bool) (a e : Int) (H : Hp) : CALL Go.Proofs.Tryd.prog G 24 [.bool v, .int .i64 a, .int .i64 e] H (fun d H' => v = true ∧ d = .tup [] ∧ H' = H) (fun d H' => v = false ∧ d = fault a e ∧ H' = H) := by
  cases v
  · exact (need_f a e H).mono (fun _ _ h => h.elim) fun d H' ⟨h1, h2⟩ => ⟨rfl, h1, h2⟩
  · exact (need_t a e H).mono (fun d H' ⟨h1, h2⟩ => ⟨rfl, h1, h2⟩) fun _ _ h => h.elim

/-- What a reader's step yields: a fault at a place, or something. -/
abbrev RES (α : Type) := Except (Int × Int) α

def closeF (s name : List UInt8) (i : Nat) : RES Nat :=
  let k := span isNameC s.length (s.drop i)
  bif !((s.drop i).take k == name) then .error (i, 19) else
  let j := i + k + wsN (s.drop (i + k))
  bif s.drop j == [] then .error (j, 1) else
  bif List.isPrefixOf [62] (s.drop j) then .ok (j + 1) else .error (j, 3)

/-- How a reader's step ends: what it yields, the reader's place behind it; or its fault. -/
def Kr1 {α : Type} (x : RES α) (f : α → DV) (at_ : α → Nat) (s : List UInt8) (b : Nat) (ty : TypeId) (H : Hp) : DV → Hp → Prop := fun d H' => ∃ v, x = .ok v ∧ d = f v ∧ H' = H.upd b (rd s (at_ v) ty)
def Kp1 {α : Type} (x : RES α) (s : List UInt8) (b : Nat) (ty : TypeId) (H : Hp) : DV → Hp → Prop := fun d H' => ∃ e j, x = .error e ∧ d = fault e.1 e.2 ∧ j ≤ s.length ∧ H' = H.upd b (rd s j ty)

theorem close_ok {b : Nat} {s name : List UInt8} {i : Nat} {ty : TypeId} {H : Hp} (hb : H b = rd s i ty) (hi : i ≤ s.length) (hs : s.length ≤ 4611686018427387904) :
    CALL Go.Proofs.Tryd.prog G 46 [.ptr b 0, .str name] H (Kr1 (closeF s name i) (fun _ => .tup []) id s b ty H) (Kp1 (closeF s name i) s b ty H) := by
  have hk := span_le isNameC s.length (s.drop i)
  have hdl : (s.drop i).length = s.length - i := by simp
  generalize hkk : span isNameC s.length (s.drop i) = k at hk
  have hw := wsN_le (s.drop (i + k))
  have hdl2 : (s.drop (i + k)).length = s.length - (i + k) := by simp
  generalize hj : i + k + wsN (s.drop (i + k)) = j
  refine CALL.of cF46 (Nat.le_of_ble_eq_true rfl) ?_
  refine AC.seq (AC.reg ?_)
  repeat (first | refine RG.z0 ?_ | refine RG.z1 ?_ | refine RG.z2 ?_ | refine RG.z3 ?_ | refine RG.z4 ?_ | refine RG.z5 ?_ | refine RG.z6 ?_ | refine RG.z7 ?_ | refine RG.z8 ?_ | refine RG.z9 ?_ | refine RG.zA ?_ | refine RG.zB ?_ | refine RG.zC ?_)
  refine RG.nilS (AC.seq (AC.reg ?_))
  repeat (first | refine RG.z0 ?_ | refine RG.z1 ?_ | refine RG.z2 ?_ | refine RG.z3 ?_ | refine RG.z4 ?_ | refine RG.z5 ?_ | refine RG.z6 ?_ | refine RG.z7 ?_ | refine RG.z8 ?_ | refine RG.z9 ?_ | refine RG.zA ?_ | refine RG.zB ?_ | refine RG.zC ?_)
  refine RG.callR (by first | exact trivial | exact rfl) rfl (name_ok hb hi hs) ?_
  rw [hkk]
  repeat (first | refine RG.z0 ?_ | refine RG.z1 ?_ | refine RG.z2 ?_ | refine RG.z3 ?_ | refine RG.z4 ?_ | refine RG.z5 ?_ | refine RG.z6 ?_ | refine RG.z7 ?_ | refine RG.z8 ?_ | refine RG.z9 ?_ | refine RG.zA ?_ | refine RG.zB ?_ | refine RG.zC ?_)
  refine RG.call (by first | exact trivial | exact rfl) rfl (need_ok ((s.drop i).take k == name) i 19 _) (fun d H' ⟨e1, e2, e3⟩ => ?_) (fun d H' ⟨e1, e2, e3⟩ => ?_)
  · subst e2; subst e3
    refine RG.nilS (AC.seq (AC.reg ?_))
    repeat (first | refine RG.z0 ?_ | refine RG.z1 ?_ | refine RG.z2 ?_ | refine RG.z3 ?_ | refine RG.z4 ?_ | refine RG.z5 ?_ | refine RG.z6 ?_ | refine RG.z7 ?_ | refine RG.z8 ?_ | refine RG.z9 ?_ | refine RG.zA ?_ | refine RG.zB ?_ | refine RG.zC ?_)
    refine RG.callR (by first | exact trivial | exact rfl) rfl (space_ok (b := b) (s := s) (i := i + k) (ty := ty) Hp.upd_same (by omega) hs) ?_
    rw [hj, Hp.upd_upd]
    have hji : j ≤ s.length := by omega
    refine RG.nilS (AC.seq (AC.drawV [1, 7] rfl ?_))
    first | refine VD.z0 0 ?_ | refine VD.z1 0 ?_ | refine VD.z2 0 ?_ | refine VD.z3 0 ?_ | refine VD.z4 0 ?_ | refine VD.z5 0 ?_
    first | refine VD.z0 3 ?_ | refine VD.z1 3 ?_ | refine VD.z2 3 ?_ | refine VD.z3 3 ?_ | refine VD.z4 3 ?_ | refine VD.z5 3 ?_
    first | refine VD.z0 4 ?_ | refine VD.z1 4 ?_ | refine VD.z2 4 ?_ | refine VD.z3 4 ?_ | refine VD.z4 4 ?_ | refine VD.z5 4 ?_
    first | refine VD.z0 5 ?_ | refine VD.z1 5 ?_ | refine VD.z2 5 ?_ | refine VD.z3 5 ?_ | refine VD.z4 5 ?_ | refine VD.z5 5 ?_
    first | refine VD.z0 6 ?_ | refine VD.z1 6 ?_ | refine VD.z2 6 ?_ | refine VD.z3 6 ?_ | refine VD.z4 6 ?_ | refine VD.z5 6 ?_
    refine VD.pe (K := fun d H' => d = .str (s.drop j) ∧ H' = H.upd b (rd s j ty)) (Kp := fun _ _ => False) 1 rfl rfl (EF.call rfl (left_ok Hp.upd_same hji)) (fun _ _ _ h => h.elim) (fun d H' ⟨f1, f2⟩ => ?_)
    subst f1; subst f2
    refine ⟨(by (repeat (refine stabAll_cons rfl (by first | exact Stab.ld rfl (by first | assumption | exact Hp.upd_same | (rw [Hp.upd_ne (by first | assumption | omega)]; first | assumption | exact Hp.upd_same | (rw [Hp.upd_ne (by first | assumption | omega)]; first | assumption | exact Hp.upd_same))) rfl rfl | exact Stab.of rfl rfl) ?_)); exact stabAll_nil), ?_⟩
    first | refine VD.z0 2 ?_ | refine VD.z1 2 ?_ | refine VD.z2 2 ?_ | refine VD.z3 2 ?_ | refine VD.z4 2 ?_ | refine VD.z5 2 ?_
    refine VD.pe (K := fun d H' => (!(s.drop j == [])) = true ∧ d = .tup [] ∧ H' = H.upd b (rd s j ty)) (Kp := fun d H' => (!(s.drop j == [])) = false ∧ d = fault j 1 ∧ H' = H.upd b (rd s j ty)) 7 rfl rfl (EF.call rfl (need_ok _ j 1 _)) (fun d fr' H' ⟨f1, f2, f3⟩ => ?_) (fun d H' ⟨f1, f2, f3⟩ => ?_)
    · have f4 : (s.drop j == []) = true := by
        cases h : (s.drop j == []) with
        | true => rfl
        | false => rw [h] at f1; cases f1
      exact ⟨H', SubH.refl _, (j, 1), j, by simp only [closeF, hkk, e1, hj, f4]; rfl, f2, hji, f3⟩
    · subst f2; subst f3
      refine ⟨(by (repeat (refine stabAll_cons rfl (by first | exact Stab.ld rfl (by first | assumption | exact Hp.upd_same | (rw [Hp.upd_ne (by first | assumption | omega)]; first | assumption | exact Hp.upd_same | (rw [Hp.upd_ne (by first | assumption | omega)]; first | assumption | exact Hp.upd_same))) rfl rfl | exact Stab.of rfl rfl) ?_)); exact stabAll_nil), ?_⟩
      refine VD.pd rfl ?_
      refine AC.seq (AC.reg ?_)
      repeat (first | refine RG.z0 ?_ | refine RG.z1 ?_ | refine RG.z2 ?_ | refine RG.z3 ?_ | refine RG.z4 ?_ | refine RG.z5 ?_ | refine RG.z6 ?_ | refine RG.z7 ?_ | refine RG.z8 ?_ | refine RG.z9 ?_ | refine RG.zA ?_ | refine RG.zB ?_ | refine RG.zC ?_)
      refine RG.nilS (AC.reg ?_)
      repeat (first | refine RG.z0 ?_ | refine RG.z1 ?_ | refine RG.z2 ?_ | refine RG.z3 ?_ | refine RG.z4 ?_ | refine RG.z5 ?_ | refine RG.z6 ?_ | refine RG.z7 ?_ | refine RG.z8 ?_ | refine RG.z9 ?_ | refine RG.zA ?_ | refine RG.zB ?_ | refine RG.zC ?_)
      refine RG.callR (by first | exact trivial | exact rfl) rfl (has_ok (b := b) (s := s) (i := j) (ty := ty) Hp.upd_same hji (by simp; omega)) ?_
      rw [Hp.upd_upd]
      repeat (first | refine RG.z0 ?_ | refine RG.z1 ?_ | refine RG.z2 ?_ | refine RG.z3 ?_ | refine RG.z4 ?_ | refine RG.z5 ?_ | refine RG.z6 ?_ | refine RG.z7 ?_ | refine RG.z8 ?_ | refine RG.z9 ?_ | refine RG.zA ?_ | refine RG.zB ?_ | refine RG.zC ?_)
      refine RG.call (by first | exact trivial | exact rfl) rfl (need_ok _ j 3 _) (fun d H' ⟨g1, g2, g3⟩ => ?_) (fun d H' ⟨g1, g2, g3⟩ => ?_)
      · subst g2; subst g3
        have f4 : (s.drop j == []) = false := by simpa using f1
        exact RG.nil (fin rfl ⟨j + 1, by simp [closeF, hkk, e1, hj, f4, g1], rfl, by rw [g1]; rfl⟩)
      · have f4 : (s.drop j == []) = false := by simpa using f1
        exact ⟨H', SubH.refl _, (j, 3), j, by simp [closeF, hkk, e1, hj, f4, g1], g2, hji, by rw [g3, g1]; rfl⟩
  · exact ⟨H', SubH.refl _, (i, 19), i + k, by simp [closeF, hkk, e1], e2, by omega, e3⟩
end Go.Run.Tryd
