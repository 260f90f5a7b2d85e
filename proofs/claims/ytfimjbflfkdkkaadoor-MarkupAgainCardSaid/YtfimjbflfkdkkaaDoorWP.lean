/- Proofs. -/
import Derived.Test.YtfimjbflfkdkkaaDoorWM
import Derived.Test.YtfimjbflfkdkkaaDoorWK
/- The document's own letters. -/
namespace Go.Run.Tryd
open Go Go.Run Go.RowKit
/-! cardcase/cardcaseref06.one -/
def F87 : FN := ⟨89, (.seq (.reg [⟨(some 2), none, .mv (.c (.int .i64 0))⟩,
    ⟨(some 3), none, .mv (.c (.int .i64 0))⟩])
  (.seq (.seq (.reg [⟨(some 9), none, .mv (.t 0)⟩,
    ⟨(some 10), none, .bin .eql (.t 9) (.c (.str []))⟩])
  (.cond (.t 10) (.seq (.reg [⟨(some 2), none, .mv (.c (.int .i64 0))⟩,
    ⟨(some 3), none, .mv (.c (.int .i64 0))⟩])
  .ret)
  .skip))
  (.seq (.reg [⟨(some 11), none, .mv (.t 0)⟩,
    ⟨(some 12), none, .idx (.t 11) (.c (.int .i64 0))⟩,
    ⟨(some 13), none, .conv .i64 (.t 12)⟩,
    ⟨(some 4), none, .mv (.t 13)⟩])
  (.seq (.reg [⟨(some 5), none, .mv (.c (.int .i64 0))⟩,
    ⟨(some 6), none, .mv (.c (.int .i64 0))⟩,
    ⟨(some 7), none, .mv (.c (.int .i64 0))⟩])
  (.seq (.block 0 (.seq (.reg [⟨(some 15), none, .mv (.t 4)⟩,
    ⟨(some 16), none, .bin .lss (.t 15) (.c (.int .i64 128))⟩,
    ⟨(some 14), none, .mv (.t 16)⟩])
  (.cond (.t 14) (.seq (.reg [⟨(some 17), none, .mv (.t 4)⟩,
    ⟨(some 2), none, .mv (.t 17)⟩,
    ⟨(some 3), none, .mv (.c (.int .i64 1))⟩])
  .ret)
  (.seq (.reg [⟨(some 19), none, .mv (.t 4)⟩,
    ⟨(some 20), none, .bin .geq (.t 19) (.c (.int .i64 192))⟩,
    ⟨(some 21), none, .mv (.t 20)⟩,
    ⟨(some 22), some (21, true), .mv (.t 4)⟩,
    ⟨(some 23), some (21, true), .bin .lss (.t 22) (.c (.int .i64 224))⟩,
    ⟨(some 24), none, .pick (.t 21) (.t 23) (.c (.bool false))⟩,
    ⟨(some 18), none, .mv (.t 24)⟩])
  (.cond (.t 18) (.reg [⟨(some 25), none, .mv (.t 4)⟩,
    ⟨(some 26), none, .bin .rem (.t 25) (.c (.int .i64 32))⟩,
    ⟨(some 5), none, .mv (.c (.int .i64 2))⟩,
    ⟨(some 6), none, .mv (.t 26)⟩,
    ⟨(some 7), none, .mv (.c (.int .i64 128))⟩])
  (.seq (.reg [⟨(some 28), none, .mv (.t 4)⟩,
    ⟨(some 29), none, .bin .geq (.t 28) (.c (.int .i64 224))⟩,
    ⟨(some 30), none, .mv (.t 29)⟩,
    ⟨(some 31), some (30, true), .mv (.t 4)⟩,
    ⟨(some 32), some (30, true), .bin .lss (.t 31) (.c (.int .i64 240))⟩,
    ⟨(some 33), none, .pick (.t 30) (.t 32) (.c (.bool false))⟩,
    ⟨(some 27), none, .mv (.t 33)⟩])
  (.cond (.t 27) (.reg [⟨(some 34), none, .mv (.t 4)⟩,
    ⟨(some 35), none, .bin .rem (.t 34) (.c (.int .i64 16))⟩,
    ⟨(some 5), none, .mv (.c (.int .i64 3))⟩,
    ⟨(some 6), none, .mv (.t 35)⟩,
    ⟨(some 7), none, .mv (.c (.int .i64 2048))⟩])
  (.seq (.reg [⟨(some 37), none, .mv (.t 4)⟩,
    ⟨(some 38), none, .bin .geq (.t 37) (.c (.int .i64 240))⟩,
    ⟨(some 39), none, .mv (.t 38)⟩,
    ⟨(some 40), some (39, true), .mv (.t 4)⟩,
    ⟨(some 41), some (39, true), .bin .lss (.t 40) (.c (.int .i64 248))⟩,
    ⟨(some 42), none, .pick (.t 39) (.t 41) (.c (.bool false))⟩,
    ⟨(some 36), none, .mv (.t 42)⟩])
  (.cond (.t 36) (.reg [⟨(some 43), none, .mv (.t 4)⟩,
    ⟨(some 44), none, .bin .rem (.t 43) (.c (.int .i64 8))⟩,
    ⟨(some 5), none, .mv (.c (.int .i64 4))⟩,
    ⟨(some 6), none, .mv (.t 44)⟩,
    ⟨(some 7), none, .mv (.c (.int .i64 65536))⟩])
  (.seq (.reg [⟨(some 2), none, .mv (.c (.int .i64 0))⟩,
    ⟨(some 3), none, .mv (.c (.int .i64 0))⟩])
  .ret))))))))))
  (.seq (.seq (.reg [⟨(some 45), none, .mv (.t 0)⟩,
    ⟨(some 46), none, .len true (.t 45)⟩,
    ⟨(some 47), none, .mv (.t 5)⟩,
    ⟨(some 48), none, .bin .lss (.t 46) (.t 47)⟩])
  (.cond (.t 48) (.seq (.reg [⟨(some 2), none, .mv (.c (.int .i64 0))⟩,
    ⟨(some 3), none, .mv (.c (.int .i64 0))⟩])
  .ret)
  .skip))
  (.seq (.seq (.reg [⟨(some 8), none, .mv (.c (.int .i64 1))⟩])
  (.block 1 (.loop (.seq (.seq (.reg [⟨(some 49), none, .mv (.t 8)⟩,
    ⟨(some 50), none, .mv (.t 5)⟩,
    ⟨(some 51), none, .bin .lss (.t 49) (.t 50)⟩])
  (.cond (.t 51) .skip
  (.exit 1)))
  (.seq (.block 2 (.seq (.seq (.reg [⟨(some 54), none, .mv (.t 0)⟩,
    ⟨(some 55), none, .mv (.t 8)⟩,
    ⟨(some 56), none, .idx (.t 54) (.t 55)⟩,
    ⟨(some 57), none, .bin .lss (.t 56) (.c (.int .u8 128))⟩,
    ⟨(some 58), none, .mv (.t 57)⟩,
    ⟨(some 59), some (58, false), .mv (.t 0)⟩,
    ⟨(some 60), some (58, false), .mv (.t 8)⟩,
    ⟨(some 61), some (58, false), .idx (.t 59) (.t 60)⟩,
    ⟨(some 62), some (58, false), .bin .geq (.t 61) (.c (.int .u8 192))⟩,
    ⟨(some 63), none, .pick (.t 58) (.c (.bool true)) (.t 62)⟩])
  (.cond (.t 63) (.seq (.reg [⟨(some 2), none, .mv (.c (.int .i64 0))⟩,
    ⟨(some 3), none, .mv (.c (.int .i64 0))⟩])
  .ret)
  .skip))
  (.reg [⟨(some 64), none, .mv (.t 6)⟩,
    ⟨(some 65), none, .bin .mul (.c (.int .i64 64)) (.t 64)⟩,
    ⟨(some 66), none, .mv (.t 0)⟩,
    ⟨(some 67), none, .mv (.t 8)⟩,
    ⟨(some 68), none, .idx (.t 66) (.t 67)⟩,
    ⟨(some 69), none, .conv .i64 (.t 68)⟩,
    ⟨(some 70), none, .bin .rem (.t 69) (.c (.int .i64 64))⟩,
    ⟨(some 71), none, .bin .add (.t 65) (.t 70)⟩,
    ⟨(some 6), none, .mv (.t 71)⟩])))
  (.reg [⟨(some 52), none, .mv (.t 8)⟩,
    ⟨(some 53), none, .bin .add (.t 52) (.c (.int .i64 1))⟩,
    ⟨(some 8), none, .mv (.t 53)⟩]))))))
  (.seq (.seq (.reg [⟨(some 72), none, .mv (.t 6)⟩,
    ⟨(some 73), none, .mv (.t 7)⟩,
    ⟨(some 74), none, .bin .lss (.t 72) (.t 73)⟩,
    ⟨(some 75), none, .mv (.t 74)⟩,
    ⟨(some 76), some (75, false), .mv (.t 6)⟩,
    ⟨(some 77), some (75, false), .bin .geq (.t 76) (.c (.int .i64 55296))⟩,
    ⟨(some 78), some (75, false), .mv (.t 77)⟩,
    ⟨(some 79), some (78, true), .mv (.t 6)⟩,
    ⟨(some 80), some (78, true), .bin .lss (.t 79) (.c (.int .i64 57344))⟩,
    ⟨(some 81), some (75, false), .pick (.t 78) (.t 80) (.c (.bool false))⟩,
    ⟨(some 82), none, .pick (.t 75) (.c (.bool true)) (.t 81)⟩,
    ⟨(some 83), none, .mv (.t 82)⟩,
    ⟨(some 84), some (83, false), .mv (.t 6)⟩,
    ⟨(some 85), some (83, false), .bin .gtr (.t 84) (.c (.int .i64 1114111))⟩,
    ⟨(some 86), none, .pick (.t 83) (.c (.bool true)) (.t 85)⟩])
  (.cond (.t 86) (.seq (.reg [⟨(some 2), none, .mv (.c (.int .i64 0))⟩,
    ⟨(some 3), none, .mv (.c (.int .i64 0))⟩])
  .ret)
  .skip))
  (.seq (.reg [⟨(some 87), none, .mv (.t 6)⟩,
    ⟨(some 88), none, .mv (.t 5)⟩,
    ⟨(some 2), none, .mv (.t 87)⟩,
    ⟨(some 3), none, .mv (.t 88)⟩])
  .ret))))))))), [.tmp 2, .tmp 3]⟩
theorem cF87 : cFn Go.Proofs.Tryd.prog 87 = some F87 := by kernel_rfl
/-! cardcase/cardcaseref06.Letters -/
def F74 : FN := ⟨26, (.seq (.reg [⟨(some 2), none, .mv (.c .nils)⟩,
    ⟨(some 3), none, .mv (.c (.bool false))⟩])
  (.seq (.reg [⟨(some 4), none, .mv (.c .nils)⟩])
  (.seq (.block 0 (.loop (.seq (.seq (.reg [⟨(some 7), none, .mv (.t 0)⟩,
    ⟨(some 8), none, .bin .neq (.t 7) (.c (.str []))⟩])
  (.cond (.t 8) .skip
  (.exit 0)))
  (.block 1 (.seq (.reg [⟨(some 10), none, .mv (.t 0)⟩,
    ⟨(some 11), none, .call 87 [(.t 10)]⟩,
    ⟨(some 9), none, .mv (.t 11)⟩,
    ⟨(some 12), none, .ext (.t 9) 0⟩,
    ⟨(some 13), none, .ext (.t 9) 1⟩,
    ⟨(some 5), none, .mv (.t 12)⟩,
    ⟨(some 6), none, .mv (.t 13)⟩])
  (.seq (.seq (.reg [⟨(some 14), none, .mv (.t 6)⟩,
    ⟨(some 15), none, .bin .eql (.t 14) (.c (.int .i64 0))⟩])
  (.cond (.t 15) (.seq (.reg [⟨(some 16), none, .mv (.t 4)⟩,
    ⟨(some 2), none, .mv (.t 16)⟩,
    ⟨(some 3), none, .mv (.c (.bool false))⟩])
  .ret)
  .skip))
  (.seq (.reg [⟨(some 17), none, .mv (.t 4)⟩,
    ⟨(some 18), none, .mv (.t 5)⟩,
    ⟨(some 19), none, .conv .i32 (.t 18)⟩,
    ⟨(some 20), none, .bsl 21 1 1 [(.int .i32 0)] [(0, 1, (.t 19))]⟩,
    ⟨(some 21), none, .app 21 1 4 (.t 17) (.t 20)⟩,
    ⟨(some 4), none, .mv (.t 21)⟩])
  (.reg [⟨(some 22), none, .mv (.t 0)⟩,
    ⟨(some 23), none, .mv (.t 6)⟩,
    ⟨(some 24), none, .slcS (.t 22) (some (.t 23)) none⟩,
    ⟨(some 0), none, .mv (.t 24)⟩]))))))))
  (.seq (.reg [⟨(some 25), none, .mv (.t 4)⟩,
    ⟨(some 2), none, .mv (.t 25)⟩,
    ⟨(some 3), none, .mv (.c (.bool true))⟩])
  .ret)))), [.tmp 2, .tmp 3]⟩
theorem cF74 : cFn Go.Proofs.Tryd.prog 74 = some F74 := by kernel_rfl
/-! cardcase/cardcaseref06.Valid -/
def F50 : FN := ⟨11, (.seq (.reg [⟨(some 2), none, .mv (.c (.bool false))⟩])
  (.seq (.reg [⟨(some 6), none, .mv (.t 0)⟩,
    ⟨(some 7), none, .call 74 [(.t 6)]⟩,
    ⟨(some 5), none, .mv (.t 7)⟩,
    ⟨(some 8), none, .ext (.t 5) 0⟩,
    ⟨(some 9), none, .ext (.t 5) 1⟩,
    ⟨(some 3), none, .mv (.t 8)⟩,
    ⟨(some 4), none, .mv (.t 9)⟩])
  (.seq (.reg [⟨(some 10), none, .mv (.t 4)⟩,
    ⟨(some 2), none, .mv (.t 10)⟩])
  .ret))), [.tmp 2]⟩
theorem cF50 : cFn Go.Proofs.Tryd.prog 50 = some F50 := by kernel_rfl
variable {G : Gl}

def foldX (s : List UInt8) (x0 : Nat) : Nat → Nat
  | 0 => x0
  | i + 1 => 64 * foldX s x0 i + (s.getD (i + 1) 0).toNat % 64

theorem foldX_lt (s : List UInt8) {x0 : Nat} (h : x0 < 32) : ∀ i, i ≤ 3 → foldX s x0 i < 32 * 64 ^ i
  | 0, _ => by simpa [foldX] using h
  | i + 1, hi => by
    have := foldX_lt s h i (by omega)
    rw [foldX, Nat.pow_succ]
    have := Nat.mod_lt (s.getD (i + 1) 0).toNat (show 0 < 64 by decide)
    omega

/-- What the walk behind the first byte leans on. -/
structure ONE (s : List UInt8) (k x0 least : Nat) : Prop where
  k2 : 2 ≤ k
  k4 : k ≤ 4
  kl : k ≤ s.length
  co : ∀ j, 1 ≤ j → j < k → (s.getD j 0).toNat / 64 = 2
  x5 : x0 < 32
  le : least ≤ foldX s x0 (k - 1)
  su : foldX s x0 (k - 1) < 55296 ∨ 57344 ≤ foldX s x0 (k - 1)
  mx : foldX s x0 (k - 1) ≤ 1114111

theorem one_cases {s : List UInt8} (hok : ¬ ((Lib.decodeL s).1 = 65533 ∧ (Lib.decodeL s).2 = 1)) : ((s.getD 0 0).toNat < 128 ∧ (Lib.decodeL s).2 = 1) ∨
    (192 ≤ (s.getD 0 0).toNat ∧ (s.getD 0 0).toNat < 224 ∧ (Lib.decodeL s).2 = 2 ∧ ONE s 2 ((s.getD 0 0).toNat % 32) 128) ∨
    (224 ≤ (s.getD 0 0).toNat ∧ (s.getD 0 0).toNat < 240 ∧ (Lib.decodeL s).2 = 3 ∧ ONE s 3 ((s.getD 0 0).toNat % 16) 2048) ∨
    (240 ≤ (s.getD 0 0).toNat ∧ (s.getD 0 0).toNat < 248 ∧ (Lib.decodeL s).2 = 4 ∧ ONE s 4 ((s.getD 0 0).toNat % 8) 65536) := by
  rw [Lib.decodeL_N] at hok ⊢
  unfold Lib.decodeN at hok ⊢
  split
  · exact .inl ⟨‹_›, rfl⟩
  rename_i h1
  rw [if_neg h1] at hok
  split
  · rename_i h2
    rw [if_pos h2] at hok
    split
    · rename_i h3
      refine .inr (.inl ⟨by omega, by omega, rfl, ⟨by omega, by omega, by omega, fun j j1 j2 => ?_, by omega, ?_, ?_, ?_⟩⟩)
      · have : j = 1 := by omega
        subst this; omega
      all_goals (simp only [foldX, Nat.zero_add, Nat.reduceAdd, Nat.reduceSub]; omega)
    · rename_i h3
      rw [if_neg h3] at hok
      exact absurd ⟨rfl, rfl⟩ hok
  rename_i h2
  rw [if_neg h2] at hok
  split
  · rename_i h3
    rw [if_pos h3] at hok
    split
    · rename_i h4
      refine .inr (.inr (.inl ⟨by omega, by omega, rfl, ⟨by omega, by omega, by omega, fun j j1 j2 => ?_, by omega, ?_, ?_, ?_⟩⟩))
      · have : j = 1 ∨ j = 2 := by omega
        rcases this with rfl | rfl <;> omega
      all_goals (simp only [foldX, Nat.zero_add, Nat.reduceAdd, Nat.reduceSub]; omega)
    · rename_i h4
      rw [if_neg h4] at hok
      exact absurd ⟨rfl, rfl⟩ hok
  rename_i h3
  rw [if_neg h3] at hok
  split
  · rename_i h4
    rw [if_pos h4] at hok
    split
    · rename_i h5
      refine .inr (.inr (.inr ⟨by omega, by omega, rfl, ⟨by omega, by omega, by omega, fun j j1 j2 => ?_, by omega, ?_, ?_, ?_⟩⟩))
      · have : j = 1 ∨ j = 2 ∨ j = 3 := by omega
        rcases this with rfl | rfl | rfl <;> omega
      all_goals (simp only [foldX, Nat.zero_add, Nat.reduceAdd, Nat.reduceSub]; omega)
    · rename_i h5
      rw [if_neg h5] at hok
      exact absurd ⟨rfl, rfl⟩ hok
  · rename_i h4
    rw [if_neg h4] at hok
    exact absurd ⟨rfl, rfl⟩ hok

theorem at0 {s : List UInt8} {i : Nat} (h : i < s.length) : s[i]? = some (s.getD i 0) := by
  simp [List.getD, List.getElem?_eq_getElem h]
theorem ev_bool {b b' : Bool} (h : b = b') : (some (DV.bool b) : Option DV) = some (.bool b') := by rw [h]

theorem one_ok {s : List UInt8} (hne : s ≠ []) (hok : ¬ ((Lib.decodeL s).1 = 65533 ∧ (Lib.decodeL s).2 = 1)) (H : Hp) : CALL Go.Proofs.Tryd.prog G 87 [.str s] H (fun r H' => (∃ x, r = .tup [.int .i64 x, .int .i64 (Lib.decodeL s).2]) ∧ H' = H) (fun _ _ => False) := by
  have hl : 0 < s.length := List.length_pos_iff.2 hne
  have hcs := one_cases hok
  have hb := (s.getD 0 0).toNat_lt
  refine CALL.of cF87 (Nat.le_of_ble_eq_true rfl) ?_
  refine AC.seq (AC.reg ?_)
  (first | refine RG.z0 ?_ | refine RG.z1 ?_ | refine RG.z2 ?_ | refine RG.z3 ?_ | refine RG.z4 ?_ | refine RG.z5 ?_ | refine RG.z6 ?_ | refine RG.z7 ?_ | refine RG.z8 ?_ | refine RG.z9 ?_ | refine RG.zA ?_ | refine RG.zB ?_ | refine RG.zC ?_)
  (first | refine RG.z0 ?_ | refine RG.z1 ?_ | refine RG.z2 ?_ | refine RG.z3 ?_ | refine RG.z4 ?_ | refine RG.z5 ?_ | refine RG.z6 ?_ | refine RG.z7 ?_ | refine RG.z8 ?_ | refine RG.z9 ?_ | refine RG.zA ?_ | refine RG.zB ?_ | refine RG.zC ?_)
  refine RG.nilS (AC.seq (AC.seq (AC.reg ?_)))
  (first | refine RG.z0 ?_ | refine RG.z1 ?_ | refine RG.z2 ?_ | refine RG.z3 ?_ | refine RG.z4 ?_ | refine RG.z5 ?_ | refine RG.z6 ?_ | refine RG.z7 ?_ | refine RG.z8 ?_ | refine RG.z9 ?_ | refine RG.zA ?_ | refine RG.zB ?_ | refine RG.zC ?_)
  refine RG.p (d := .bool false) (by first | exact trivial | exact rfl) (ev_bool (by cases s with | nil => exact absurd rfl hne | cons a l => rfl)) ?_
  refine RG.nilS (AC.cond_f rfl (AC.skip (AC.seq (AC.reg ?_))))
  (first | refine RG.z0 ?_ | refine RG.z1 ?_ | refine RG.z2 ?_ | refine RG.z3 ?_ | refine RG.z4 ?_ | refine RG.z5 ?_ | refine RG.z6 ?_ | refine RG.z7 ?_ | refine RG.z8 ?_ | refine RG.z9 ?_ | refine RG.zA ?_ | refine RG.zB ?_ | refine RG.zC ?_)
  refine RG.at (b := s.getD 0 0) (by first | exact trivial | exact rfl) rfl rfl (by omega) (at0 hl) ?_
  refine RG.p (d := .int .i64 (s.getD 0 0).toNat) (by first | exact trivial | exact rfl) (by
    show some (DV.int .i64 (IntKind.wrap .i64 ((s.getD 0 0).toNat : Int))) = _
    rw [IntWalk.i64_in _ (by omega)]) ?_
  (first | refine RG.z0 ?_ | refine RG.z1 ?_ | refine RG.z2 ?_ | refine RG.z3 ?_ | refine RG.z4 ?_ | refine RG.z5 ?_ | refine RG.z6 ?_ | refine RG.z7 ?_ | refine RG.z8 ?_ | refine RG.z9 ?_ | refine RG.zA ?_ | refine RG.zB ?_ | refine RG.zC ?_)
  generalize hc : (s.getD 0 0).toNat = c at hcs hb ⊢
  refine RG.nilS (AC.seq (AC.reg ?_))
  (first | refine RG.z0 ?_ | refine RG.z1 ?_ | refine RG.z2 ?_ | refine RG.z3 ?_ | refine RG.z4 ?_ | refine RG.z5 ?_ | refine RG.z6 ?_ | refine RG.z7 ?_ | refine RG.z8 ?_ | refine RG.z9 ?_ | refine RG.zA ?_ | refine RG.zB ?_ | refine RG.zC ?_)
  (first | refine RG.z0 ?_ | refine RG.z1 ?_ | refine RG.z2 ?_ | refine RG.z3 ?_ | refine RG.z4 ?_ | refine RG.z5 ?_ | refine RG.z6 ?_ | refine RG.z7 ?_ | refine RG.z8 ?_ | refine RG.z9 ?_ | refine RG.zA ?_ | refine RG.zB ?_ | refine RG.zC ?_)
  (first | refine RG.z0 ?_ | refine RG.z1 ?_ | refine RG.z2 ?_ | refine RG.z3 ?_ | refine RG.z4 ?_ | refine RG.z5 ?_ | refine RG.z6 ?_ | refine RG.z7 ?_ | refine RG.z8 ?_ | refine RG.z9 ?_ | refine RG.zA ?_ | refine RG.zB ?_ | refine RG.zC ?_)
  refine RG.nilS (AC.seqI (I := fun fr' H2 => ∃ k x0 least : Nat, (Lib.decodeL s).2 = k ∧ ONE s k x0 least ∧ H2 = H ∧ Agrees fr' [(0, .str s), (5, .int .i64 k), (6, .int .i64 x0), (7, .int .i64 least)]) ?_ ?_)
  · refine AC.block (AC.seq (AC.reg ?_))
    (first | refine RG.z0 ?_ | refine RG.z1 ?_ | refine RG.z2 ?_ | refine RG.z3 ?_ | refine RG.z4 ?_ | refine RG.z5 ?_ | refine RG.z6 ?_ | refine RG.z7 ?_ | refine RG.z8 ?_ | refine RG.z9 ?_ | refine RG.zA ?_ | refine RG.zB ?_ | refine RG.zC ?_)
    rcases hcs with ⟨h1, h2⟩ | hcs
    · refine RG.p (d := .bool true) (by first | exact trivial | exact rfl) (ev_bool (by simp; omega)) ?_
      (first | refine RG.z0 ?_ | refine RG.z1 ?_ | refine RG.z2 ?_ | refine RG.z3 ?_ | refine RG.z4 ?_ | refine RG.z5 ?_ | refine RG.z6 ?_ | refine RG.z7 ?_ | refine RG.z8 ?_ | refine RG.z9 ?_ | refine RG.zA ?_ | refine RG.zB ?_ | refine RG.zC ?_)
      refine RG.nilS (AC.cond_t rfl (AC.seq (AC.reg ?_)))
      (first | refine RG.z0 ?_ | refine RG.z1 ?_ | refine RG.z2 ?_ | refine RG.z3 ?_ | refine RG.z4 ?_ | refine RG.z5 ?_ | refine RG.z6 ?_ | refine RG.z7 ?_ | refine RG.z8 ?_ | refine RG.z9 ?_ | refine RG.zA ?_ | refine RG.zB ?_ | refine RG.zC ?_)
      (first | refine RG.z0 ?_ | refine RG.z1 ?_ | refine RG.z2 ?_ | refine RG.z3 ?_ | refine RG.z4 ?_ | refine RG.z5 ?_ | refine RG.z6 ?_ | refine RG.z7 ?_ | refine RG.z8 ?_ | refine RG.z9 ?_ | refine RG.zA ?_ | refine RG.zB ?_ | refine RG.zC ?_)
      (first | refine RG.z0 ?_ | refine RG.z1 ?_ | refine RG.z2 ?_ | refine RG.z3 ?_ | refine RG.z4 ?_ | refine RG.z5 ?_ | refine RG.z6 ?_ | refine RG.z7 ?_ | refine RG.z8 ?_ | refine RG.z9 ?_ | refine RG.zA ?_ | refine RG.zB ?_ | refine RG.zC ?_)
      refine RG.nilS (AC.ret (fin rfl ⟨⟨c, ?_⟩, rfl⟩))
      rw [h2]; rfl
    have h128 : 128 ≤ c := by rcases hcs with h | h | h <;> omega
    refine RG.p (d := .bool false) (by first | exact trivial | exact rfl) (ev_bool (by simp; omega)) ?_
    (first | refine RG.z0 ?_ | refine RG.z1 ?_ | refine RG.z2 ?_ | refine RG.z3 ?_ | refine RG.z4 ?_ | refine RG.z5 ?_ | refine RG.z6 ?_ | refine RG.z7 ?_ | refine RG.z8 ?_ | refine RG.z9 ?_ | refine RG.zA ?_ | refine RG.zB ?_ | refine RG.zC ?_)
    refine RG.nilS (AC.cond_f rfl (AC.seq (AC.reg ?_)))
    (first | refine RG.z0 ?_ | refine RG.z1 ?_ | refine RG.z2 ?_ | refine RG.z3 ?_ | refine RG.z4 ?_ | refine RG.z5 ?_ | refine RG.z6 ?_ | refine RG.z7 ?_ | refine RG.z8 ?_ | refine RG.z9 ?_ | refine RG.zA ?_ | refine RG.zB ?_ | refine RG.zC ?_)
    rcases hcs with ⟨h1, h2, h3, h4⟩ | hcs
    · refine RG.p (d := .bool true) (by first | exact trivial | exact rfl) (ev_bool (by simp; omega)) ?_
      (first | refine RG.z0 ?_ | refine RG.z1 ?_ | refine RG.z2 ?_ | refine RG.z3 ?_ | refine RG.z4 ?_ | refine RG.z5 ?_ | refine RG.z6 ?_ | refine RG.z7 ?_ | refine RG.z8 ?_ | refine RG.z9 ?_ | refine RG.zA ?_ | refine RG.zB ?_ | refine RG.zC ?_)
      (first | refine RG.z0 ?_ | refine RG.z1 ?_ | refine RG.z2 ?_ | refine RG.z3 ?_ | refine RG.z4 ?_ | refine RG.z5 ?_ | refine RG.z6 ?_ | refine RG.z7 ?_ | refine RG.z8 ?_ | refine RG.z9 ?_ | refine RG.zA ?_ | refine RG.zB ?_ | refine RG.zC ?_)
      refine RG.p (d := .bool true) (by first | exact trivial | exact rfl) (ev_bool (by simp; omega)) ?_
      (first | refine RG.z0 ?_ | refine RG.z1 ?_ | refine RG.z2 ?_ | refine RG.z3 ?_ | refine RG.z4 ?_ | refine RG.z5 ?_ | refine RG.z6 ?_ | refine RG.z7 ?_ | refine RG.z8 ?_ | refine RG.z9 ?_ | refine RG.zA ?_ | refine RG.zB ?_ | refine RG.zC ?_)
      (first | refine RG.z0 ?_ | refine RG.z1 ?_ | refine RG.z2 ?_ | refine RG.z3 ?_ | refine RG.z4 ?_ | refine RG.z5 ?_ | refine RG.z6 ?_ | refine RG.z7 ?_ | refine RG.z8 ?_ | refine RG.z9 ?_ | refine RG.zA ?_ | refine RG.zB ?_ | refine RG.zC ?_)
      refine RG.nilS (AC.cond_t rfl (AC.reg ?_))
      (first | refine RG.z0 ?_ | refine RG.z1 ?_ | refine RG.z2 ?_ | refine RG.z3 ?_ | refine RG.z4 ?_ | refine RG.z5 ?_ | refine RG.z6 ?_ | refine RG.z7 ?_ | refine RG.z8 ?_ | refine RG.z9 ?_ | refine RG.zA ?_ | refine RG.zB ?_ | refine RG.zC ?_)
      refine RG.p (d := .int .i64 (c % 32 : Nat)) (by first | exact trivial | exact rfl) (by
        show (if (32 : Int) = 0 then none else some (DV.int .i64 ((c : Int).tmod 32))) = _
        rw [if_neg (by decide), Int.tmod_eq_emod_of_nonneg (by omega)]; rfl) ?_
      (first | refine RG.z0 ?_ | refine RG.z1 ?_ | refine RG.z2 ?_ | refine RG.z3 ?_ | refine RG.z4 ?_ | refine RG.z5 ?_ | refine RG.z6 ?_ | refine RG.z7 ?_ | refine RG.z8 ?_ | refine RG.z9 ?_ | refine RG.zA ?_ | refine RG.zB ?_ | refine RG.zC ?_)
      (first | refine RG.z0 ?_ | refine RG.z1 ?_ | refine RG.z2 ?_ | refine RG.z3 ?_ | refine RG.z4 ?_ | refine RG.z5 ?_ | refine RG.z6 ?_ | refine RG.z7 ?_ | refine RG.z8 ?_ | refine RG.z9 ?_ | refine RG.zA ?_ | refine RG.zB ?_ | refine RG.zC ?_)
      (first | refine RG.z0 ?_ | refine RG.z1 ?_ | refine RG.z2 ?_ | refine RG.z3 ?_ | refine RG.z4 ?_ | refine RG.z5 ?_ | refine RG.z6 ?_ | refine RG.z7 ?_ | refine RG.z8 ?_ | refine RG.z9 ?_ | refine RG.zA ?_ | refine RG.zB ?_ | refine RG.zC ?_)
      exact RG.nil ⟨2, c % 32, 128, h3, h4, rfl, rfl, rfl, rfl, rfl, trivial⟩
    have h224 : 224 ≤ c := by rcases hcs with h | h <;> omega
    refine RG.p (d := .bool true) (by first | exact trivial | exact rfl) (ev_bool (by simp; omega)) ?_
    (first | refine RG.z0 ?_ | refine RG.z1 ?_ | refine RG.z2 ?_ | refine RG.z3 ?_ | refine RG.z4 ?_ | refine RG.z5 ?_ | refine RG.z6 ?_ | refine RG.z7 ?_ | refine RG.z8 ?_ | refine RG.z9 ?_ | refine RG.zA ?_ | refine RG.zB ?_ | refine RG.zC ?_)
    (first | refine RG.z0 ?_ | refine RG.z1 ?_ | refine RG.z2 ?_ | refine RG.z3 ?_ | refine RG.z4 ?_ | refine RG.z5 ?_ | refine RG.z6 ?_ | refine RG.z7 ?_ | refine RG.z8 ?_ | refine RG.z9 ?_ | refine RG.zA ?_ | refine RG.zB ?_ | refine RG.zC ?_)
    refine RG.p (d := .bool false) (by first | exact trivial | exact rfl) (ev_bool (by simp; omega)) ?_
    (first | refine RG.z0 ?_ | refine RG.z1 ?_ | refine RG.z2 ?_ | refine RG.z3 ?_ | refine RG.z4 ?_ | refine RG.z5 ?_ | refine RG.z6 ?_ | refine RG.z7 ?_ | refine RG.z8 ?_ | refine RG.z9 ?_ | refine RG.zA ?_ | refine RG.zB ?_ | refine RG.zC ?_)
    (first | refine RG.z0 ?_ | refine RG.z1 ?_ | refine RG.z2 ?_ | refine RG.z3 ?_ | refine RG.z4 ?_ | refine RG.z5 ?_ | refine RG.z6 ?_ | refine RG.z7 ?_ | refine RG.z8 ?_ | refine RG.z9 ?_ | refine RG.zA ?_ | refine RG.zB ?_ | refine RG.zC ?_)
    refine RG.nilS (AC.cond_f rfl (AC.seq (AC.reg ?_)))
    (first | refine RG.z0 ?_ | refine RG.z1 ?_ | refine RG.z2 ?_ | refine RG.z3 ?_ | refine RG.z4 ?_ | refine RG.z5 ?_ | refine RG.z6 ?_ | refine RG.z7 ?_ | refine RG.z8 ?_ | refine RG.z9 ?_ | refine RG.zA ?_ | refine RG.zB ?_ | refine RG.zC ?_)
    refine RG.p (d := .bool true) (by first | exact trivial | exact rfl) (ev_bool (by simp; omega)) ?_
    (first | refine RG.z0 ?_ | refine RG.z1 ?_ | refine RG.z2 ?_ | refine RG.z3 ?_ | refine RG.z4 ?_ | refine RG.z5 ?_ | refine RG.z6 ?_ | refine RG.z7 ?_ | refine RG.z8 ?_ | refine RG.z9 ?_ | refine RG.zA ?_ | refine RG.zB ?_ | refine RG.zC ?_)
    (first | refine RG.z0 ?_ | refine RG.z1 ?_ | refine RG.z2 ?_ | refine RG.z3 ?_ | refine RG.z4 ?_ | refine RG.z5 ?_ | refine RG.z6 ?_ | refine RG.z7 ?_ | refine RG.z8 ?_ | refine RG.z9 ?_ | refine RG.zA ?_ | refine RG.zB ?_ | refine RG.zC ?_)
    rcases hcs with ⟨h1, h2, h3, h4⟩ | ⟨h1, h2, h3, h4⟩
    · refine RG.p (d := .bool true) (by first | exact trivial | exact rfl) (ev_bool (by simp; omega)) ?_
      (first | refine RG.z0 ?_ | refine RG.z1 ?_ | refine RG.z2 ?_ | refine RG.z3 ?_ | refine RG.z4 ?_ | refine RG.z5 ?_ | refine RG.z6 ?_ | refine RG.z7 ?_ | refine RG.z8 ?_ | refine RG.z9 ?_ | refine RG.zA ?_ | refine RG.zB ?_ | refine RG.zC ?_)
      (first | refine RG.z0 ?_ | refine RG.z1 ?_ | refine RG.z2 ?_ | refine RG.z3 ?_ | refine RG.z4 ?_ | refine RG.z5 ?_ | refine RG.z6 ?_ | refine RG.z7 ?_ | refine RG.z8 ?_ | refine RG.z9 ?_ | refine RG.zA ?_ | refine RG.zB ?_ | refine RG.zC ?_)
      refine RG.nilS (AC.cond_t rfl (AC.reg ?_))
      (first | refine RG.z0 ?_ | refine RG.z1 ?_ | refine RG.z2 ?_ | refine RG.z3 ?_ | refine RG.z4 ?_ | refine RG.z5 ?_ | refine RG.z6 ?_ | refine RG.z7 ?_ | refine RG.z8 ?_ | refine RG.z9 ?_ | refine RG.zA ?_ | refine RG.zB ?_ | refine RG.zC ?_)
      refine RG.p (d := .int .i64 (c % 16 : Nat)) (by first | exact trivial | exact rfl) (by
        show (if (16 : Int) = 0 then none else some (DV.int .i64 ((c : Int).tmod 16))) = _
        rw [if_neg (by decide), Int.tmod_eq_emod_of_nonneg (by omega)]; rfl) ?_
      (first | refine RG.z0 ?_ | refine RG.z1 ?_ | refine RG.z2 ?_ | refine RG.z3 ?_ | refine RG.z4 ?_ | refine RG.z5 ?_ | refine RG.z6 ?_ | refine RG.z7 ?_ | refine RG.z8 ?_ | refine RG.z9 ?_ | refine RG.zA ?_ | refine RG.zB ?_ | refine RG.zC ?_)
      (first | refine RG.z0 ?_ | refine RG.z1 ?_ | refine RG.z2 ?_ | refine RG.z3 ?_ | refine RG.z4 ?_ | refine RG.z5 ?_ | refine RG.z6 ?_ | refine RG.z7 ?_ | refine RG.z8 ?_ | refine RG.z9 ?_ | refine RG.zA ?_ | refine RG.zB ?_ | refine RG.zC ?_)
      (first | refine RG.z0 ?_ | refine RG.z1 ?_ | refine RG.z2 ?_ | refine RG.z3 ?_ | refine RG.z4 ?_ | refine RG.z5 ?_ | refine RG.z6 ?_ | refine RG.z7 ?_ | refine RG.z8 ?_ | refine RG.z9 ?_ | refine RG.zA ?_ | refine RG.zB ?_ | refine RG.zC ?_)
      exact RG.nil ⟨3, c % 16, 2048, h3, h4, rfl, rfl, rfl, rfl, rfl, trivial⟩
    refine RG.p (d := .bool false) (by first | exact trivial | exact rfl) (ev_bool (by simp; omega)) ?_
    (first | refine RG.z0 ?_ | refine RG.z1 ?_ | refine RG.z2 ?_ | refine RG.z3 ?_ | refine RG.z4 ?_ | refine RG.z5 ?_ | refine RG.z6 ?_ | refine RG.z7 ?_ | refine RG.z8 ?_ | refine RG.z9 ?_ | refine RG.zA ?_ | refine RG.zB ?_ | refine RG.zC ?_)
    (first | refine RG.z0 ?_ | refine RG.z1 ?_ | refine RG.z2 ?_ | refine RG.z3 ?_ | refine RG.z4 ?_ | refine RG.z5 ?_ | refine RG.z6 ?_ | refine RG.z7 ?_ | refine RG.z8 ?_ | refine RG.z9 ?_ | refine RG.zA ?_ | refine RG.zB ?_ | refine RG.zC ?_)
    refine RG.nilS (AC.cond_f rfl (AC.seq (AC.reg ?_)))
    (first | refine RG.z0 ?_ | refine RG.z1 ?_ | refine RG.z2 ?_ | refine RG.z3 ?_ | refine RG.z4 ?_ | refine RG.z5 ?_ | refine RG.z6 ?_ | refine RG.z7 ?_ | refine RG.z8 ?_ | refine RG.z9 ?_ | refine RG.zA ?_ | refine RG.zB ?_ | refine RG.zC ?_)
    refine RG.p (d := .bool true) (by first | exact trivial | exact rfl) (ev_bool (by simp; omega)) ?_
    (first | refine RG.z0 ?_ | refine RG.z1 ?_ | refine RG.z2 ?_ | refine RG.z3 ?_ | refine RG.z4 ?_ | refine RG.z5 ?_ | refine RG.z6 ?_ | refine RG.z7 ?_ | refine RG.z8 ?_ | refine RG.z9 ?_ | refine RG.zA ?_ | refine RG.zB ?_ | refine RG.zC ?_)
    (first | refine RG.z0 ?_ | refine RG.z1 ?_ | refine RG.z2 ?_ | refine RG.z3 ?_ | refine RG.z4 ?_ | refine RG.z5 ?_ | refine RG.z6 ?_ | refine RG.z7 ?_ | refine RG.z8 ?_ | refine RG.z9 ?_ | refine RG.zA ?_ | refine RG.zB ?_ | refine RG.zC ?_)
    refine RG.p (d := .bool true) (by first | exact trivial | exact rfl) (ev_bool (by simp; omega)) ?_
    (first | refine RG.z0 ?_ | refine RG.z1 ?_ | refine RG.z2 ?_ | refine RG.z3 ?_ | refine RG.z4 ?_ | refine RG.z5 ?_ | refine RG.z6 ?_ | refine RG.z7 ?_ | refine RG.z8 ?_ | refine RG.z9 ?_ | refine RG.zA ?_ | refine RG.zB ?_ | refine RG.zC ?_)
    (first | refine RG.z0 ?_ | refine RG.z1 ?_ | refine RG.z2 ?_ | refine RG.z3 ?_ | refine RG.z4 ?_ | refine RG.z5 ?_ | refine RG.z6 ?_ | refine RG.z7 ?_ | refine RG.z8 ?_ | refine RG.z9 ?_ | refine RG.zA ?_ | refine RG.zB ?_ | refine RG.zC ?_)
    refine RG.nilS (AC.cond_t rfl (AC.reg ?_))
    (first | refine RG.z0 ?_ | refine RG.z1 ?_ | refine RG.z2 ?_ | refine RG.z3 ?_ | refine RG.z4 ?_ | refine RG.z5 ?_ | refine RG.z6 ?_ | refine RG.z7 ?_ | refine RG.z8 ?_ | refine RG.z9 ?_ | refine RG.zA ?_ | refine RG.zB ?_ | refine RG.zC ?_)
    refine RG.p (d := .int .i64 (c % 8 : Nat)) (by first | exact trivial | exact rfl) (by
      show (if (8 : Int) = 0 then none else some (DV.int .i64 ((c : Int).tmod 8))) = _
      rw [if_neg (by decide), Int.tmod_eq_emod_of_nonneg (by omega)]; rfl) ?_
    (first | refine RG.z0 ?_ | refine RG.z1 ?_ | refine RG.z2 ?_ | refine RG.z3 ?_ | refine RG.z4 ?_ | refine RG.z5 ?_ | refine RG.z6 ?_ | refine RG.z7 ?_ | refine RG.z8 ?_ | refine RG.z9 ?_ | refine RG.zA ?_ | refine RG.zB ?_ | refine RG.zC ?_)
    (first | refine RG.z0 ?_ | refine RG.z1 ?_ | refine RG.z2 ?_ | refine RG.z3 ?_ | refine RG.z4 ?_ | refine RG.z5 ?_ | refine RG.z6 ?_ | refine RG.z7 ?_ | refine RG.z8 ?_ | refine RG.z9 ?_ | refine RG.zA ?_ | refine RG.zB ?_ | refine RG.zC ?_)
    (first | refine RG.z0 ?_ | refine RG.z1 ?_ | refine RG.z2 ?_ | refine RG.z3 ?_ | refine RG.z4 ?_ | refine RG.z5 ?_ | refine RG.z6 ?_ | refine RG.z7 ?_ | refine RG.z8 ?_ | refine RG.z9 ?_ | refine RG.zA ?_ | refine RG.zB ?_ | refine RG.zC ?_)
    exact RG.nil ⟨4, c % 8, 65536, h3, h4, rfl, rfl, rfl, rfl, rfl, trivial⟩
  · rintro fr H2 ⟨k, x0, least, hk, hO, rfl, hag⟩
    refine AC.to _ hag ?_
    refine AC.seq (AC.seq (AC.reg ?_))
    (first | refine RG.z0 ?_ | refine RG.z1 ?_ | refine RG.z2 ?_ | refine RG.z3 ?_ | refine RG.z4 ?_ | refine RG.z5 ?_ | refine RG.z6 ?_ | refine RG.z7 ?_ | refine RG.z8 ?_ | refine RG.z9 ?_ | refine RG.zA ?_ | refine RG.zB ?_ | refine RG.zC ?_)
    (first | refine RG.z0 ?_ | refine RG.z1 ?_ | refine RG.z2 ?_ | refine RG.z3 ?_ | refine RG.z4 ?_ | refine RG.z5 ?_ | refine RG.z6 ?_ | refine RG.z7 ?_ | refine RG.z8 ?_ | refine RG.z9 ?_ | refine RG.zA ?_ | refine RG.zB ?_ | refine RG.zC ?_)
    (first | refine RG.z0 ?_ | refine RG.z1 ?_ | refine RG.z2 ?_ | refine RG.z3 ?_ | refine RG.z4 ?_ | refine RG.z5 ?_ | refine RG.z6 ?_ | refine RG.z7 ?_ | refine RG.z8 ?_ | refine RG.z9 ?_ | refine RG.zA ?_ | refine RG.zB ?_ | refine RG.zC ?_)
    have hkl := hO.kl
    refine RG.p (d := .bool false) (by first | exact trivial | exact rfl) (ev_bool (by simp; omega)) ?_
    refine RG.nilS (AC.cond_f rfl (AC.skip (AC.seq (AC.seq (AC.reg ?_)))))
    (first | refine RG.z0 ?_ | refine RG.z1 ?_ | refine RG.z2 ?_ | refine RG.z3 ?_ | refine RG.z4 ?_ | refine RG.z5 ?_ | refine RG.z6 ?_ | refine RG.z7 ?_ | refine RG.z8 ?_ | refine RG.z9 ?_ | refine RG.zA ?_ | refine RG.zB ?_ | refine RG.zC ?_)
    refine RG.nilS ?_
    have hk2 := hO.k2
    have hk4 := hO.k4
    refine AC.bloopH (α := Nat) (β := Unit) (fun i => k - i) (fun i => [(0, .str s), (5, .int .i64 k), (6, .int .i64 (foldX s x0 (i - 1))), (7, .int .i64 least), (8, .int .i64 i)])
      (fun i H' => 1 ≤ i ∧ i ≤ k ∧ H' = H2) (fun _ => [(5, .int .i64 k), (6, .int .i64 (foldX s x0 (k - 1))), (7, .int .i64 least)]) (fun _ H' => H' = H2) ?_ ?_ 1 _ ⟨by omega, by omega, rfl⟩ ⟨rfl, rfl, rfl, rfl, rfl, trivial⟩
    · intro _ He fr h1 hfr
      subst h1
      have h5 := hO.le
      have h6 := hO.su
      have h7 := hO.mx
      generalize foldX s x0 (k - 1) = x at h5 h6 h7 hfr
      refine AC.to _ hfr (AC.seq (AC.seq (AC.reg ?_)))
      (first | refine RG.z0 ?_ | refine RG.z1 ?_ | refine RG.z2 ?_ | refine RG.z3 ?_ | refine RG.z4 ?_ | refine RG.z5 ?_ | refine RG.z6 ?_ | refine RG.z7 ?_ | refine RG.z8 ?_ | refine RG.z9 ?_ | refine RG.zA ?_ | refine RG.zB ?_ | refine RG.zC ?_)
      (first | refine RG.z0 ?_ | refine RG.z1 ?_ | refine RG.z2 ?_ | refine RG.z3 ?_ | refine RG.z4 ?_ | refine RG.z5 ?_ | refine RG.z6 ?_ | refine RG.z7 ?_ | refine RG.z8 ?_ | refine RG.z9 ?_ | refine RG.zA ?_ | refine RG.zB ?_ | refine RG.zC ?_)
      refine RG.p (d := .bool false) (by first | exact trivial | exact rfl) (ev_bool (by simp; omega)) ?_
      (first | refine RG.z0 ?_ | refine RG.z1 ?_ | refine RG.z2 ?_ | refine RG.z3 ?_ | refine RG.z4 ?_ | refine RG.z5 ?_ | refine RG.z6 ?_ | refine RG.z7 ?_ | refine RG.z8 ?_ | refine RG.z9 ?_ | refine RG.zA ?_ | refine RG.zB ?_ | refine RG.zC ?_)
      (first | refine RG.z0 ?_ | refine RG.z1 ?_ | refine RG.z2 ?_ | refine RG.z3 ?_ | refine RG.z4 ?_ | refine RG.z5 ?_ | refine RG.z6 ?_ | refine RG.z7 ?_ | refine RG.z8 ?_ | refine RG.z9 ?_ | refine RG.zA ?_ | refine RG.zB ?_ | refine RG.zC ?_)
      refine RG.p (d := .bool (decide (55296 ≤ x))) (by first | exact trivial | exact rfl) (ev_bool (by rw [Bool.eq_iff_iff]; simp; omega)) ?_
      have rest : ∀ fr', fr' 5 = .int .i64 (k : Nat) → fr' 6 = .int .i64 (x : Nat) → AC Go.Proofs.Tryd.prog G none F87.N (.seq (.reg [⟨(some 87), none, .mv (.t 6)⟩, ⟨(some 88), none, .mv (.t 5)⟩, ⟨(some 2), none, .mv (.t 87)⟩, ⟨(some 3), none, .mv (.t 88)⟩]) .ret)
          (Fin F87.rs (fun r H' => (∃ x, r = .tup [.int .i64 x, .int .i64 (Lib.decodeL s).2]) ∧ H' = He) (fun _ _ => False)) fr' He := by
        intro fr' e5 e6
        refine AC.to [(5, .int .i64 k), (6, .int .i64 x)] ⟨e5, e6, trivial⟩ (AC.seq (AC.reg ?_))
        (first | refine RG.z0 ?_ | refine RG.z1 ?_ | refine RG.z2 ?_ | refine RG.z3 ?_ | refine RG.z4 ?_ | refine RG.z5 ?_ | refine RG.z6 ?_ | refine RG.z7 ?_ | refine RG.z8 ?_ | refine RG.z9 ?_ | refine RG.zA ?_ | refine RG.zB ?_ | refine RG.zC ?_)
        (first | refine RG.z0 ?_ | refine RG.z1 ?_ | refine RG.z2 ?_ | refine RG.z3 ?_ | refine RG.z4 ?_ | refine RG.z5 ?_ | refine RG.z6 ?_ | refine RG.z7 ?_ | refine RG.z8 ?_ | refine RG.z9 ?_ | refine RG.zA ?_ | refine RG.zB ?_ | refine RG.zC ?_)
        (first | refine RG.z0 ?_ | refine RG.z1 ?_ | refine RG.z2 ?_ | refine RG.z3 ?_ | refine RG.z4 ?_ | refine RG.z5 ?_ | refine RG.z6 ?_ | refine RG.z7 ?_ | refine RG.z8 ?_ | refine RG.z9 ?_ | refine RG.zA ?_ | refine RG.zB ?_ | refine RG.zC ?_)
        (first | refine RG.z0 ?_ | refine RG.z1 ?_ | refine RG.z2 ?_ | refine RG.z3 ?_ | refine RG.z4 ?_ | refine RG.z5 ?_ | refine RG.z6 ?_ | refine RG.z7 ?_ | refine RG.z8 ?_ | refine RG.z9 ?_ | refine RG.zA ?_ | refine RG.zB ?_ | refine RG.zC ?_)
        refine RG.nilS (AC.ret (fin rfl ⟨⟨x, ?_⟩, rfl⟩))
        rw [hk]; rfl
      cases c1 : decide (55296 ≤ x)
      · (first | refine RG.z0 ?_ | refine RG.z1 ?_ | refine RG.z2 ?_ | refine RG.z3 ?_ | refine RG.z4 ?_ | refine RG.z5 ?_ | refine RG.z6 ?_ | refine RG.z7 ?_ | refine RG.z8 ?_ | refine RG.z9 ?_ | refine RG.zA ?_ | refine RG.zB ?_ | refine RG.zC ?_)
        (first | refine RG.z0 ?_ | refine RG.z1 ?_ | refine RG.z2 ?_ | refine RG.z3 ?_ | refine RG.z4 ?_ | refine RG.z5 ?_ | refine RG.z6 ?_ | refine RG.z7 ?_ | refine RG.z8 ?_ | refine RG.z9 ?_ | refine RG.zA ?_ | refine RG.zB ?_ | refine RG.zC ?_)
        (first | refine RG.z0 ?_ | refine RG.z1 ?_ | refine RG.z2 ?_ | refine RG.z3 ?_ | refine RG.z4 ?_ | refine RG.z5 ?_ | refine RG.z6 ?_ | refine RG.z7 ?_ | refine RG.z8 ?_ | refine RG.z9 ?_ | refine RG.zA ?_ | refine RG.zB ?_ | refine RG.zC ?_)
        (first | refine RG.z0 ?_ | refine RG.z1 ?_ | refine RG.z2 ?_ | refine RG.z3 ?_ | refine RG.z4 ?_ | refine RG.z5 ?_ | refine RG.z6 ?_ | refine RG.z7 ?_ | refine RG.z8 ?_ | refine RG.z9 ?_ | refine RG.zA ?_ | refine RG.zB ?_ | refine RG.zC ?_)
        (first | refine RG.z0 ?_ | refine RG.z1 ?_ | refine RG.z2 ?_ | refine RG.z3 ?_ | refine RG.z4 ?_ | refine RG.z5 ?_ | refine RG.z6 ?_ | refine RG.z7 ?_ | refine RG.z8 ?_ | refine RG.z9 ?_ | refine RG.zA ?_ | refine RG.zB ?_ | refine RG.zC ?_)
        (first | refine RG.z0 ?_ | refine RG.z1 ?_ | refine RG.z2 ?_ | refine RG.z3 ?_ | refine RG.z4 ?_ | refine RG.z5 ?_ | refine RG.z6 ?_ | refine RG.z7 ?_ | refine RG.z8 ?_ | refine RG.z9 ?_ | refine RG.zA ?_ | refine RG.zB ?_ | refine RG.zC ?_)
        (first | refine RG.z0 ?_ | refine RG.z1 ?_ | refine RG.z2 ?_ | refine RG.z3 ?_ | refine RG.z4 ?_ | refine RG.z5 ?_ | refine RG.z6 ?_ | refine RG.z7 ?_ | refine RG.z8 ?_ | refine RG.z9 ?_ | refine RG.zA ?_ | refine RG.zB ?_ | refine RG.zC ?_)
        refine RG.p (d := .bool false) (by first | exact trivial | exact rfl) (ev_bool (by simp; omega)) ?_
        repeat (first | refine RG.z0 ?_ | refine RG.z1 ?_ | refine RG.z2 ?_ | refine RG.z3 ?_ | refine RG.z4 ?_ | refine RG.z5 ?_ | refine RG.z6 ?_ | refine RG.z7 ?_ | refine RG.z8 ?_ | refine RG.z9 ?_ | refine RG.zA ?_ | refine RG.zB ?_ | refine RG.zC ?_)
        exact RG.nilS (AC.cond_f rfl (AC.skip (rest _ rfl rfl)))
      · have := of_decide_eq_true c1
        (first | refine RG.z0 ?_ | refine RG.z1 ?_ | refine RG.z2 ?_ | refine RG.z3 ?_ | refine RG.z4 ?_ | refine RG.z5 ?_ | refine RG.z6 ?_ | refine RG.z7 ?_ | refine RG.z8 ?_ | refine RG.z9 ?_ | refine RG.zA ?_ | refine RG.zB ?_ | refine RG.zC ?_)
        (first | refine RG.z0 ?_ | refine RG.z1 ?_ | refine RG.z2 ?_ | refine RG.z3 ?_ | refine RG.z4 ?_ | refine RG.z5 ?_ | refine RG.z6 ?_ | refine RG.z7 ?_ | refine RG.z8 ?_ | refine RG.z9 ?_ | refine RG.zA ?_ | refine RG.zB ?_ | refine RG.zC ?_)
        refine RG.p (d := .bool false) (by first | exact trivial | exact rfl) (ev_bool (by simp; omega)) ?_
        (first | refine RG.z0 ?_ | refine RG.z1 ?_ | refine RG.z2 ?_ | refine RG.z3 ?_ | refine RG.z4 ?_ | refine RG.z5 ?_ | refine RG.z6 ?_ | refine RG.z7 ?_ | refine RG.z8 ?_ | refine RG.z9 ?_ | refine RG.zA ?_ | refine RG.zB ?_ | refine RG.zC ?_)
        (first | refine RG.z0 ?_ | refine RG.z1 ?_ | refine RG.z2 ?_ | refine RG.z3 ?_ | refine RG.z4 ?_ | refine RG.z5 ?_ | refine RG.z6 ?_ | refine RG.z7 ?_ | refine RG.z8 ?_ | refine RG.z9 ?_ | refine RG.zA ?_ | refine RG.zB ?_ | refine RG.zC ?_)
        (first | refine RG.z0 ?_ | refine RG.z1 ?_ | refine RG.z2 ?_ | refine RG.z3 ?_ | refine RG.z4 ?_ | refine RG.z5 ?_ | refine RG.z6 ?_ | refine RG.z7 ?_ | refine RG.z8 ?_ | refine RG.z9 ?_ | refine RG.zA ?_ | refine RG.zB ?_ | refine RG.zC ?_)
        (first | refine RG.z0 ?_ | refine RG.z1 ?_ | refine RG.z2 ?_ | refine RG.z3 ?_ | refine RG.z4 ?_ | refine RG.z5 ?_ | refine RG.z6 ?_ | refine RG.z7 ?_ | refine RG.z8 ?_ | refine RG.z9 ?_ | refine RG.zA ?_ | refine RG.zB ?_ | refine RG.zC ?_)
        refine RG.p (d := .bool false) (by first | exact trivial | exact rfl) (ev_bool (by simp; omega)) ?_
        repeat (first | refine RG.z0 ?_ | refine RG.z1 ?_ | refine RG.z2 ?_ | refine RG.z3 ?_ | refine RG.z4 ?_ | refine RG.z5 ?_ | refine RG.z6 ?_ | refine RG.z7 ?_ | refine RG.z8 ?_ | refine RG.z9 ?_ | refine RG.zA ?_ | refine RG.zB ?_ | refine RG.zC ?_)
        exact RG.nilS (AC.cond_f rfl (AC.skip (rest _ rfl rfl)))
    · rintro i H' ⟨h1, h2, h3⟩ ih ex
      subst h3
      refine AC.seq (AC.seq (AC.reg ?_))
      (first | refine RG.z0 ?_ | refine RG.z1 ?_ | refine RG.z2 ?_ | refine RG.z3 ?_ | refine RG.z4 ?_ | refine RG.z5 ?_ | refine RG.z6 ?_ | refine RG.z7 ?_ | refine RG.z8 ?_ | refine RG.z9 ?_ | refine RG.zA ?_ | refine RG.zB ?_ | refine RG.zC ?_)
      (first | refine RG.z0 ?_ | refine RG.z1 ?_ | refine RG.z2 ?_ | refine RG.z3 ?_ | refine RG.z4 ?_ | refine RG.z5 ?_ | refine RG.z6 ?_ | refine RG.z7 ?_ | refine RG.z8 ?_ | refine RG.z9 ?_ | refine RG.zA ?_ | refine RG.zB ?_ | refine RG.zC ?_)
      refine RG.p (d := .bool (decide (i < k))) (by first | exact trivial | exact rfl) (ev_bool (by rw [Bool.eq_iff_iff]; simp)) ?_
      cases c1 : decide (i < k)
      · have := of_decide_eq_false c1
        have e : i = k := by omega
        subst e
        exact RG.nilS (AC.cond_f rfl (AC.exit (ex () _ _ rfl ⟨rfl, rfl, rfl, trivial⟩)))
      have hik := of_decide_eq_true c1
      have hco := hO.co i h1 hik
      have hlt := foldX_lt s hO.x5 (i - 1) (by omega)
      have hpow : 64 ^ (i - 1) ≤ 4096 := by
        have : i = 1 ∨ i = 2 ∨ i = 3 := by omega
        rcases this with rfl | rfl | rfl <;> decide
      have hfx : foldX s x0 i = 64 * foldX s x0 (i - 1) + (s.getD i 0).toNat % 64 := by
        obtain ⟨q, rfl⟩ : ∃ q, i = q + 1 := ⟨i - 1, by omega⟩
        rw [foldX]; rfl
      have hbi := (s.getD i 0).toNat_lt
      have hget : s[((i : Nat) : Int).toNat]? = some (s.getD i 0) := at0 (by omega)
      generalize hc : s.getD i 0 = c at hco hfx hbi hget
      refine RG.nilS (AC.cond_t rfl (AC.skip (AC.seq (AC.block (AC.seq (AC.seq (AC.reg ?_)))))))
      (first | refine RG.z0 ?_ | refine RG.z1 ?_ | refine RG.z2 ?_ | refine RG.z3 ?_ | refine RG.z4 ?_ | refine RG.z5 ?_ | refine RG.z6 ?_ | refine RG.z7 ?_ | refine RG.z8 ?_ | refine RG.z9 ?_ | refine RG.zA ?_ | refine RG.zB ?_ | refine RG.zC ?_)
      (first | refine RG.z0 ?_ | refine RG.z1 ?_ | refine RG.z2 ?_ | refine RG.z3 ?_ | refine RG.z4 ?_ | refine RG.z5 ?_ | refine RG.z6 ?_ | refine RG.z7 ?_ | refine RG.z8 ?_ | refine RG.z9 ?_ | refine RG.zA ?_ | refine RG.zB ?_ | refine RG.zC ?_)
      refine RG.at (b := c) (by first | exact trivial | exact rfl) rfl rfl (by omega) hget ?_
      refine RG.p (d := .bool false) (by first | exact trivial | exact rfl) (ev_bool (by simp; omega)) ?_
      (first | refine RG.z0 ?_ | refine RG.z1 ?_ | refine RG.z2 ?_ | refine RG.z3 ?_ | refine RG.z4 ?_ | refine RG.z5 ?_ | refine RG.z6 ?_ | refine RG.z7 ?_ | refine RG.z8 ?_ | refine RG.z9 ?_ | refine RG.zA ?_ | refine RG.zB ?_ | refine RG.zC ?_)
      (first | refine RG.z0 ?_ | refine RG.z1 ?_ | refine RG.z2 ?_ | refine RG.z3 ?_ | refine RG.z4 ?_ | refine RG.z5 ?_ | refine RG.z6 ?_ | refine RG.z7 ?_ | refine RG.z8 ?_ | refine RG.z9 ?_ | refine RG.zA ?_ | refine RG.zB ?_ | refine RG.zC ?_)
      (first | refine RG.z0 ?_ | refine RG.z1 ?_ | refine RG.z2 ?_ | refine RG.z3 ?_ | refine RG.z4 ?_ | refine RG.z5 ?_ | refine RG.z6 ?_ | refine RG.z7 ?_ | refine RG.z8 ?_ | refine RG.z9 ?_ | refine RG.zA ?_ | refine RG.zB ?_ | refine RG.zC ?_)
      refine RG.at (b := c) (by first | exact trivial | exact rfl) rfl rfl (by omega) hget ?_
      refine RG.p (d := .bool false) (by first | exact trivial | exact rfl) (ev_bool (by simp; omega)) ?_
      repeat (first | refine RG.z0 ?_ | refine RG.z1 ?_ | refine RG.z2 ?_ | refine RG.z3 ?_ | refine RG.z4 ?_ | refine RG.z5 ?_ | refine RG.z6 ?_ | refine RG.z7 ?_ | refine RG.z8 ?_ | refine RG.z9 ?_ | refine RG.zA ?_ | refine RG.zB ?_ | refine RG.zC ?_)
      refine RG.nilS (AC.cond_f rfl (AC.skip (AC.reg ?_)))
      (first | refine RG.z0 ?_ | refine RG.z1 ?_ | refine RG.z2 ?_ | refine RG.z3 ?_ | refine RG.z4 ?_ | refine RG.z5 ?_ | refine RG.z6 ?_ | refine RG.z7 ?_ | refine RG.z8 ?_ | refine RG.z9 ?_ | refine RG.zA ?_ | refine RG.zB ?_ | refine RG.zC ?_)
      refine RG.p (d := .int .i64 (64 * foldX s x0 (i - 1) : Nat)) (by first | exact trivial | exact rfl) (by
        show some (DV.int .i64 (IntKind.wrap .i64 (64 * ((foldX s x0 (i - 1) : Nat) : Int)))) = _
        rw [IntWalk.i64_in _ (by omega)]
        congr 2) ?_
      (first | refine RG.z0 ?_ | refine RG.z1 ?_ | refine RG.z2 ?_ | refine RG.z3 ?_ | refine RG.z4 ?_ | refine RG.z5 ?_ | refine RG.z6 ?_ | refine RG.z7 ?_ | refine RG.z8 ?_ | refine RG.z9 ?_ | refine RG.zA ?_ | refine RG.zB ?_ | refine RG.zC ?_)
      (first | refine RG.z0 ?_ | refine RG.z1 ?_ | refine RG.z2 ?_ | refine RG.z3 ?_ | refine RG.z4 ?_ | refine RG.z5 ?_ | refine RG.z6 ?_ | refine RG.z7 ?_ | refine RG.z8 ?_ | refine RG.z9 ?_ | refine RG.zA ?_ | refine RG.zB ?_ | refine RG.zC ?_)
      refine RG.at (b := c) (by first | exact trivial | exact rfl) rfl rfl (by omega) hget ?_
      refine RG.p (d := .int .i64 c.toNat) (by first | exact trivial | exact rfl) (by
        show some (DV.int .i64 (IntKind.wrap .i64 (c.toNat : Int))) = _
        rw [IntWalk.i64_in _ (by omega)]) ?_
      refine RG.p (d := .int .i64 (c.toNat % 64 : Nat)) (by first | exact trivial | exact rfl) (by
        show (if (64 : Int) = 0 then none else some (DV.int .i64 ((c.toNat : Int).tmod 64))) = _
        rw [if_neg (by decide), Int.tmod_eq_emod_of_nonneg (by omega)]; rfl) ?_
      refine RG.p (d := .int .i64 (foldX s x0 i : Nat)) (by first | exact trivial | exact rfl) (by
        show some (DV.int .i64 (IntKind.wrap .i64 (((64 * foldX s x0 (i - 1) : Nat) : Int) + ((c.toNat % 64 : Nat) : Int)))) = _
        rw [IntWalk.i64_in _ (by omega), hfx]
        congr 2) ?_
      (first | refine RG.z0 ?_ | refine RG.z1 ?_ | refine RG.z2 ?_ | refine RG.z3 ?_ | refine RG.z4 ?_ | refine RG.z5 ?_ | refine RG.z6 ?_ | refine RG.z7 ?_ | refine RG.z8 ?_ | refine RG.z9 ?_ | refine RG.zA ?_ | refine RG.zB ?_ | refine RG.zC ?_)
      refine RG.nil (AC.reg ?_)
      (first | refine RG.z0 ?_ | refine RG.z1 ?_ | refine RG.z2 ?_ | refine RG.z3 ?_ | refine RG.z4 ?_ | refine RG.z5 ?_ | refine RG.z6 ?_ | refine RG.z7 ?_ | refine RG.z8 ?_ | refine RG.z9 ?_ | refine RG.zA ?_ | refine RG.zB ?_ | refine RG.zC ?_)
      (first | refine RG.z0 ?_ | refine RG.z1 ?_ | refine RG.z2 ?_ | refine RG.z3 ?_ | refine RG.z4 ?_ | refine RG.z5 ?_ | refine RG.z6 ?_ | refine RG.z7 ?_ | refine RG.z8 ?_ | refine RG.z9 ?_ | refine RG.zA ?_ | refine RG.zB ?_ | refine RG.zC ?_)
      (first | refine RG.z0 ?_ | refine RG.z1 ?_ | refine RG.z2 ?_ | refine RG.z3 ?_ | refine RG.z4 ?_ | refine RG.z5 ?_ | refine RG.z6 ?_ | refine RG.z7 ?_ | refine RG.z8 ?_ | refine RG.z9 ?_ | refine RG.zA ?_ | refine RG.zB ?_ | refine RG.zC ?_)
      exact RG.nil (ih (i + 1) _ ⟨by omega, by omega, rfl⟩ (by omega) _ ⟨rfl, rfl, rfl, rfl, rfl, trivial⟩)
end Go.Run.Tryd
/- All letters of a right text. -/
namespace Go.Run.Tryd
open Go Go.Run Go.RowKit
/-! cardcase/cardcaseref13.Name -/
def F28 : FN := ⟨40, (.seq (.reg [⟨(some 2), none, .mv (.c (.bool false))⟩])
  (.seq (.seq (.reg [⟨(some 4), none, .mv (.t 0)⟩,
    ⟨(some 5), none, .bin .eql (.t 4) (.c (.str []))⟩,
    ⟨(some 6), none, .mv (.t 5)⟩,
    ⟨(some 7), some (6, false), .mv (.t 0)⟩,
    ⟨(some 8), some (6, false), .len true (.t 7)⟩,
    ⟨(some 9), some (6, false), .bin .gtr (.t 8) (.c (.int .i64 32))⟩,
    ⟨(some 10), none, .pick (.t 6) (.c (.bool true)) (.t 9)⟩,
    ⟨(some 11), none, .mv (.t 10)⟩,
    ⟨(some 12), some (11, false), .mv (.t 0)⟩,
    ⟨(some 13), some (11, false), .idx (.t 12) (.c (.int .i64 0))⟩,
    ⟨(some 14), some (11, false), .call 49 [(.t 13)]⟩,
    ⟨(some 15), some (11, false), .un .not (.t 14)⟩,
    ⟨(some 16), none, .pick (.t 11) (.c (.bool true)) (.t 15)⟩])
  (.cond (.t 16) (.seq (.reg [⟨(some 2), none, .mv (.c (.bool false))⟩])
  .ret)
  .skip))
  (.seq (.seq (.reg [⟨(some 3), none, .mv (.c (.int .i64 0))⟩])
  (.block 0 (.loop (.seq (.seq (.reg [⟨(some 17), none, .mv (.t 3)⟩,
    ⟨(some 18), none, .mv (.t 0)⟩,
    ⟨(some 19), none, .len true (.t 18)⟩,
    ⟨(some 20), none, .bin .lss (.t 17) (.t 19)⟩])
  (.cond (.t 20) .skip
  (.exit 0)))
  (.seq (.block 1 (.seq (.reg [⟨(some 23), none, .mv (.t 0)⟩,
    ⟨(some 24), none, .mv (.t 3)⟩,
    ⟨(some 25), none, .idx (.t 23) (.t 24)⟩,
    ⟨(some 26), none, .call 49 [(.t 25)]⟩,
    ⟨(some 27), none, .un .not (.t 26)⟩,
    ⟨(some 28), none, .mv (.t 27)⟩,
    ⟨(some 29), some (28, true), .mv (.t 0)⟩,
    ⟨(some 30), some (28, true), .mv (.t 3)⟩,
    ⟨(some 31), some (28, true), .idx (.t 29) (.t 30)⟩,
    ⟨(some 32), some (28, true), .bin .lss (.t 31) (.c (.int .u8 48))⟩,
    ⟨(some 33), some (28, true), .mv (.t 32)⟩,
    ⟨(some 34), some (33, false), .mv (.t 0)⟩,
    ⟨(some 35), some (33, false), .mv (.t 3)⟩,
    ⟨(some 36), some (33, false), .idx (.t 34) (.t 35)⟩,
    ⟨(some 37), some (33, false), .bin .gtr (.t 36) (.c (.int .u8 57))⟩,
    ⟨(some 38), some (28, true), .pick (.t 33) (.c (.bool true)) (.t 37)⟩,
    ⟨(some 39), none, .pick (.t 28) (.t 38) (.c (.bool false))⟩])
  (.cond (.t 39) (.seq (.reg [⟨(some 2), none, .mv (.c (.bool false))⟩])
  .ret)
  .skip)))
  (.reg [⟨(some 21), none, .mv (.t 3)⟩,
    ⟨(some 22), none, .bin .add (.t 21) (.c (.int .i64 1))⟩,
    ⟨(some 3), none, .mv (.t 22)⟩]))))))
  (.seq (.reg [⟨(some 2), none, .mv (.c (.bool true))⟩])
  .ret)))), [.tmp 2]⟩
theorem cF28 : cFn Go.Proofs.Tryd.prog 28 = some F28 := by kernel_rfl
/-! cardcase/cardcaseref13.Shown -/
def F29 : FN := ⟨28, (.seq (.reg [⟨(some 2), none, .mv (.c (.bool false))⟩])
  (.seq (.seq (.reg [⟨(some 3), none, .mv (.c (.int .i64 0))⟩])
  (.block 0 (.loop (.seq (.seq (.reg [⟨(some 4), none, .mv (.t 3)⟩,
    ⟨(some 5), none, .mv (.t 0)⟩,
    ⟨(some 6), none, .len true (.t 5)⟩,
    ⟨(some 7), none, .bin .lss (.t 4) (.t 6)⟩])
  (.cond (.t 7) .skip
  (.exit 0)))
  (.seq (.block 1 (.seq (.reg [⟨(some 10), none, .mv (.t 0)⟩,
    ⟨(some 11), none, .mv (.t 3)⟩,
    ⟨(some 12), none, .idx (.t 10) (.t 11)⟩,
    ⟨(some 13), none, .bin .lss (.t 12) (.c (.int .u8 32))⟩,
    ⟨(some 14), none, .mv (.t 13)⟩,
    ⟨(some 15), some (14, true), .mv (.t 0)⟩,
    ⟨(some 16), some (14, true), .mv (.t 3)⟩,
    ⟨(some 17), some (14, true), .idx (.t 15) (.t 16)⟩,
    ⟨(some 18), some (14, true), .bin .neq (.t 17) (.c (.int .u8 9))⟩,
    ⟨(some 19), none, .pick (.t 14) (.t 18) (.c (.bool false))⟩,
    ⟨(some 20), none, .mv (.t 19)⟩,
    ⟨(some 21), some (20, true), .mv (.t 0)⟩,
    ⟨(some 22), some (20, true), .mv (.t 3)⟩,
    ⟨(some 23), some (20, true), .idx (.t 21) (.t 22)⟩,
    ⟨(some 24), some (20, true), .bin .neq (.t 23) (.c (.int .u8 10))⟩,
    ⟨(some 25), none, .pick (.t 20) (.t 24) (.c (.bool false))⟩])
  (.cond (.t 25) (.seq (.reg [⟨(some 2), none, .mv (.c (.bool false))⟩])
  .ret)
  .skip)))
  (.reg [⟨(some 8), none, .mv (.t 3)⟩,
    ⟨(some 9), none, .bin .add (.t 8) (.c (.int .i64 1))⟩,
    ⟨(some 3), none, .mv (.t 9)⟩]))))))
  (.seq (.reg [⟨(some 26), none, .mv (.t 0)⟩,
    ⟨(some 27), none, .call 50 [(.t 26)]⟩,
    ⟨(some 2), none, .mv (.t 27)⟩])
  .ret))), [.tmp 2]⟩
theorem cF29 : cFn Go.Proofs.Tryd.prog 29 = some F29 := by kernel_rfl
variable {G : Gl}

def I32 (n : Int) : DV := .int .i32 n
/-- A row of letters beside the rest. -/
def LI (H : Hp) (L : List Int) (v : DV) (H' : Hp) : Prop :=
  (L = [] ∧ v = .nils ∧ H' = H) ∨ (∃ b, H b = none ∧ v = .lst (L.map I32) L.length 1 (some (b, 0)) ∧ H' = H.upd b (some (.front L.length 1 21)))

theorem LI.sub {H H' : Hp} {L : List Int} {v : DV} (h : LI H L v H') : SubH H H' := by
  rcases h with ⟨_, _, rfl⟩ | ⟨b, hb, _, rfl⟩
  · exact SubH.refl _
  · exact SubH.fresh hb

theorem LI.app {H HL : Hp} {L : List Int} {v : DV} {q : Int} {x y : X} {tg : Option (Nat × Nat)} {dst : Option Nat} {N : Nat} {l : List Ins} {Q : EX → Fr → Hp → Prop} {fr : Fr} (h : LI H L v HL) (hx : XV G fr x = v) (hy : XV G fr y = .lst [I32 q] 1 1 tg)
    (hlen : L.length ≤ 1000000) (k : ∀ v' HL', LI H (L ++ [q]) v' HL' → RG Go.Proofs.Tryd.prog G none N l Q (fr.put dst v') HL') : RG Go.Proofs.Tryd.prog G none N (⟨dst, none, .app 21 1 4 x y⟩ :: l) Q fr HL := by
  have hsrc : srcD HL 1 (XV G fr y) = some ([I32 q], 1) := by rw [hy]; rfl
  rcases h with ⟨rfl, rfl, rfl⟩ | ⟨b, hb, rfl, rfl⟩
  · exact RG.st (ST.app_new (m := 1) (.inl hx) hsrc (by omega) (by omega) fun b hb => k _ _ (.inr ⟨b, hb, rfl, rfl⟩))
  · refine RG.st (ST.app_own (m := 1) hx Hp.upd_same hsrc (by omega) fun b' hb' => ?_)
    have e1 : (H.upd b (some (.front L.length 1 21))).upd b none = H := by rw [Hp.upd_upd]; exact Hp.upd_id hb
    rw [e1]
    refine k _ _ (.inr ⟨b', ?_, ?_, ?_⟩)
    · rcases hb' with rfl | hb'
      · exact hb
      · have hne : b' ≠ b := fun e => by rw [e, Hp.upd_same] at hb'; cases hb'
        rw [Hp.upd_ne hne] at hb'; exact hb'
    · rw [List.map_append, List.length_append]; rfl
    · rw [List.length_append]; rfl

theorem Letters_ok {s : List UInt8} (hv : Lib.validD s = true) (hs : s.length ≤ 1000000) (H : Hp) : CALL Go.Proofs.Tryd.prog G 74 [.str s] H (fun r H' => (∃ v, r = .tup [v, .bool true]) ∧ H' = H) (fun _ _ => False) := by
  refine CALL.of cF74 (Nat.le_of_ble_eq_true rfl) ?_
  refine AC.seq (AC.reg ?_)
  (first | refine RG.z0 ?_ | refine RG.z1 ?_ | refine RG.z2 ?_ | refine RG.z3 ?_ | refine RG.z4 ?_ | refine RG.z5 ?_ | refine RG.z6 ?_ | refine RG.z7 ?_ | refine RG.z8 ?_ | refine RG.z9 ?_ | refine RG.zA ?_ | refine RG.zB ?_ | refine RG.zC ?_)
  (first | refine RG.z0 ?_ | refine RG.z1 ?_ | refine RG.z2 ?_ | refine RG.z3 ?_ | refine RG.z4 ?_ | refine RG.z5 ?_ | refine RG.z6 ?_ | refine RG.z7 ?_ | refine RG.z8 ?_ | refine RG.z9 ?_ | refine RG.zA ?_ | refine RG.zB ?_ | refine RG.zC ?_)
  refine RG.nilS (AC.seq (AC.reg ?_))
  (first | refine RG.z0 ?_ | refine RG.z1 ?_ | refine RG.z2 ?_ | refine RG.z3 ?_ | refine RG.z4 ?_ | refine RG.z5 ?_ | refine RG.z6 ?_ | refine RG.z7 ?_ | refine RG.z8 ?_ | refine RG.z9 ?_ | refine RG.zA ?_ | refine RG.zB ?_ | refine RG.zC ?_)
  refine RG.nilS (AC.seq ?_)
  refine AC.bloopH (α := List UInt8 × List Int × DV) (β := DV) (fun a => a.1.length) (fun a => [(0, .str a.1), (4, a.2.2)])
    (fun a H' => Lib.validD a.1 = true ∧ a.1.length + a.2.1.length ≤ s.length ∧ LI H a.2.1 a.2.2 H') (fun v => [(4, v)]) (fun _ H' => SubH H H') ?_ ?_ (s, [], .nils) _ ⟨hv, by simp, .inl ⟨rfl, rfl, rfl⟩⟩ ⟨rfl, rfl, trivial⟩
  · intro v He fr h1 hfr
    refine AC.to _ hfr (AC.seq (AC.reg ?_))
    (first | refine RG.z0 ?_ | refine RG.z1 ?_ | refine RG.z2 ?_ | refine RG.z3 ?_ | refine RG.z4 ?_ | refine RG.z5 ?_ | refine RG.z6 ?_ | refine RG.z7 ?_ | refine RG.z8 ?_ | refine RG.z9 ?_ | refine RG.zA ?_ | refine RG.zB ?_ | refine RG.zC ?_)
    (first | refine RG.z0 ?_ | refine RG.z1 ?_ | refine RG.z2 ?_ | refine RG.z3 ?_ | refine RG.z4 ?_ | refine RG.z5 ?_ | refine RG.z6 ?_ | refine RG.z7 ?_ | refine RG.z8 ?_ | refine RG.z9 ?_ | refine RG.zA ?_ | refine RG.zB ?_ | refine RG.zC ?_)
    (first | refine RG.z0 ?_ | refine RG.z1 ?_ | refine RG.z2 ?_ | refine RG.z3 ?_ | refine RG.z4 ?_ | refine RG.z5 ?_ | refine RG.z6 ?_ | refine RG.z7 ?_ | refine RG.z8 ?_ | refine RG.z9 ?_ | refine RG.zA ?_ | refine RG.zB ?_ | refine RG.zC ?_)
    exact RG.nilS (AC.ret (finD (H' := H) rfl h1 ⟨⟨v, rfl⟩, rfl⟩))
  · rintro ⟨t, L, v⟩ H' ⟨h1, h2, h3⟩ ih ex
    dsimp only at h1 h2 h3 ⊢
    refine AC.seq (AC.seq (AC.reg ?_))
    (first | refine RG.z0 ?_ | refine RG.z1 ?_ | refine RG.z2 ?_ | refine RG.z3 ?_ | refine RG.z4 ?_ | refine RG.z5 ?_ | refine RG.z6 ?_ | refine RG.z7 ?_ | refine RG.z8 ?_ | refine RG.z9 ?_ | refine RG.zA ?_ | refine RG.zB ?_ | refine RG.zC ?_)
    refine RG.p (d := .bool (!(t == []))) (by first | exact trivial | exact rfl) rfl ?_
    by_cases hne : t = []
    · subst hne
      exact RG.nilS (AC.cond_f rfl (AC.exit (ex v _ _ h3.sub ⟨rfl, trivial⟩)))
    have hb : (t == []) = false := by simpa using hne
    rw [hb]
    refine RG.nilS (AC.cond_t rfl (AC.skip (AC.block (AC.seq (AC.reg ?_)))))
    rw [Lib.validD_step t hne] at h1
    split at h1
    · cases h1
    rename_i hok
    have hw := Lib.decodeL_width t
    have hle := Lib.decodeL_le t hne
    (first | refine RG.z0 ?_ | refine RG.z1 ?_ | refine RG.z2 ?_ | refine RG.z3 ?_ | refine RG.z4 ?_ | refine RG.z5 ?_ | refine RG.z6 ?_ | refine RG.z7 ?_ | refine RG.z8 ?_ | refine RG.z9 ?_ | refine RG.zA ?_ | refine RG.zB ?_ | refine RG.zC ?_)
    refine RG.call (by first | exact trivial | exact rfl) rfl (one_ok hne hok H') (fun r H2 ⟨⟨x, e1⟩, e2⟩ => ?_) (fun _ _ h => h.elim)
    subst e1; subst e2
    generalize (Lib.decodeL t).2 = k at h1 hw hle ⊢
    (first | refine RG.z0 ?_ | refine RG.z1 ?_ | refine RG.z2 ?_ | refine RG.z3 ?_ | refine RG.z4 ?_ | refine RG.z5 ?_ | refine RG.z6 ?_ | refine RG.z7 ?_ | refine RG.z8 ?_ | refine RG.z9 ?_ | refine RG.zA ?_ | refine RG.zB ?_ | refine RG.zC ?_)
    (first | refine RG.z0 ?_ | refine RG.z1 ?_ | refine RG.z2 ?_ | refine RG.z3 ?_ | refine RG.z4 ?_ | refine RG.z5 ?_ | refine RG.z6 ?_ | refine RG.z7 ?_ | refine RG.z8 ?_ | refine RG.z9 ?_ | refine RG.zA ?_ | refine RG.zB ?_ | refine RG.zC ?_)
    (first | refine RG.z0 ?_ | refine RG.z1 ?_ | refine RG.z2 ?_ | refine RG.z3 ?_ | refine RG.z4 ?_ | refine RG.z5 ?_ | refine RG.z6 ?_ | refine RG.z7 ?_ | refine RG.z8 ?_ | refine RG.z9 ?_ | refine RG.zA ?_ | refine RG.zB ?_ | refine RG.zC ?_)
    (first | refine RG.z0 ?_ | refine RG.z1 ?_ | refine RG.z2 ?_ | refine RG.z3 ?_ | refine RG.z4 ?_ | refine RG.z5 ?_ | refine RG.z6 ?_ | refine RG.z7 ?_ | refine RG.z8 ?_ | refine RG.z9 ?_ | refine RG.zA ?_ | refine RG.zB ?_ | refine RG.zC ?_)
    (first | refine RG.z0 ?_ | refine RG.z1 ?_ | refine RG.z2 ?_ | refine RG.z3 ?_ | refine RG.z4 ?_ | refine RG.z5 ?_ | refine RG.z6 ?_ | refine RG.z7 ?_ | refine RG.z8 ?_ | refine RG.z9 ?_ | refine RG.zA ?_ | refine RG.zB ?_ | refine RG.zC ?_)
    refine RG.nilS (AC.seq (AC.seq (AC.reg ?_)))
    (first | refine RG.z0 ?_ | refine RG.z1 ?_ | refine RG.z2 ?_ | refine RG.z3 ?_ | refine RG.z4 ?_ | refine RG.z5 ?_ | refine RG.z6 ?_ | refine RG.z7 ?_ | refine RG.z8 ?_ | refine RG.z9 ?_ | refine RG.zA ?_ | refine RG.zB ?_ | refine RG.zC ?_)
    refine RG.p (d := .bool false) (by first | exact trivial | exact rfl) (ev_bool (by simp; omega)) ?_
    refine RG.nilS (AC.cond_f rfl (AC.skip (AC.seq (AC.reg ?_))))
    (first | refine RG.z0 ?_ | refine RG.z1 ?_ | refine RG.z2 ?_ | refine RG.z3 ?_ | refine RG.z4 ?_ | refine RG.z5 ?_ | refine RG.z6 ?_ | refine RG.z7 ?_ | refine RG.z8 ?_ | refine RG.z9 ?_ | refine RG.zA ?_ | refine RG.zB ?_ | refine RG.zC ?_)
    (first | refine RG.z0 ?_ | refine RG.z1 ?_ | refine RG.z2 ?_ | refine RG.z3 ?_ | refine RG.z4 ?_ | refine RG.z5 ?_ | refine RG.z6 ?_ | refine RG.z7 ?_ | refine RG.z8 ?_ | refine RG.z9 ?_ | refine RG.zA ?_ | refine RG.zB ?_ | refine RG.zC ?_)
    refine RG.p (d := I32 (IntKind.wrap .i32 x)) (by first | exact trivial | exact rfl) rfl ?_
    refine RG.st (ST.bsl (cs := [I32 (IntKind.wrap .i32 x)]) rfl fun g hg => RG.drop (SubH.fresh hg) ?_)
    refine h3.app (q := IntKind.wrap .i32 x) rfl rfl (by omega) fun v2 H3 h4 => ?_
    (first | refine RG.z0 ?_ | refine RG.z1 ?_ | refine RG.z2 ?_ | refine RG.z3 ?_ | refine RG.z4 ?_ | refine RG.z5 ?_ | refine RG.z6 ?_ | refine RG.z7 ?_ | refine RG.z8 ?_ | refine RG.z9 ?_ | refine RG.zA ?_ | refine RG.zB ?_ | refine RG.zC ?_)
    refine RG.nil (AC.reg ?_)
    (first | refine RG.z0 ?_ | refine RG.z1 ?_ | refine RG.z2 ?_ | refine RG.z3 ?_ | refine RG.z4 ?_ | refine RG.z5 ?_ | refine RG.z6 ?_ | refine RG.z7 ?_ | refine RG.z8 ?_ | refine RG.z9 ?_ | refine RG.zA ?_ | refine RG.zB ?_ | refine RG.zC ?_)
    (first | refine RG.z0 ?_ | refine RG.z1 ?_ | refine RG.z2 ?_ | refine RG.z3 ?_ | refine RG.z4 ?_ | refine RG.z5 ?_ | refine RG.z6 ?_ | refine RG.z7 ?_ | refine RG.z8 ?_ | refine RG.z9 ?_ | refine RG.zA ?_ | refine RG.zB ?_ | refine RG.zC ?_)
    refine RG.from (s := t) (i := (k : Nat)) (by first | exact trivial | exact rfl) rfl rfl (by omega) ?_
    (first | refine RG.z0 ?_ | refine RG.z1 ?_ | refine RG.z2 ?_ | refine RG.z3 ?_ | refine RG.z4 ?_ | refine RG.z5 ?_ | refine RG.z6 ?_ | refine RG.z7 ?_ | refine RG.z8 ?_ | refine RG.z9 ?_ | refine RG.zA ?_ | refine RG.zB ?_ | refine RG.zC ?_)
    refine RG.nil (ih (t.drop k, L ++ [IntKind.wrap .i32 x], v2) _ ⟨h1, ?_, h4⟩ ?_ _ ⟨rfl, rfl, trivial⟩)
    · simp; omega
    · simp; omega

theorem refValid_ok {s : List UInt8} (hv : Lib.validD s = true) (hs : s.length ≤ 1000000) : PF Go.Proofs.Tryd.prog G 50 [.str s] (.bool true) := by
  intro H
  refine CALL.of cF50 (Nat.le_of_ble_eq_true rfl) ?_
  refine AC.seq (AC.reg ?_)
  (first | refine RG.z0 ?_ | refine RG.z1 ?_ | refine RG.z2 ?_ | refine RG.z3 ?_ | refine RG.z4 ?_ | refine RG.z5 ?_ | refine RG.z6 ?_ | refine RG.z7 ?_ | refine RG.z8 ?_ | refine RG.z9 ?_ | refine RG.zA ?_ | refine RG.zB ?_ | refine RG.zC ?_)
  refine RG.nilS (AC.seq (AC.reg ?_))
  (first | refine RG.z0 ?_ | refine RG.z1 ?_ | refine RG.z2 ?_ | refine RG.z3 ?_ | refine RG.z4 ?_ | refine RG.z5 ?_ | refine RG.z6 ?_ | refine RG.z7 ?_ | refine RG.z8 ?_ | refine RG.z9 ?_ | refine RG.zA ?_ | refine RG.zB ?_ | refine RG.zC ?_)
  refine RG.call (by first | exact trivial | exact rfl) rfl (Letters_ok hv hs H) (fun r H2 ⟨⟨v, e1⟩, e2⟩ => ?_) (fun _ _ h => h.elim)
  subst e1; subst e2
  (first | refine RG.z0 ?_ | refine RG.z1 ?_ | refine RG.z2 ?_ | refine RG.z3 ?_ | refine RG.z4 ?_ | refine RG.z5 ?_ | refine RG.z6 ?_ | refine RG.z7 ?_ | refine RG.z8 ?_ | refine RG.z9 ?_ | refine RG.zA ?_ | refine RG.zB ?_ | refine RG.zC ?_)
  (first | refine RG.z0 ?_ | refine RG.z1 ?_ | refine RG.z2 ?_ | refine RG.z3 ?_ | refine RG.z4 ?_ | refine RG.z5 ?_ | refine RG.z6 ?_ | refine RG.z7 ?_ | refine RG.z8 ?_ | refine RG.z9 ?_ | refine RG.zA ?_ | refine RG.zB ?_ | refine RG.zC ?_)
  (first | refine RG.z0 ?_ | refine RG.z1 ?_ | refine RG.z2 ?_ | refine RG.z3 ?_ | refine RG.z4 ?_ | refine RG.z5 ?_ | refine RG.z6 ?_ | refine RG.z7 ?_ | refine RG.z8 ?_ | refine RG.z9 ?_ | refine RG.zA ?_ | refine RG.zB ?_ | refine RG.zC ?_)
  (first | refine RG.z0 ?_ | refine RG.z1 ?_ | refine RG.z2 ?_ | refine RG.z3 ?_ | refine RG.z4 ?_ | refine RG.z5 ?_ | refine RG.z6 ?_ | refine RG.z7 ?_ | refine RG.z8 ?_ | refine RG.z9 ?_ | refine RG.zA ?_ | refine RG.zB ?_ | refine RG.zC ?_)
  (first | refine RG.z0 ?_ | refine RG.z1 ?_ | refine RG.z2 ?_ | refine RG.z3 ?_ | refine RG.z4 ?_ | refine RG.z5 ?_ | refine RG.z6 ?_ | refine RG.z7 ?_ | refine RG.z8 ?_ | refine RG.z9 ?_ | refine RG.zA ?_ | refine RG.zB ?_ | refine RG.zC ?_)
  refine RG.nilS (AC.seq (AC.reg ?_))
  (first | refine RG.z0 ?_ | refine RG.z1 ?_ | refine RG.z2 ?_ | refine RG.z3 ?_ | refine RG.z4 ?_ | refine RG.z5 ?_ | refine RG.z6 ?_ | refine RG.z7 ?_ | refine RG.z8 ?_ | refine RG.z9 ?_ | refine RG.zA ?_ | refine RG.zB ?_ | refine RG.zC ?_)
  (first | refine RG.z0 ?_ | refine RG.z1 ?_ | refine RG.z2 ?_ | refine RG.z3 ?_ | refine RG.z4 ?_ | refine RG.z5 ?_ | refine RG.z6 ?_ | refine RG.z7 ?_ | refine RG.z8 ?_ | refine RG.z9 ?_ | refine RG.zA ?_ | refine RG.zB ?_ | refine RG.zC ?_)
  exact RG.nilS (AC.ret (fin rfl ⟨rfl, rfl⟩))

theorem ctl_not {c : UInt8} (h : ¬ isCtl c = true) : c.toNat < 32 → c.toNat = 9 ∨ c.toNat = 10 := by
  have key : ∀ n : _root_.Fin 256, ¬ isCtl (UInt8.ofNat n.val) = true → (UInt8.ofNat n.val).toNat < 32 → (UInt8.ofNat n.val).toNat = 9 ∨ (UInt8.ofNat n.val).toNat = 10 := by decide +kernel
  have := key ⟨c.toNat, c.toNat_lt⟩
  simpa using this (by simpa using h)

theorem Shown_ok {s : List UInt8} (hv : shownF s = true) (hs : s.length ≤ 1000000) : PF Go.Proofs.Tryd.prog G 29 [.str s] (.bool true) := by
  intro H
  unfold shownF at hv
  simp only [Bool.and_eq_true, Bool.not_eq_true', List.any_eq_false] at hv
  obtain ⟨hv1, hv2⟩ := hv
  refine CALL.of cF29 (Nat.le_of_ble_eq_true rfl) ?_
  refine AC.seq (AC.reg ?_)
  (first | refine RG.z0 ?_ | refine RG.z1 ?_ | refine RG.z2 ?_ | refine RG.z3 ?_ | refine RG.z4 ?_ | refine RG.z5 ?_ | refine RG.z6 ?_ | refine RG.z7 ?_ | refine RG.z8 ?_ | refine RG.z9 ?_ | refine RG.zA ?_ | refine RG.zB ?_ | refine RG.zC ?_)
  refine RG.nilS (AC.seq (AC.seq (AC.reg ?_)))
  (first | refine RG.z0 ?_ | refine RG.z1 ?_ | refine RG.z2 ?_ | refine RG.z3 ?_ | refine RG.z4 ?_ | refine RG.z5 ?_ | refine RG.z6 ?_ | refine RG.z7 ?_ | refine RG.z8 ?_ | refine RG.z9 ?_ | refine RG.zA ?_ | refine RG.zB ?_ | refine RG.zC ?_)
  refine RG.nilS ?_
  refine AC.bloopH (α := Nat) (β := Unit) (fun i => s.length - i) (fun i => [(0, .str s), (3, .int .i64 i)])
    (fun i H' => i ≤ s.length ∧ H' = H) (fun _ => [(0, .str s)]) (fun _ H' => H' = H) ?_ ?_ 0 _ ⟨Nat.zero_le _, rfl⟩ ⟨rfl, rfl, trivial⟩
  · intro _ He fr h1 hfr
    subst h1
    refine AC.to _ hfr (AC.seq (AC.reg ?_))
    (first | refine RG.z0 ?_ | refine RG.z1 ?_ | refine RG.z2 ?_ | refine RG.z3 ?_ | refine RG.z4 ?_ | refine RG.z5 ?_ | refine RG.z6 ?_ | refine RG.z7 ?_ | refine RG.z8 ?_ | refine RG.z9 ?_ | refine RG.zA ?_ | refine RG.zB ?_ | refine RG.zC ?_)
    refine RG.callP (by first | exact trivial | exact rfl) rfl (refValid_ok hv1 hs) ?_
    (first | refine RG.z0 ?_ | refine RG.z1 ?_ | refine RG.z2 ?_ | refine RG.z3 ?_ | refine RG.z4 ?_ | refine RG.z5 ?_ | refine RG.z6 ?_ | refine RG.z7 ?_ | refine RG.z8 ?_ | refine RG.z9 ?_ | refine RG.zA ?_ | refine RG.zB ?_ | refine RG.zC ?_)
    exact RG.nilS (AC.ret (fin rfl ⟨rfl, rfl⟩))
  · rintro i H' ⟨h1, h2⟩ ih ex
    subst h2
    refine AC.seq (AC.seq (AC.reg ?_))
    (first | refine RG.z0 ?_ | refine RG.z1 ?_ | refine RG.z2 ?_ | refine RG.z3 ?_ | refine RG.z4 ?_ | refine RG.z5 ?_ | refine RG.z6 ?_ | refine RG.z7 ?_ | refine RG.z8 ?_ | refine RG.z9 ?_ | refine RG.zA ?_ | refine RG.zB ?_ | refine RG.zC ?_)
    (first | refine RG.z0 ?_ | refine RG.z1 ?_ | refine RG.z2 ?_ | refine RG.z3 ?_ | refine RG.z4 ?_ | refine RG.z5 ?_ | refine RG.z6 ?_ | refine RG.z7 ?_ | refine RG.z8 ?_ | refine RG.z9 ?_ | refine RG.zA ?_ | refine RG.zB ?_ | refine RG.zC ?_)
    (first | refine RG.z0 ?_ | refine RG.z1 ?_ | refine RG.z2 ?_ | refine RG.z3 ?_ | refine RG.z4 ?_ | refine RG.z5 ?_ | refine RG.z6 ?_ | refine RG.z7 ?_ | refine RG.z8 ?_ | refine RG.z9 ?_ | refine RG.zA ?_ | refine RG.zB ?_ | refine RG.zC ?_)
    refine RG.p (d := .bool (decide (i < s.length))) (by first | exact trivial | exact rfl) (ev_bool (by rw [Bool.eq_iff_iff]; simp)) ?_
    cases c1 : decide (i < s.length)
    · exact RG.nilS (AC.cond_f rfl (AC.exit (ex () _ _ rfl ⟨rfl, trivial⟩)))
    have hi := of_decide_eq_true c1
    have hget : s[((i : Nat) : Int).toNat]? = some (s.getD i 0) := at0 hi
    have hctl : ¬ isCtl (s.getD i 0) = true := hv2 _ (List.mem_of_getElem? (at0 hi))
    generalize s.getD i 0 = c at hget hctl
    have hc : c.toNat < 32 → c.toNat = 9 ∨ c.toNat = 10 := ctl_not hctl
    have next : ∀ fr', fr' 0 = .str s → fr' 3 = .int .i64 (i : Nat) → AC Go.Proofs.Tryd.prog G none F29.N (.reg [⟨(some 8), none, .mv (.t 3)⟩, ⟨(some 9), none, .bin .add (.t 8) (.c (.int .i64 1))⟩, ⟨(some 3), none, .mv (.t 9)⟩]) (Sq Go.Proofs.Tryd.prog G none F29.N _ (Bk 0 _)) fr' H' := fun fr' e0 e3 => by
      refine AC.to [(0, .str s), (3, .int .i64 i)] ⟨e0, e3, trivial⟩ (AC.reg ?_)
      (first | refine RG.z0 ?_ | refine RG.z1 ?_ | refine RG.z2 ?_ | refine RG.z3 ?_ | refine RG.z4 ?_ | refine RG.z5 ?_ | refine RG.z6 ?_ | refine RG.z7 ?_ | refine RG.z8 ?_ | refine RG.z9 ?_ | refine RG.zA ?_ | refine RG.zB ?_ | refine RG.zC ?_)
      (first | refine RG.z0 ?_ | refine RG.z1 ?_ | refine RG.z2 ?_ | refine RG.z3 ?_ | refine RG.z4 ?_ | refine RG.z5 ?_ | refine RG.z6 ?_ | refine RG.z7 ?_ | refine RG.z8 ?_ | refine RG.z9 ?_ | refine RG.zA ?_ | refine RG.zB ?_ | refine RG.zC ?_)
      (first | refine RG.z0 ?_ | refine RG.z1 ?_ | refine RG.z2 ?_ | refine RG.z3 ?_ | refine RG.z4 ?_ | refine RG.z5 ?_ | refine RG.z6 ?_ | refine RG.z7 ?_ | refine RG.z8 ?_ | refine RG.z9 ?_ | refine RG.zA ?_ | refine RG.zB ?_ | refine RG.zC ?_)
      exact RG.nil (ih (i + 1) _ ⟨by omega, rfl⟩ (by omega) _ ⟨rfl, rfl, trivial⟩)
    refine RG.nilS (AC.cond_t rfl (AC.skip (AC.seq (AC.block (AC.seq (AC.reg ?_))))))
    (first | refine RG.z0 ?_ | refine RG.z1 ?_ | refine RG.z2 ?_ | refine RG.z3 ?_ | refine RG.z4 ?_ | refine RG.z5 ?_ | refine RG.z6 ?_ | refine RG.z7 ?_ | refine RG.z8 ?_ | refine RG.z9 ?_ | refine RG.zA ?_ | refine RG.zB ?_ | refine RG.zC ?_)
    (first | refine RG.z0 ?_ | refine RG.z1 ?_ | refine RG.z2 ?_ | refine RG.z3 ?_ | refine RG.z4 ?_ | refine RG.z5 ?_ | refine RG.z6 ?_ | refine RG.z7 ?_ | refine RG.z8 ?_ | refine RG.z9 ?_ | refine RG.zA ?_ | refine RG.zB ?_ | refine RG.zC ?_)
    refine RG.at (b := c) (by first | exact trivial | exact rfl) rfl rfl (by omega) hget ?_
    refine RG.p (d := .bool (decide (c.toNat < 32))) (by first | exact trivial | exact rfl) (ev_bool (by rw [Bool.eq_iff_iff]; simp; omega)) ?_
    cases c2 : decide (c.toNat < 32)
    · repeat (first | refine RG.z0 ?_ | refine RG.z1 ?_ | refine RG.z2 ?_ | refine RG.z3 ?_ | refine RG.z4 ?_ | refine RG.z5 ?_ | refine RG.z6 ?_ | refine RG.z7 ?_ | refine RG.z8 ?_ | refine RG.z9 ?_ | refine RG.zA ?_ | refine RG.zB ?_ | refine RG.zC ?_)
      exact RG.nilS (AC.cond_f rfl (AC.skip (next _ rfl rfl)))
    have hc' := hc (of_decide_eq_true c2)
    (first | refine RG.z0 ?_ | refine RG.z1 ?_ | refine RG.z2 ?_ | refine RG.z3 ?_ | refine RG.z4 ?_ | refine RG.z5 ?_ | refine RG.z6 ?_ | refine RG.z7 ?_ | refine RG.z8 ?_ | refine RG.z9 ?_ | refine RG.zA ?_ | refine RG.zB ?_ | refine RG.zC ?_)
    (first | refine RG.z0 ?_ | refine RG.z1 ?_ | refine RG.z2 ?_ | refine RG.z3 ?_ | refine RG.z4 ?_ | refine RG.z5 ?_ | refine RG.z6 ?_ | refine RG.z7 ?_ | refine RG.z8 ?_ | refine RG.z9 ?_ | refine RG.zA ?_ | refine RG.zB ?_ | refine RG.zC ?_)
    (first | refine RG.z0 ?_ | refine RG.z1 ?_ | refine RG.z2 ?_ | refine RG.z3 ?_ | refine RG.z4 ?_ | refine RG.z5 ?_ | refine RG.z6 ?_ | refine RG.z7 ?_ | refine RG.z8 ?_ | refine RG.z9 ?_ | refine RG.zA ?_ | refine RG.zB ?_ | refine RG.zC ?_)
    refine RG.at (b := c) (by first | exact trivial | exact rfl) rfl rfl (by omega) hget ?_
    rcases hc' with h9 | h10
    · refine RG.p (d := .bool false) (by first | exact trivial | exact rfl) (ev_bool (by simp; omega)) ?_
      repeat (first | refine RG.z0 ?_ | refine RG.z1 ?_ | refine RG.z2 ?_ | refine RG.z3 ?_ | refine RG.z4 ?_ | refine RG.z5 ?_ | refine RG.z6 ?_ | refine RG.z7 ?_ | refine RG.z8 ?_ | refine RG.z9 ?_ | refine RG.zA ?_ | refine RG.zB ?_ | refine RG.zC ?_)
      exact RG.nilS (AC.cond_f rfl (AC.skip (next _ rfl rfl)))
    · refine RG.p (d := .bool true) (by first | exact trivial | exact rfl) (ev_bool (by simp; omega)) ?_
      (first | refine RG.z0 ?_ | refine RG.z1 ?_ | refine RG.z2 ?_ | refine RG.z3 ?_ | refine RG.z4 ?_ | refine RG.z5 ?_ | refine RG.z6 ?_ | refine RG.z7 ?_ | refine RG.z8 ?_ | refine RG.z9 ?_ | refine RG.zA ?_ | refine RG.zB ?_ | refine RG.zC ?_)
      (first | refine RG.z0 ?_ | refine RG.z1 ?_ | refine RG.z2 ?_ | refine RG.z3 ?_ | refine RG.z4 ?_ | refine RG.z5 ?_ | refine RG.z6 ?_ | refine RG.z7 ?_ | refine RG.z8 ?_ | refine RG.z9 ?_ | refine RG.zA ?_ | refine RG.zB ?_ | refine RG.zC ?_)
      (first | refine RG.z0 ?_ | refine RG.z1 ?_ | refine RG.z2 ?_ | refine RG.z3 ?_ | refine RG.z4 ?_ | refine RG.z5 ?_ | refine RG.z6 ?_ | refine RG.z7 ?_ | refine RG.z8 ?_ | refine RG.z9 ?_ | refine RG.zA ?_ | refine RG.zB ?_ | refine RG.zC ?_)
      (first | refine RG.z0 ?_ | refine RG.z1 ?_ | refine RG.z2 ?_ | refine RG.z3 ?_ | refine RG.z4 ?_ | refine RG.z5 ?_ | refine RG.z6 ?_ | refine RG.z7 ?_ | refine RG.z8 ?_ | refine RG.z9 ?_ | refine RG.zA ?_ | refine RG.zB ?_ | refine RG.zC ?_)
      refine RG.at (b := c) (by first | exact trivial | exact rfl) rfl rfl (by omega) hget ?_
      refine RG.p (d := .bool false) (by first | exact trivial | exact rfl) (ev_bool (by simp; omega)) ?_
      repeat (first | refine RG.z0 ?_ | refine RG.z1 ?_ | refine RG.z2 ?_ | refine RG.z3 ?_ | refine RG.z4 ?_ | refine RG.z5 ?_ | refine RG.z6 ?_ | refine RG.z7 ?_ | refine RG.z8 ?_ | refine RG.z9 ?_ | refine RG.zA ?_ | refine RG.zB ?_ | refine RG.zC ?_)
      exact RG.nilS (AC.cond_f rfl (AC.skip (next _ rfl rfl)))

theorem name_digit {c : UInt8} (h : isNameC c = true) (h2 : isLetter c = false) : 48 ≤ c.toNat ∧ c.toNat ≤ 57 := by
  have key : ∀ n : _root_.Fin 256, isNameC (UInt8.ofNat n.val) = true → isLetter (UInt8.ofNat n.val) = false → 48 ≤ (UInt8.ofNat n.val).toNat ∧ (UInt8.ofNat n.val).toNat ≤ 57 := by decide +kernel
  have := key ⟨c.toNat, c.toNat_lt⟩
  simpa using this (by simpa using h) (by simpa using h2)

theorem Name_ok {s : List UInt8} (hv : isName s = true) : PF Go.Proofs.Tryd.prog G 28 [.str s] (.bool true) := by
  intro H
  obtain ⟨c, l, rfl⟩ : ∃ c l, s = c :: l := by
    cases s with
    | nil => cases hv
    | cons c l => exact ⟨c, l, rfl⟩
  rw [isName] at hv
  simp only [Bool.and_eq_true, decide_eq_true_eq, Bool.not_eq_true', List.any_eq_false] at hv
  obtain ⟨hl, hlet, hall⟩ := hv
  refine CALL.of cF28 (Nat.le_of_ble_eq_true rfl) ?_
  refine AC.seq (AC.reg ?_)
  (first | refine RG.z0 ?_ | refine RG.z1 ?_ | refine RG.z2 ?_ | refine RG.z3 ?_ | refine RG.z4 ?_ | refine RG.z5 ?_ | refine RG.z6 ?_ | refine RG.z7 ?_ | refine RG.z8 ?_ | refine RG.z9 ?_ | refine RG.zA ?_ | refine RG.zB ?_ | refine RG.zC ?_)
  refine RG.nilS (AC.seq (AC.seq (AC.reg ?_)))
  (first | refine RG.z0 ?_ | refine RG.z1 ?_ | refine RG.z2 ?_ | refine RG.z3 ?_ | refine RG.z4 ?_ | refine RG.z5 ?_ | refine RG.z6 ?_ | refine RG.z7 ?_ | refine RG.z8 ?_ | refine RG.z9 ?_ | refine RG.zA ?_ | refine RG.zB ?_ | refine RG.zC ?_)
  refine RG.p (d := .bool false) (by first | exact trivial | exact rfl) rfl ?_
  (first | refine RG.z0 ?_ | refine RG.z1 ?_ | refine RG.z2 ?_ | refine RG.z3 ?_ | refine RG.z4 ?_ | refine RG.z5 ?_ | refine RG.z6 ?_ | refine RG.z7 ?_ | refine RG.z8 ?_ | refine RG.z9 ?_ | refine RG.zA ?_ | refine RG.zB ?_ | refine RG.zC ?_)
  (first | refine RG.z0 ?_ | refine RG.z1 ?_ | refine RG.z2 ?_ | refine RG.z3 ?_ | refine RG.z4 ?_ | refine RG.z5 ?_ | refine RG.z6 ?_ | refine RG.z7 ?_ | refine RG.z8 ?_ | refine RG.z9 ?_ | refine RG.zA ?_ | refine RG.zB ?_ | refine RG.zC ?_)
  (first | refine RG.z0 ?_ | refine RG.z1 ?_ | refine RG.z2 ?_ | refine RG.z3 ?_ | refine RG.z4 ?_ | refine RG.z5 ?_ | refine RG.z6 ?_ | refine RG.z7 ?_ | refine RG.z8 ?_ | refine RG.z9 ?_ | refine RG.zA ?_ | refine RG.zB ?_ | refine RG.zC ?_)
  refine RG.p (d := .bool false) (by first | exact trivial | exact rfl) (ev_bool (by simp only [decide_eq_false_iff_not]; omega)) ?_
  (first | refine RG.z0 ?_ | refine RG.z1 ?_ | refine RG.z2 ?_ | refine RG.z3 ?_ | refine RG.z4 ?_ | refine RG.z5 ?_ | refine RG.z6 ?_ | refine RG.z7 ?_ | refine RG.z8 ?_ | refine RG.z9 ?_ | refine RG.zA ?_ | refine RG.zB ?_ | refine RG.zC ?_)
  (first | refine RG.z0 ?_ | refine RG.z1 ?_ | refine RG.z2 ?_ | refine RG.z3 ?_ | refine RG.z4 ?_ | refine RG.z5 ?_ | refine RG.z6 ?_ | refine RG.z7 ?_ | refine RG.z8 ?_ | refine RG.z9 ?_ | refine RG.zA ?_ | refine RG.zB ?_ | refine RG.zC ?_)
  (first | refine RG.z0 ?_ | refine RG.z1 ?_ | refine RG.z2 ?_ | refine RG.z3 ?_ | refine RG.z4 ?_ | refine RG.z5 ?_ | refine RG.z6 ?_ | refine RG.z7 ?_ | refine RG.z8 ?_ | refine RG.z9 ?_ | refine RG.zA ?_ | refine RG.zB ?_ | refine RG.zC ?_)
  refine RG.at (b := c) (by first | exact trivial | exact rfl) rfl rfl (by omega) rfl ?_
  refine RG.callP (by first | exact trivial | exact rfl) rfl (refLetter_ok c) ?_
  rw [hlet]
  repeat (first | refine RG.z0 ?_ | refine RG.z1 ?_ | refine RG.z2 ?_ | refine RG.z3 ?_ | refine RG.z4 ?_ | refine RG.z5 ?_ | refine RG.z6 ?_ | refine RG.z7 ?_ | refine RG.z8 ?_ | refine RG.z9 ?_ | refine RG.zA ?_ | refine RG.zB ?_ | refine RG.zC ?_)
  generalize hs : c :: l = s at hl hall ⊢
  refine RG.nilS (AC.cond_f rfl (AC.skip (AC.seq (AC.seq (AC.reg ?_)))))
  (first | refine RG.z0 ?_ | refine RG.z1 ?_ | refine RG.z2 ?_ | refine RG.z3 ?_ | refine RG.z4 ?_ | refine RG.z5 ?_ | refine RG.z6 ?_ | refine RG.z7 ?_ | refine RG.z8 ?_ | refine RG.z9 ?_ | refine RG.zA ?_ | refine RG.zB ?_ | refine RG.zC ?_)
  refine RG.nilS ?_
  refine AC.bloopH (α := Nat) (β := Unit) (fun i => s.length - i) (fun i => [(0, .str s), (3, .int .i64 i)])
    (fun i H' => i ≤ s.length ∧ H' = H) (fun _ => [(0, .str s)]) (fun _ H' => H' = H) ?_ ?_ 0 _ ⟨Nat.zero_le _, rfl⟩ ⟨rfl, rfl, trivial⟩
  · intro _ He fr h1 hfr
    subst h1
    refine AC.to _ hfr (AC.seq (AC.reg ?_))
    (first | refine RG.z0 ?_ | refine RG.z1 ?_ | refine RG.z2 ?_ | refine RG.z3 ?_ | refine RG.z4 ?_ | refine RG.z5 ?_ | refine RG.z6 ?_ | refine RG.z7 ?_ | refine RG.z8 ?_ | refine RG.z9 ?_ | refine RG.zA ?_ | refine RG.zB ?_ | refine RG.zC ?_)
    exact RG.nilS (AC.ret (fin rfl ⟨rfl, rfl⟩))
  · rintro i H' ⟨h1, h2⟩ ih ex
    subst h2
    refine AC.seq (AC.seq (AC.reg ?_))
    (first | refine RG.z0 ?_ | refine RG.z1 ?_ | refine RG.z2 ?_ | refine RG.z3 ?_ | refine RG.z4 ?_ | refine RG.z5 ?_ | refine RG.z6 ?_ | refine RG.z7 ?_ | refine RG.z8 ?_ | refine RG.z9 ?_ | refine RG.zA ?_ | refine RG.zB ?_ | refine RG.zC ?_)
    (first | refine RG.z0 ?_ | refine RG.z1 ?_ | refine RG.z2 ?_ | refine RG.z3 ?_ | refine RG.z4 ?_ | refine RG.z5 ?_ | refine RG.z6 ?_ | refine RG.z7 ?_ | refine RG.z8 ?_ | refine RG.z9 ?_ | refine RG.zA ?_ | refine RG.zB ?_ | refine RG.zC ?_)
    (first | refine RG.z0 ?_ | refine RG.z1 ?_ | refine RG.z2 ?_ | refine RG.z3 ?_ | refine RG.z4 ?_ | refine RG.z5 ?_ | refine RG.z6 ?_ | refine RG.z7 ?_ | refine RG.z8 ?_ | refine RG.z9 ?_ | refine RG.zA ?_ | refine RG.zB ?_ | refine RG.zC ?_)
    refine RG.p (d := .bool (decide (i < s.length))) (by first | exact trivial | exact rfl) (ev_bool (by rw [Bool.eq_iff_iff]; simp)) ?_
    cases c1 : decide (i < s.length)
    · exact RG.nilS (AC.cond_f rfl (AC.exit (ex () _ _ rfl ⟨rfl, trivial⟩)))
    have hi := of_decide_eq_true c1
    have hget : s[((i : Nat) : Int).toNat]? = some (s.getD i 0) := at0 hi
    have hnc : isNameC (s.getD i 0) = true := by simpa using hall _ (List.mem_of_getElem? (at0 hi))
    generalize s.getD i 0 = b at hget hnc
    have next : ∀ fr', fr' 0 = .str s → fr' 3 = .int .i64 (i : Nat) → AC Go.Proofs.Tryd.prog G none F28.N (.reg [⟨(some 21), none, .mv (.t 3)⟩, ⟨(some 22), none, .bin .add (.t 21) (.c (.int .i64 1))⟩, ⟨(some 3), none, .mv (.t 22)⟩]) (Sq Go.Proofs.Tryd.prog G none F28.N _ (Bk 0 _)) fr' H' := fun fr' e0 e3 => by
      refine AC.to [(0, .str s), (3, .int .i64 i)] ⟨e0, e3, trivial⟩ (AC.reg ?_)
      (first | refine RG.z0 ?_ | refine RG.z1 ?_ | refine RG.z2 ?_ | refine RG.z3 ?_ | refine RG.z4 ?_ | refine RG.z5 ?_ | refine RG.z6 ?_ | refine RG.z7 ?_ | refine RG.z8 ?_ | refine RG.z9 ?_ | refine RG.zA ?_ | refine RG.zB ?_ | refine RG.zC ?_)
      (first | refine RG.z0 ?_ | refine RG.z1 ?_ | refine RG.z2 ?_ | refine RG.z3 ?_ | refine RG.z4 ?_ | refine RG.z5 ?_ | refine RG.z6 ?_ | refine RG.z7 ?_ | refine RG.z8 ?_ | refine RG.z9 ?_ | refine RG.zA ?_ | refine RG.zB ?_ | refine RG.zC ?_)
      (first | refine RG.z0 ?_ | refine RG.z1 ?_ | refine RG.z2 ?_ | refine RG.z3 ?_ | refine RG.z4 ?_ | refine RG.z5 ?_ | refine RG.z6 ?_ | refine RG.z7 ?_ | refine RG.z8 ?_ | refine RG.z9 ?_ | refine RG.zA ?_ | refine RG.zB ?_ | refine RG.zC ?_)
      exact RG.nil (ih (i + 1) _ ⟨by omega, rfl⟩ (by omega) _ ⟨rfl, rfl, trivial⟩)
    refine RG.nilS (AC.cond_t rfl (AC.skip (AC.seq (AC.block (AC.seq (AC.reg ?_))))))
    (first | refine RG.z0 ?_ | refine RG.z1 ?_ | refine RG.z2 ?_ | refine RG.z3 ?_ | refine RG.z4 ?_ | refine RG.z5 ?_ | refine RG.z6 ?_ | refine RG.z7 ?_ | refine RG.z8 ?_ | refine RG.z9 ?_ | refine RG.zA ?_ | refine RG.zB ?_ | refine RG.zC ?_)
    (first | refine RG.z0 ?_ | refine RG.z1 ?_ | refine RG.z2 ?_ | refine RG.z3 ?_ | refine RG.z4 ?_ | refine RG.z5 ?_ | refine RG.z6 ?_ | refine RG.z7 ?_ | refine RG.z8 ?_ | refine RG.z9 ?_ | refine RG.zA ?_ | refine RG.zB ?_ | refine RG.zC ?_)
    refine RG.at (b := b) (by first | exact trivial | exact rfl) rfl rfl (by omega) hget ?_
    refine RG.callP (by first | exact trivial | exact rfl) rfl (refLetter_ok b) ?_
    cases c2 : isLetter b
    · obtain ⟨d1, d2⟩ := name_digit hnc c2
      (first | refine RG.z0 ?_ | refine RG.z1 ?_ | refine RG.z2 ?_ | refine RG.z3 ?_ | refine RG.z4 ?_ | refine RG.z5 ?_ | refine RG.z6 ?_ | refine RG.z7 ?_ | refine RG.z8 ?_ | refine RG.z9 ?_ | refine RG.zA ?_ | refine RG.zB ?_ | refine RG.zC ?_)
      (first | refine RG.z0 ?_ | refine RG.z1 ?_ | refine RG.z2 ?_ | refine RG.z3 ?_ | refine RG.z4 ?_ | refine RG.z5 ?_ | refine RG.z6 ?_ | refine RG.z7 ?_ | refine RG.z8 ?_ | refine RG.z9 ?_ | refine RG.zA ?_ | refine RG.zB ?_ | refine RG.zC ?_)
      (first | refine RG.z0 ?_ | refine RG.z1 ?_ | refine RG.z2 ?_ | refine RG.z3 ?_ | refine RG.z4 ?_ | refine RG.z5 ?_ | refine RG.z6 ?_ | refine RG.z7 ?_ | refine RG.z8 ?_ | refine RG.z9 ?_ | refine RG.zA ?_ | refine RG.zB ?_ | refine RG.zC ?_)
      (first | refine RG.z0 ?_ | refine RG.z1 ?_ | refine RG.z2 ?_ | refine RG.z3 ?_ | refine RG.z4 ?_ | refine RG.z5 ?_ | refine RG.z6 ?_ | refine RG.z7 ?_ | refine RG.z8 ?_ | refine RG.z9 ?_ | refine RG.zA ?_ | refine RG.zB ?_ | refine RG.zC ?_)
      refine RG.at (b := b) (by first | exact trivial | exact rfl) rfl rfl (by omega) hget ?_
      refine RG.p (d := .bool false) (by first | exact trivial | exact rfl) (ev_bool (by simp; omega)) ?_
      (first | refine RG.z0 ?_ | refine RG.z1 ?_ | refine RG.z2 ?_ | refine RG.z3 ?_ | refine RG.z4 ?_ | refine RG.z5 ?_ | refine RG.z6 ?_ | refine RG.z7 ?_ | refine RG.z8 ?_ | refine RG.z9 ?_ | refine RG.zA ?_ | refine RG.zB ?_ | refine RG.zC ?_)
      (first | refine RG.z0 ?_ | refine RG.z1 ?_ | refine RG.z2 ?_ | refine RG.z3 ?_ | refine RG.z4 ?_ | refine RG.z5 ?_ | refine RG.z6 ?_ | refine RG.z7 ?_ | refine RG.z8 ?_ | refine RG.z9 ?_ | refine RG.zA ?_ | refine RG.zB ?_ | refine RG.zC ?_)
      (first | refine RG.z0 ?_ | refine RG.z1 ?_ | refine RG.z2 ?_ | refine RG.z3 ?_ | refine RG.z4 ?_ | refine RG.z5 ?_ | refine RG.z6 ?_ | refine RG.z7 ?_ | refine RG.z8 ?_ | refine RG.z9 ?_ | refine RG.zA ?_ | refine RG.zB ?_ | refine RG.zC ?_)
      refine RG.at (b := b) (by first | exact trivial | exact rfl) rfl rfl (by omega) hget ?_
      refine RG.p (d := .bool false) (by first | exact trivial | exact rfl) (ev_bool (by simp; omega)) ?_
      repeat (first | refine RG.z0 ?_ | refine RG.z1 ?_ | refine RG.z2 ?_ | refine RG.z3 ?_ | refine RG.z4 ?_ | refine RG.z5 ?_ | refine RG.z6 ?_ | refine RG.z7 ?_ | refine RG.z8 ?_ | refine RG.z9 ?_ | refine RG.zA ?_ | refine RG.zB ?_ | refine RG.zC ?_)
      exact RG.nilS (AC.cond_f rfl (AC.skip (next _ rfl rfl)))
    · repeat (first | refine RG.z0 ?_ | refine RG.z1 ?_ | refine RG.z2 ?_ | refine RG.z3 ?_ | refine RG.z4 ?_ | refine RG.z5 ?_ | refine RG.z6 ?_ | refine RG.z7 ?_ | refine RG.z8 ?_ | refine RG.z9 ?_ | refine RG.zA ?_ | refine RG.zB ?_ | refine RG.zC ?_)
      exact RG.nilS (AC.cond_f rfl (AC.skip (next _ rfl rfl)))
end Go.Run.Tryd
/- The document's own answer on what is right. -/
namespace Go.Run.Tryd
open Go Go.Run Go.RowKit
/-! cardcase/cardcaseref13.Check -/
def F10 : FN := ⟨88, (.seq (.reg [⟨(some 1), none, .box 24 (.t 0)⟩,
    ⟨(some 2), none, .mv (.c (.int .i64 0))⟩])
  (.seq (.reg [⟨(some 7), none, .ld true 5 (.t 1)⟩,
    ⟨(some 8), none, .call 12 [(.t 7), (.c (.int .i64 5000)), (.c (.int .i64 13))]⟩,
    ⟨(some 3), none, .mv (.t 8)⟩])
  (.seq (.seq (.reg [⟨(some 4), none, .mv (.c (.int .i64 0))⟩])
  (.block 0 (.loop (.seq (.seq (.reg [⟨(some 9), none, .mv (.t 4)⟩,
    ⟨(some 10), none, .mv (.t 3)⟩,
    ⟨(some 11), none, .len false (.t 10)⟩,
    ⟨(some 12), none, .bin .lss (.t 9) (.t 11)⟩])
  (.cond (.t 12) .skip
  (.exit 0)))
  (.seq (.block 1 (.seq (.reg [⟨(some 15), none, .mv (.t 3)⟩,
    ⟨(some 16), none, .mv (.t 4)⟩,
    ⟨(some 17), none, .iadr 6 (.t 15) (.t 16)⟩,
    ⟨(some 18), none, .fadr 0 (.t 17)⟩,
    ⟨(some 19), none, .ld false 1 (.t 18)⟩,
    ⟨(some 20), none, .bin .gtr (.t 19) (.c (.int .i64 12))⟩])
  (.cond (.t 20) (.seq (.reg [⟨(some 2), none, .mv (.c (.int .i64 9))⟩])
  .ret)
  .skip)))
  (.reg [⟨(some 13), none, .mv (.t 4)⟩,
    ⟨(some 14), none, .bin .add (.t 13) (.c (.int .i64 1))⟩,
    ⟨(some 4), none, .mv (.t 14)⟩]))))))
  (.seq (.seq (.reg [⟨(some 21), none, .ld true 5 (.t 1)⟩,
    ⟨(some 22), none, .call 27 [(.t 21)]⟩,
    ⟨(some 23), none, .bin .gtr (.t 22) (.c (.int .i64 2000))⟩])
  (.cond (.t 23) (.seq (.reg [⟨(some 2), none, .mv (.c (.int .i64 4))⟩])
  .ret)
  .skip))
  (.seq (.seq (.reg [⟨(some 5), none, .mv (.c (.int .i64 0))⟩])
  (.block 2 (.loop (.seq (.seq (.reg [⟨(some 24), none, .mv (.t 5)⟩,
    ⟨(some 25), none, .mv (.t 3)⟩,
    ⟨(some 26), none, .len false (.t 25)⟩,
    ⟨(some 27), none, .bin .lss (.t 24) (.t 26)⟩])
  (.cond (.t 27) .skip
  (.exit 2)))
  (.seq (.block 3 (.seq (.reg [⟨(some 30), none, .mv (.t 3)⟩,
    ⟨(some 31), none, .mv (.t 5)⟩,
    ⟨(some 32), none, .iadr 6 (.t 30) (.t 31)⟩,
    ⟨(some 33), none, .fadr 1 (.t 32)⟩,
    ⟨(some 34), none, .ld true 5 (.t 33)⟩,
    ⟨(some 6), none, .alloc [(.int .i64 0), (.str []), (.str []), (.bool false), .nils] 24⟩,
    ⟨none, none, .st 5 (.t 6) (.t 34)⟩])
  (.block 4 (.seq (.reg [⟨(some 36), none, .fadr 0 (.t 6)⟩,
    ⟨(some 37), none, .ld false 1 (.t 36)⟩,
    ⟨(some 38), none, .bin .lss (.t 37) (.c (.int .i64 0))⟩,
    ⟨(some 39), none, .mv (.t 38)⟩,
    ⟨(some 40), some (39, false), .fadr 0 (.t 6)⟩,
    ⟨(some 41), some (39, false), .ld false 1 (.t 40)⟩,
    ⟨(some 42), some (39, false), .bin .gtr (.t 41) (.c (.int .i64 2))⟩,
    ⟨(some 43), none, .pick (.t 39) (.c (.bool true)) (.t 42)⟩,
    ⟨(some 35), none, .mv (.t 43)⟩])
  (.cond (.t 35) (.seq (.reg [⟨(some 2), none, .mv (.c (.int .i64 5))⟩])
  .ret)
  (.seq (.reg [⟨(some 45), none, .fadr 1 (.t 6)⟩,
    ⟨(some 46), none, .ld false 1 (.t 45)⟩,
    ⟨(some 47), none, .call 28 [(.t 46)]⟩,
    ⟨(some 48), none, .un .not (.t 47)⟩,
    ⟨(some 44), none, .mv (.t 48)⟩])
  (.cond (.t 44) (.seq (.reg [⟨(some 2), none, .mv (.c (.int .i64 14))⟩])
  .ret)
  (.seq (.reg [⟨(some 50), none, .fadr 4 (.t 6)⟩,
    ⟨(some 51), none, .ld false 1 (.t 50)⟩,
    ⟨(some 52), none, .len false (.t 51)⟩,
    ⟨(some 53), none, .bin .gtr (.t 52) (.c (.int .i64 200))⟩,
    ⟨(some 49), none, .mv (.t 53)⟩])
  (.cond (.t 49) (.seq (.reg [⟨(some 2), none, .mv (.c (.int .i64 4))⟩])
  .ret)
  (.seq (.reg [⟨(some 55), none, .fadr 4 (.t 6)⟩,
    ⟨(some 56), none, .ld false 1 (.t 55)⟩,
    ⟨(some 57), none, .len false (.t 56)⟩,
    ⟨(some 58), none, .bin .gtr (.t 57) (.c (.int .i64 0))⟩,
    ⟨(some 59), none, .mv (.t 58)⟩,
    ⟨(some 60), some (59, true), .fadr 2 (.t 6)⟩,
    ⟨(some 61), some (59, true), .ld false 1 (.t 60)⟩,
    ⟨(some 62), some (59, true), .bin .neq (.t 61) (.c (.str []))⟩,
    ⟨(some 63), none, .pick (.t 59) (.t 62) (.c (.bool false))⟩,
    ⟨(some 54), none, .mv (.t 63)⟩])
  (.cond (.t 54) (.seq (.reg [⟨(some 2), none, .mv (.c (.int .i64 7))⟩])
  .ret)
  (.seq (.reg [⟨(some 65), none, .fadr 2 (.t 6)⟩,
    ⟨(some 66), none, .ld false 1 (.t 65)⟩,
    ⟨(some 67), none, .len true (.t 66)⟩,
    ⟨(some 68), none, .bin .gtr (.t 67) (.c (.int .i64 4000))⟩,
    ⟨(some 64), none, .mv (.t 68)⟩])
  (.cond (.t 64) (.seq (.reg [⟨(some 2), none, .mv (.c (.int .i64 8))⟩])
  .ret)
  (.seq (.reg [⟨(some 70), none, .fadr 3 (.t 6)⟩,
    ⟨(some 71), none, .ld false 1 (.t 70)⟩,
    ⟨(some 72), none, .mv (.t 71)⟩,
    ⟨(some 73), some (72, true), .fadr 2 (.t 6)⟩,
    ⟨(some 74), some (72, true), .ld false 1 (.t 73)⟩,
    ⟨(some 75), some (72, true), .bin .eql (.t 74) (.c (.str []))⟩,
    ⟨(some 76), none, .pick (.t 72) (.t 75) (.c (.bool false))⟩,
    ⟨(some 77), none, .mv (.t 76)⟩,
    ⟨(some 78), some (77, false), .fadr 3 (.t 6)⟩,
    ⟨(some 79), some (77, false), .ld false 1 (.t 78)⟩,
    ⟨(some 80), some (77, false), .un .not (.t 79)⟩,
    ⟨(some 81), some (77, false), .mv (.t 80)⟩,
    ⟨(some 82), some (81, true), .fadr 2 (.t 6)⟩,
    ⟨(some 83), some (81, true), .ld false 1 (.t 82)⟩,
    ⟨(some 84), some (81, true), .call 29 [(.t 83)]⟩,
    ⟨(some 85), some (81, true), .un .not (.t 84)⟩,
    ⟨(some 86), some (77, false), .pick (.t 81) (.t 85) (.c (.bool false))⟩,
    ⟨(some 87), none, .pick (.t 77) (.c (.bool true)) (.t 86)⟩,
    ⟨(some 69), none, .mv (.t 87)⟩])
  (.cond (.t 69) (.seq (.reg [⟨(some 2), none, .mv (.c (.int .i64 3))⟩])
  .ret)
  .skip)))))))))))))))
  (.reg [⟨(some 28), none, .mv (.t 5)⟩,
    ⟨(some 29), none, .bin .add (.t 28) (.c (.int .i64 1))⟩,
    ⟨(some 5), none, .mv (.t 29)⟩]))))))
  (.seq (.reg [⟨(some 2), none, .mv (.c (.int .i64 0))⟩])
  .ret)))))), [.tmp 2]⟩
theorem cF10 : cFn Go.Proofs.Tryd.prog 10 = some F10 := by kernel_rfl
/-! cardcase/cardcaseref13.Weight -/
def F27 : FN := ⟨6, (.seq (.reg [⟨(some 1), none, .box 24 (.t 0)⟩,
    ⟨(some 2), none, .mv (.c (.int .i64 0))⟩])
  (.seq (.reg [⟨(some 3), none, .ld true 5 (.t 1)⟩,
    ⟨(some 4), none, .call 12 [(.t 3), (.c (.int .i64 5000)), (.c (.int .i64 5000))]⟩,
    ⟨(some 5), none, .len false (.t 4)⟩,
    ⟨(some 2), none, .mv (.t 5)⟩])
  .ret)), [.tmp 2]⟩
theorem cF27 : cFn Go.Proofs.Tryd.prog 27 = some F27 := by kernel_rfl
variable {G : Gl}

theorem take_take_app {α : Type} (A B : List α) (m : Nat) : ((A.take m) ++ B).take m = (A ++ B).take m := by
  by_cases h : A.length ≤ m
  · rw [List.take_of_length_le h]
  · have h1 : (A.take m).length = m := by simp; omega
    rw [List.take_append_of_le_length (by omega), List.take_append_of_le_length (by omega), List.take_take]
    simp

mutual
theorem allF_eq (most deepest : Nat) : ∀ (e : El) (d : Nat) (l : List (Nat × El)), l.length ≤ most → allF most deepest e d l = (l ++ pre deepest e d).take most
  | .mk p n t o ks, d, l, h => by
    rw [allF, pre]
    cases h1 : decide (deepest < d)
    · have hb : Nat.blt deepest d = false := blt_false (by have := of_decide_eq_false h1; omega)
      rw [hb, cond_false, Bool.false_or]
      cases h2 : decide (most ≤ l.length)
      · have := of_decide_eq_false h2
        rw [cond_false, allsF_eq most deepest ks _ _ (by simp; omega)]
        simp
      · have := of_decide_eq_true h2
        rw [cond_true, List.take_append_of_le_length (by omega), List.take_of_length_le h]
    · have hb : Nat.blt deepest d = true := blt_iff.2 (of_decide_eq_true h1)
      rw [hb, cond_true, Bool.true_or, cond_true, List.append_nil, List.take_of_length_le h]
theorem allsF_eq (most deepest : Nat) : ∀ (ks : List El) (d : Nat) (l : List (Nat × El)), l.length ≤ most → allsF most deepest ks d l = (l ++ pres deepest ks d).take most
  | [], d, l, h => by rw [allsF, pres, List.append_nil, List.take_of_length_le h]
  | k :: ks, d, l, h => by
    rw [allsF, pres]
    cases h2 : decide (most ≤ l.length)
    · rw [cond_false, allsF_eq most deepest ks d _ (allF_len most deepest k d l h), allF_eq most deepest k d l h, take_take_app, List.append_assoc]
    · have := of_decide_eq_true h2
      rw [cond_true, List.take_append_of_le_length (by omega), List.take_of_length_le h]
end

theorem refWeight_ok (e : El) (hfit : fits e) : PF Go.Proofs.Tryd.prog G 27 [.agg (elC e)] (.int .i64 (weightF e : Nat)) := by
  intro H
  refine CALL.of cF27 (Nat.le_of_ble_eq_true rfl) ?_
  refine AC.seq (AC.reg ?_)
  refine RG.box (ys := elC e) (by first | exact trivial | exact rfl) rfl rfl fun be hbe => ?_
  (first | refine RG.z0 ?_ | refine RG.z1 ?_ | refine RG.z2 ?_ | refine RG.z3 ?_ | refine RG.z4 ?_ | refine RG.z5 ?_ | refine RG.z6 ?_ | refine RG.z7 ?_ | refine RG.z8 ?_ | refine RG.z9 ?_ | refine RG.zA ?_ | refine RG.zB ?_ | refine RG.zC ?_)
  refine RG.nilS (AC.seq (AC.reg ?_))
  refine RG.ld (by first | exact trivial | exact rfl) (by conv => lhs; whnf) Hp.upd_same (d := .agg (elC e)) (ldEl e) ?_
  refine RG.call (by first | exact trivial | exact rfl) rfl (All_ok e hfit 5000 5000 (by omega) (by omega) _) (fun v H' ⟨hL, hH⟩ => ?_) (fun _ _ h => h.elim)
  subst hH
  rw [allF_eq _ _ _ _ _ (by simp), List.nil_append] at hL
  refine RG.p (d := .int .i64 (weightF e : Nat)) (by first | exact trivial | exact rfl) (hL.len rfl) ?_
  (first | refine RG.z0 ?_ | refine RG.z1 ?_ | refine RG.z2 ?_ | refine RG.z3 ?_ | refine RG.z4 ?_ | refine RG.z5 ?_ | refine RG.z6 ?_ | refine RG.z7 ?_ | refine RG.z8 ?_ | refine RG.z9 ?_ | refine RG.zA ?_ | refine RG.zB ?_ | refine RG.zC ?_)
  exact RG.nilS (AC.ret (finD (H' := H) rfl (SubH.fresh hbe) ⟨rfl, rfl⟩))

theorem firstErr_all : ∀ (l : List (Nat × El)), firstErr l = 0 → ∀ p ∈ l, check1 p.2 = 0
  | [], _, p, h => by simp at h
  | q :: l, h, p, hp => by
    rw [firstErr] at h
    cases c : check1 q.2 == 0
    · rw [c, cond_false] at h
      rw [h] at c; cases c
    · rw [c, cond_true] at h
      rcases List.mem_cons.1 hp with rfl | hp
      · simpa using c
      · exact firstErr_all l h p hp

theorem look_at {L : List (Nat × El)} {i dd : Nat} {p : Int} {nm t : List UInt8} {o : Bool} {ks : List El} (hi : i < L.length) (hx : L[i] = (dd, .mk p nm t o ks)) {tg : Option (Nat × Nat)} {fr : Fr} {H : Hp} {x y : X} (h1 : XV G fr x = .lst (pairsC L) L.length 6 tg) (h2 : XV G fr y = .int .i64 i) :
    evP G fr H (.iadr 6 x y) = some (.cptr (.int .i64 (dd : Nat) :: .int .i64 p :: .str nm :: .str t :: .bool o :: .lst (elsC ks) ks.length 5 none :: pairsC (L.drop (i + 1)))) := by
  have hat : (pairsC L).drop (i * 6) = .int .i64 (dd : Nat) :: .int .i64 p :: .str nm :: .str t :: .bool o :: .lst (elsC ks) ks.length 5 none :: pairsC (L.drop (i + 1)) := by
    rw [pairsC_drop, List.drop_eq_getElem_cons hi, hx, pairsC]
    show _ :: (elC _ ++ _) = _
    rw [elC]; rfl
  rw [evP_iadr h1 h2 (by omega), ← hat]; rfl

theorem refCheck_ok (e : El) (hfit : fits e) (hz : checkF e = 0) : PF Go.Proofs.Tryd.prog G 10 [.agg (elC e)] (.int .i64 0) := by
  intro H
  unfold checkF at hz
  obtain ⟨z1, hz⟩ := bif_zero (by omega) hz
  obtain ⟨z2, hz⟩ := bif_zero (by omega) hz
  have z3 := firstErr_all _ hz
  have z4 := of_decide_eq_false z2
  simp only [List.any_eq_false] at z1
  refine CALL.of cF10 (Nat.le_of_ble_eq_true rfl) ?_
  refine AC.seq (AC.reg ?_)
  refine RG.box (ys := elC e) (by first | exact trivial | exact rfl) rfl rfl fun be hbe => ?_
  have hty : H.upd be (some (.cells (elC e) 24)) = H.upd be (some (.cells (elC e) elT)) := rfl
  rw [hty]
  (first | refine RG.z0 ?_ | refine RG.z1 ?_ | refine RG.z2 ?_ | refine RG.z3 ?_ | refine RG.z4 ?_ | refine RG.z5 ?_ | refine RG.z6 ?_ | refine RG.z7 ?_ | refine RG.z8 ?_ | refine RG.z9 ?_ | refine RG.zA ?_ | refine RG.zB ?_ | refine RG.zC ?_)
  refine RG.nilS (AC.seq (AC.reg ?_))
  refine RG.ld (by first | exact trivial | exact rfl) (by conv => lhs; whnf) Hp.upd_same (d := .agg (elC e)) (ldEl e) ?_
  refine RG.call (by first | exact trivial | exact rfl) rfl (All_ok e hfit 5000 13 (by omega) (by omega) _) (fun v H' ⟨hL, hH⟩ => ?_) (fun _ _ h => h.elim)
  subst hH
  rw [allF_eq _ _ _ _ _ (by simp), List.nil_append] at hL
  have hlook : (pre 13 e 1).take 5000 = looked e := rfl
  rw [hlook] at hL
  have hLlen : (looked e).length ≤ 5000 := by unfold looked; rw [List.length_take]; omega
  generalize looked e = L at hL z1 z3 hLlen
  have hbe1 : (H.upd be (some (.cells (elC e) elT))) be = some (.cells (elC e) elT) := Hp.upd_same
  have hsub : SubH H (H.upd be (some (.cells (elC e) elT))) := SubH.fresh hbe
  generalize H.upd be (some (.cells (elC e) elT)) = HH at hbe1 hsub ⊢
  (first | refine RG.z0 ?_ | refine RG.z1 ?_ | refine RG.z2 ?_ | refine RG.z3 ?_ | refine RG.z4 ?_ | refine RG.z5 ?_ | refine RG.z6 ?_ | refine RG.z7 ?_ | refine RG.z8 ?_ | refine RG.z9 ?_ | refine RG.zA ?_ | refine RG.zB ?_ | refine RG.zC ?_)
  refine RG.nilS (AC.seq (AC.seq (AC.reg ?_)))
  (first | refine RG.z0 ?_ | refine RG.z1 ?_ | refine RG.z2 ?_ | refine RG.z3 ?_ | refine RG.z4 ?_ | refine RG.z5 ?_ | refine RG.z6 ?_ | refine RG.z7 ?_ | refine RG.z8 ?_ | refine RG.z9 ?_ | refine RG.zA ?_ | refine RG.zB ?_ | refine RG.zC ?_)
  refine RG.nilS ?_
  refine AC.bloopH (α := Nat) (β := Unit) (fun i => L.length - i) (fun i => [(1, .ptr be 0), (3, v), (4, .int .i64 i)])
      (fun i H' => i ≤ L.length ∧ H' = HH) (fun _ => [(1, .ptr be 0), (3, v)]) (fun _ H' => H' = HH) ?_ ?_ 0 _ ⟨Nat.zero_le _, rfl⟩ ⟨rfl, rfl, rfl, trivial⟩
  rotate_left
  · rintro i H' ⟨h1, h2⟩ ih ex
    subst h2
    refine AC.seq (AC.seq (AC.reg ?_))
    (first | refine RG.z0 ?_ | refine RG.z1 ?_ | refine RG.z2 ?_ | refine RG.z3 ?_ | refine RG.z4 ?_ | refine RG.z5 ?_ | refine RG.z6 ?_ | refine RG.z7 ?_ | refine RG.z8 ?_ | refine RG.z9 ?_ | refine RG.zA ?_ | refine RG.zB ?_ | refine RG.zC ?_)
    (first | refine RG.z0 ?_ | refine RG.z1 ?_ | refine RG.z2 ?_ | refine RG.z3 ?_ | refine RG.z4 ?_ | refine RG.z5 ?_ | refine RG.z6 ?_ | refine RG.z7 ?_ | refine RG.z8 ?_ | refine RG.z9 ?_ | refine RG.zA ?_ | refine RG.zB ?_ | refine RG.zC ?_)
    refine RG.p (d := .int .i64 L.length) (by first | exact trivial | exact rfl) (hL.len rfl) ?_
    refine RG.p (d := .bool (decide (i < L.length))) (by first | exact trivial | exact rfl) (ev_bool (by rw [Bool.eq_iff_iff]; simp)) ?_
    cases c1 : decide (i < L.length)
    · exact RG.nilS (AC.cond_f rfl (AC.exit (ex () _ _ rfl ⟨rfl, rfl, trivial⟩)))
    have hi := of_decide_eq_true c1
    obtain ⟨tg, rfl⟩ : ∃ tg, v = .lst (pairsC L) L.length 6 tg := by
      rcases hL with ⟨h, _⟩ | h
      · rw [h] at hi; simp at hi
      · exact h
    obtain ⟨dd, x, hx⟩ : ∃ dd x, L[i] = (dd, x) := ⟨_, _, rfl⟩
    obtain ⟨p, nm, t, o, ks⟩ := x
    have hd := z1 _ (List.getElem_mem hi)
    rw [hx] at hd
    refine RG.nilS (AC.cond_t rfl (AC.skip (AC.seq (AC.block (AC.seq (AC.reg ?_))))))
    (first | refine RG.z0 ?_ | refine RG.z1 ?_ | refine RG.z2 ?_ | refine RG.z3 ?_ | refine RG.z4 ?_ | refine RG.z5 ?_ | refine RG.z6 ?_ | refine RG.z7 ?_ | refine RG.z8 ?_ | refine RG.z9 ?_ | refine RG.zA ?_ | refine RG.zB ?_ | refine RG.zC ?_)
    (first | refine RG.z0 ?_ | refine RG.z1 ?_ | refine RG.z2 ?_ | refine RG.z3 ?_ | refine RG.z4 ?_ | refine RG.z5 ?_ | refine RG.z6 ?_ | refine RG.z7 ?_ | refine RG.z8 ?_ | refine RG.z9 ?_ | refine RG.zA ?_ | refine RG.zB ?_ | refine RG.zC ?_)
    refine RG.p (by first | exact trivial | exact rfl) (look_at hi hx rfl rfl) ?_
    (first | refine RG.z0 ?_ | refine RG.z1 ?_ | refine RG.z2 ?_ | refine RG.z3 ?_ | refine RG.z4 ?_ | refine RG.z5 ?_ | refine RG.z6 ?_ | refine RG.z7 ?_ | refine RG.z8 ?_ | refine RG.z9 ?_ | refine RG.zA ?_ | refine RG.zB ?_ | refine RG.zC ?_)
    (first | refine RG.z0 ?_ | refine RG.z1 ?_ | refine RG.z2 ?_ | refine RG.z3 ?_ | refine RG.z4 ?_ | refine RG.z5 ?_ | refine RG.z6 ?_ | refine RG.z7 ?_ | refine RG.z8 ?_ | refine RG.z9 ?_ | refine RG.zA ?_ | refine RG.zB ?_ | refine RG.zC ?_)
    refine RG.p (d := .bool false) (by first | exact trivial | exact rfl) (ev_bool (by simp at hd ⊢; omega)) ?_
    refine RG.nilS (AC.cond_f rfl (AC.skip (AC.reg ?_)))
    (first | refine RG.z0 ?_ | refine RG.z1 ?_ | refine RG.z2 ?_ | refine RG.z3 ?_ | refine RG.z4 ?_ | refine RG.z5 ?_ | refine RG.z6 ?_ | refine RG.z7 ?_ | refine RG.z8 ?_ | refine RG.z9 ?_ | refine RG.zA ?_ | refine RG.zB ?_ | refine RG.zC ?_)
    (first | refine RG.z0 ?_ | refine RG.z1 ?_ | refine RG.z2 ?_ | refine RG.z3 ?_ | refine RG.z4 ?_ | refine RG.z5 ?_ | refine RG.z6 ?_ | refine RG.z7 ?_ | refine RG.z8 ?_ | refine RG.z9 ?_ | refine RG.zA ?_ | refine RG.zB ?_ | refine RG.zC ?_)
    (first | refine RG.z0 ?_ | refine RG.z1 ?_ | refine RG.z2 ?_ | refine RG.z3 ?_ | refine RG.z4 ?_ | refine RG.z5 ?_ | refine RG.z6 ?_ | refine RG.z7 ?_ | refine RG.z8 ?_ | refine RG.z9 ?_ | refine RG.zA ?_ | refine RG.zB ?_ | refine RG.zC ?_)
    exact RG.nil (ih (i + 1) _ ⟨by omega, rfl⟩ (by omega) _ ⟨rfl, rfl, rfl, trivial⟩)
  intro _ He fr h1 hfr
  subst h1
  refine AC.to _ hfr (AC.seq (AC.seq (AC.reg ?_)))
  refine RG.ld (by first | exact trivial | exact rfl) (by conv => lhs; whnf) hbe1 (d := .agg (elC e)) (ldEl e) ?_
  refine RG.callP (by first | exact trivial | exact rfl) rfl (refWeight_ok e hfit) ?_
  refine RG.p (d := .bool false) (by first | exact trivial | exact rfl) (ev_bool (by simp; omega)) ?_
  refine RG.nilS (AC.cond_f rfl (AC.skip (AC.seq (AC.seq (AC.reg ?_)))))
  (first | refine RG.z0 ?_ | refine RG.z1 ?_ | refine RG.z2 ?_ | refine RG.z3 ?_ | refine RG.z4 ?_ | refine RG.z5 ?_ | refine RG.z6 ?_ | refine RG.z7 ?_ | refine RG.z8 ?_ | refine RG.z9 ?_ | refine RG.zA ?_ | refine RG.zB ?_ | refine RG.zC ?_)
  refine RG.nilS ?_
  refine AC.bloopH (α := Nat) (β := Unit) (fun i => L.length - i) (fun i => [(3, v), (5, .int .i64 i)])
      (fun i H' => i ≤ L.length ∧ H' = He) (fun _ => []) (fun _ H' => H' = He) ?_ ?_ 0 _ ⟨Nat.zero_le _, rfl⟩ ⟨rfl, rfl, trivial⟩
  · intro _ H2 fr h1 hfr
    subst h1
    refine AC.to _ hfr (AC.seq (AC.reg ?_))
    (first | refine RG.z0 ?_ | refine RG.z1 ?_ | refine RG.z2 ?_ | refine RG.z3 ?_ | refine RG.z4 ?_ | refine RG.z5 ?_ | refine RG.z6 ?_ | refine RG.z7 ?_ | refine RG.z8 ?_ | refine RG.z9 ?_ | refine RG.zA ?_ | refine RG.zB ?_ | refine RG.zC ?_)
    exact RG.nilS (AC.ret (finD (H' := H) rfl hsub ⟨rfl, rfl⟩))
  · rintro i H' ⟨h1, h2⟩ ih ex
    subst h2
    refine AC.seq (AC.seq (AC.reg ?_))
    (first | refine RG.z0 ?_ | refine RG.z1 ?_ | refine RG.z2 ?_ | refine RG.z3 ?_ | refine RG.z4 ?_ | refine RG.z5 ?_ | refine RG.z6 ?_ | refine RG.z7 ?_ | refine RG.z8 ?_ | refine RG.z9 ?_ | refine RG.zA ?_ | refine RG.zB ?_ | refine RG.zC ?_)
    (first | refine RG.z0 ?_ | refine RG.z1 ?_ | refine RG.z2 ?_ | refine RG.z3 ?_ | refine RG.z4 ?_ | refine RG.z5 ?_ | refine RG.z6 ?_ | refine RG.z7 ?_ | refine RG.z8 ?_ | refine RG.z9 ?_ | refine RG.zA ?_ | refine RG.zB ?_ | refine RG.zC ?_)
    refine RG.p (d := .int .i64 L.length) (by first | exact trivial | exact rfl) (hL.len rfl) ?_
    refine RG.p (d := .bool (decide (i < L.length))) (by first | exact trivial | exact rfl) (ev_bool (by rw [Bool.eq_iff_iff]; simp)) ?_
    cases c1 : decide (i < L.length)
    · exact RG.nilS (AC.cond_f rfl (AC.exit (ex () _ _ rfl trivial)))
    have hi := of_decide_eq_true c1
    obtain ⟨tg, rfl⟩ : ∃ tg, v = .lst (pairsC L) L.length 6 tg := by
      rcases hL with ⟨h, _⟩ | h
      · rw [h] at hi; simp at hi
      · exact h
    obtain ⟨dd, x, hx⟩ : ∃ dd x, L[i] = (dd, x) := ⟨_, _, rfl⟩
    obtain ⟨p, nm, t, o, ks⟩ := x
    have hc1 := z3 _ (List.getElem_mem hi)
    rw [hx] at hc1
    obtain ⟨⟨p1, p2⟩, hnm, hks, hkt, htl, hop, hnop⟩ := check1_ok hc1
    refine RG.nilS (AC.cond_t rfl (AC.skip (AC.seq (AC.block (AC.seq (AC.reg ?_))))))
    (first | refine RG.z0 ?_ | refine RG.z1 ?_ | refine RG.z2 ?_ | refine RG.z3 ?_ | refine RG.z4 ?_ | refine RG.z5 ?_ | refine RG.z6 ?_ | refine RG.z7 ?_ | refine RG.z8 ?_ | refine RG.z9 ?_ | refine RG.zA ?_ | refine RG.zB ?_ | refine RG.zC ?_)
    (first | refine RG.z0 ?_ | refine RG.z1 ?_ | refine RG.z2 ?_ | refine RG.z3 ?_ | refine RG.z4 ?_ | refine RG.z5 ?_ | refine RG.z6 ?_ | refine RG.z7 ?_ | refine RG.z8 ?_ | refine RG.z9 ?_ | refine RG.zA ?_ | refine RG.zB ?_ | refine RG.zC ?_)
    refine RG.p (by first | exact trivial | exact rfl) (look_at hi hx rfl rfl) ?_
    (first | refine RG.z0 ?_ | refine RG.z1 ?_ | refine RG.z2 ?_ | refine RG.z3 ?_ | refine RG.z4 ?_ | refine RG.z5 ?_ | refine RG.z6 ?_ | refine RG.z7 ?_ | refine RG.z8 ?_ | refine RG.z9 ?_ | refine RG.zA ?_ | refine RG.zB ?_ | refine RG.zC ?_)
    refine RG.p (d := .agg [.int .i64 p, .str nm, .str t, .bool o, .lst (elsC ks) ks.length 5 none]) (by first | exact trivial | exact rfl) rfl ?_
    refine RG.alloc (by first | exact trivial | exact rfl) fun q hq => ?_
    refine RG.sto (d := .agg [.int .i64 p, .str nm, .str t, .bool o, .lst (elsC ks) ks.length 5 none]) (cs := Z5) (ty := elT) (by first | exact trivial | exact rfl) rfl Hp.upd_same rfl rfl rfl (by exact Nat.le_refl _) ?_
    rw [Hp.upd_upd]
    have hqq : (H'.upd q (some (.cells (spliceL 0 [.int .i64 p, .str nm, .str t, .bool o, .lst (elsC ks) ks.length 5 none] Z5) elT))) q = some (.cells [.int .i64 p, .str nm, .str t, .bool o, .lst (elsC ks) ks.length 5 none] elT) := Hp.upd_same
    have hqs : SubH H' (H'.upd q (some (.cells (spliceL 0 [.int .i64 p, .str nm, .str t, .bool o, .lst (elsC ks) ks.length 5 none] Z5) elT))) := SubH.fresh hq
    generalize H'.upd q (some (.cells (spliceL 0 [.int .i64 p, .str nm, .str t, .bool o, .lst (elsC ks) ks.length 5 none] Z5) elT)) = HQ at hqq hqs ⊢
    have next : ∀ fr', fr' 3 = .lst (pairsC L) L.length 6 tg → fr' 5 = .int .i64 (i : Nat) → AC Go.Proofs.Tryd.prog G none F10.N (.reg [⟨(some 28), none, .mv (.t 5)⟩, ⟨(some 29), none, .bin .add (.t 28) (.c (.int .i64 1))⟩, ⟨(some 5), none, .mv (.t 29)⟩]) (Sq Go.Proofs.Tryd.prog G none F10.N _ (Bk 2 _)) fr' HQ := fun fr' e0 e3 => by
      refine AC.to [(3, .lst (pairsC L) L.length 6 tg), (5, .int .i64 i)] ⟨e0, e3, trivial⟩ (AC.drop hqs (AC.reg ?_))
      (first | refine RG.z0 ?_ | refine RG.z1 ?_ | refine RG.z2 ?_ | refine RG.z3 ?_ | refine RG.z4 ?_ | refine RG.z5 ?_ | refine RG.z6 ?_ | refine RG.z7 ?_ | refine RG.z8 ?_ | refine RG.z9 ?_ | refine RG.zA ?_ | refine RG.zB ?_ | refine RG.zC ?_)
      (first | refine RG.z0 ?_ | refine RG.z1 ?_ | refine RG.z2 ?_ | refine RG.z3 ?_ | refine RG.z4 ?_ | refine RG.z5 ?_ | refine RG.z6 ?_ | refine RG.z7 ?_ | refine RG.z8 ?_ | refine RG.z9 ?_ | refine RG.zA ?_ | refine RG.zB ?_ | refine RG.zC ?_)
      (first | refine RG.z0 ?_ | refine RG.z1 ?_ | refine RG.z2 ?_ | refine RG.z3 ?_ | refine RG.z4 ?_ | refine RG.z5 ?_ | refine RG.z6 ?_ | refine RG.z7 ?_ | refine RG.z8 ?_ | refine RG.z9 ?_ | refine RG.zA ?_ | refine RG.zB ?_ | refine RG.zC ?_)
      exact RG.nil (ih (i + 1) _ ⟨by omega, rfl⟩ (by omega) _ ⟨rfl, rfl, trivial⟩)
    refine RG.nilS (AC.block (AC.seq (AC.reg ?_)))
    (first | refine RG.z0 ?_ | refine RG.z1 ?_ | refine RG.z2 ?_ | refine RG.z3 ?_ | refine RG.z4 ?_ | refine RG.z5 ?_ | refine RG.z6 ?_ | refine RG.z7 ?_ | refine RG.z8 ?_ | refine RG.z9 ?_ | refine RG.zA ?_ | refine RG.zB ?_ | refine RG.zC ?_)
    (first | refine RG.z0 ?_ | refine RG.z1 ?_ | refine RG.z2 ?_ | refine RG.z3 ?_ | refine RG.z4 ?_ | refine RG.z5 ?_ | refine RG.z6 ?_ | refine RG.z7 ?_ | refine RG.z8 ?_ | refine RG.z9 ?_ | refine RG.zA ?_ | refine RG.zB ?_ | refine RG.zC ?_)
    refine RG.p (d := .bool false) (by first | exact trivial | exact rfl) (ev_bool (by simp; omega)) ?_
    (first | refine RG.z0 ?_ | refine RG.z1 ?_ | refine RG.z2 ?_ | refine RG.z3 ?_ | refine RG.z4 ?_ | refine RG.z5 ?_ | refine RG.z6 ?_ | refine RG.z7 ?_ | refine RG.z8 ?_ | refine RG.z9 ?_ | refine RG.zA ?_ | refine RG.zB ?_ | refine RG.zC ?_)
    (first | refine RG.z0 ?_ | refine RG.z1 ?_ | refine RG.z2 ?_ | refine RG.z3 ?_ | refine RG.z4 ?_ | refine RG.z5 ?_ | refine RG.z6 ?_ | refine RG.z7 ?_ | refine RG.z8 ?_ | refine RG.z9 ?_ | refine RG.zA ?_ | refine RG.zB ?_ | refine RG.zC ?_)
    (first | refine RG.z0 ?_ | refine RG.z1 ?_ | refine RG.z2 ?_ | refine RG.z3 ?_ | refine RG.z4 ?_ | refine RG.z5 ?_ | refine RG.z6 ?_ | refine RG.z7 ?_ | refine RG.z8 ?_ | refine RG.z9 ?_ | refine RG.zA ?_ | refine RG.zB ?_ | refine RG.zC ?_)
    refine RG.p (d := .bool false) (by first | exact trivial | exact rfl) (ev_bool (by simp; omega)) ?_
    (first | refine RG.z0 ?_ | refine RG.z1 ?_ | refine RG.z2 ?_ | refine RG.z3 ?_ | refine RG.z4 ?_ | refine RG.z5 ?_ | refine RG.z6 ?_ | refine RG.z7 ?_ | refine RG.z8 ?_ | refine RG.z9 ?_ | refine RG.zA ?_ | refine RG.zB ?_ | refine RG.zC ?_)
    (first | refine RG.z0 ?_ | refine RG.z1 ?_ | refine RG.z2 ?_ | refine RG.z3 ?_ | refine RG.z4 ?_ | refine RG.z5 ?_ | refine RG.z6 ?_ | refine RG.z7 ?_ | refine RG.z8 ?_ | refine RG.z9 ?_ | refine RG.zA ?_ | refine RG.zB ?_ | refine RG.zC ?_)
    refine RG.nilS (AC.cond_f rfl (AC.seq (AC.reg ?_)))
    (first | refine RG.z0 ?_ | refine RG.z1 ?_ | refine RG.z2 ?_ | refine RG.z3 ?_ | refine RG.z4 ?_ | refine RG.z5 ?_ | refine RG.z6 ?_ | refine RG.z7 ?_ | refine RG.z8 ?_ | refine RG.z9 ?_ | refine RG.zA ?_ | refine RG.zB ?_ | refine RG.zC ?_)
    (first | refine RG.z0 ?_ | refine RG.z1 ?_ | refine RG.z2 ?_ | refine RG.z3 ?_ | refine RG.z4 ?_ | refine RG.z5 ?_ | refine RG.z6 ?_ | refine RG.z7 ?_ | refine RG.z8 ?_ | refine RG.z9 ?_ | refine RG.zA ?_ | refine RG.zB ?_ | refine RG.zC ?_)
    refine RG.callP (by first | exact trivial | exact rfl) rfl (Name_ok hnm) ?_
    (first | refine RG.z0 ?_ | refine RG.z1 ?_ | refine RG.z2 ?_ | refine RG.z3 ?_ | refine RG.z4 ?_ | refine RG.z5 ?_ | refine RG.z6 ?_ | refine RG.z7 ?_ | refine RG.z8 ?_ | refine RG.z9 ?_ | refine RG.zA ?_ | refine RG.zB ?_ | refine RG.zC ?_)
    (first | refine RG.z0 ?_ | refine RG.z1 ?_ | refine RG.z2 ?_ | refine RG.z3 ?_ | refine RG.z4 ?_ | refine RG.z5 ?_ | refine RG.z6 ?_ | refine RG.z7 ?_ | refine RG.z8 ?_ | refine RG.z9 ?_ | refine RG.zA ?_ | refine RG.zB ?_ | refine RG.zC ?_)
    refine RG.nilS (AC.cond_f rfl (AC.seq (AC.reg ?_)))
    (first | refine RG.z0 ?_ | refine RG.z1 ?_ | refine RG.z2 ?_ | refine RG.z3 ?_ | refine RG.z4 ?_ | refine RG.z5 ?_ | refine RG.z6 ?_ | refine RG.z7 ?_ | refine RG.z8 ?_ | refine RG.z9 ?_ | refine RG.zA ?_ | refine RG.zB ?_ | refine RG.zC ?_)
    (first | refine RG.z0 ?_ | refine RG.z1 ?_ | refine RG.z2 ?_ | refine RG.z3 ?_ | refine RG.z4 ?_ | refine RG.z5 ?_ | refine RG.z6 ?_ | refine RG.z7 ?_ | refine RG.z8 ?_ | refine RG.z9 ?_ | refine RG.zA ?_ | refine RG.zB ?_ | refine RG.zC ?_)
    (first | refine RG.z0 ?_ | refine RG.z1 ?_ | refine RG.z2 ?_ | refine RG.z3 ?_ | refine RG.z4 ?_ | refine RG.z5 ?_ | refine RG.z6 ?_ | refine RG.z7 ?_ | refine RG.z8 ?_ | refine RG.z9 ?_ | refine RG.zA ?_ | refine RG.zB ?_ | refine RG.zC ?_)
    refine RG.p (d := .bool false) (by first | exact trivial | exact rfl) (ev_bool (by simp; omega)) ?_
    (first | refine RG.z0 ?_ | refine RG.z1 ?_ | refine RG.z2 ?_ | refine RG.z3 ?_ | refine RG.z4 ?_ | refine RG.z5 ?_ | refine RG.z6 ?_ | refine RG.z7 ?_ | refine RG.z8 ?_ | refine RG.z9 ?_ | refine RG.zA ?_ | refine RG.zB ?_ | refine RG.zC ?_)
    refine RG.nilS (AC.cond_f rfl (AC.seq (AC.reg ?_)))
    (first | refine RG.z0 ?_ | refine RG.z1 ?_ | refine RG.z2 ?_ | refine RG.z3 ?_ | refine RG.z4 ?_ | refine RG.z5 ?_ | refine RG.z6 ?_ | refine RG.z7 ?_ | refine RG.z8 ?_ | refine RG.z9 ?_ | refine RG.zA ?_ | refine RG.zB ?_ | refine RG.zC ?_)
    (first | refine RG.z0 ?_ | refine RG.z1 ?_ | refine RG.z2 ?_ | refine RG.z3 ?_ | refine RG.z4 ?_ | refine RG.z5 ?_ | refine RG.z6 ?_ | refine RG.z7 ?_ | refine RG.z8 ?_ | refine RG.z9 ?_ | refine RG.zA ?_ | refine RG.zB ?_ | refine RG.zC ?_)
    (first | refine RG.z0 ?_ | refine RG.z1 ?_ | refine RG.z2 ?_ | refine RG.z3 ?_ | refine RG.z4 ?_ | refine RG.z5 ?_ | refine RG.z6 ?_ | refine RG.z7 ?_ | refine RG.z8 ?_ | refine RG.z9 ?_ | refine RG.zA ?_ | refine RG.zB ?_ | refine RG.zC ?_)
    refine RG.p (d := .bool (decide (0 < ks.length))) (by first | exact trivial | exact rfl) (ev_bool (by rw [Bool.eq_iff_iff]; simp)) ?_
    cases c2 : decide (0 < ks.length)
    · repeat (first | refine RG.z0 ?_ | refine RG.z1 ?_ | refine RG.z2 ?_ | refine RG.z3 ?_ | refine RG.z4 ?_ | refine RG.z5 ?_ | refine RG.z6 ?_ | refine RG.z7 ?_ | refine RG.z8 ?_ | refine RG.z9 ?_ | refine RG.zA ?_ | refine RG.zB ?_ | refine RG.zC ?_)
      refine RG.nilS (AC.cond_f rfl (AC.seq (AC.reg ?_)))
      (first | refine RG.z0 ?_ | refine RG.z1 ?_ | refine RG.z2 ?_ | refine RG.z3 ?_ | refine RG.z4 ?_ | refine RG.z5 ?_ | refine RG.z6 ?_ | refine RG.z7 ?_ | refine RG.z8 ?_ | refine RG.z9 ?_ | refine RG.zA ?_ | refine RG.zB ?_ | refine RG.zC ?_)
      (first | refine RG.z0 ?_ | refine RG.z1 ?_ | refine RG.z2 ?_ | refine RG.z3 ?_ | refine RG.z4 ?_ | refine RG.z5 ?_ | refine RG.z6 ?_ | refine RG.z7 ?_ | refine RG.z8 ?_ | refine RG.z9 ?_ | refine RG.zA ?_ | refine RG.zB ?_ | refine RG.zC ?_)
      (first | refine RG.z0 ?_ | refine RG.z1 ?_ | refine RG.z2 ?_ | refine RG.z3 ?_ | refine RG.z4 ?_ | refine RG.z5 ?_ | refine RG.z6 ?_ | refine RG.z7 ?_ | refine RG.z8 ?_ | refine RG.z9 ?_ | refine RG.zA ?_ | refine RG.zB ?_ | refine RG.zC ?_)
      refine RG.p (d := .bool false) (by first | exact trivial | exact rfl) (ev_bool (by simp; omega)) ?_
      (first | refine RG.z0 ?_ | refine RG.z1 ?_ | refine RG.z2 ?_ | refine RG.z3 ?_ | refine RG.z4 ?_ | refine RG.z5 ?_ | refine RG.z6 ?_ | refine RG.z7 ?_ | refine RG.z8 ?_ | refine RG.z9 ?_ | refine RG.zA ?_ | refine RG.zB ?_ | refine RG.zC ?_)
      refine RG.nilS (AC.cond_f rfl (AC.seq (AC.reg ?_)))
      cases o
      · (first | refine RG.z0 ?_ | refine RG.z1 ?_ | refine RG.z2 ?_ | refine RG.z3 ?_ | refine RG.z4 ?_ | refine RG.z5 ?_ | refine RG.z6 ?_ | refine RG.z7 ?_ | refine RG.z8 ?_ | refine RG.z9 ?_ | refine RG.zA ?_ | refine RG.zB ?_ | refine RG.zC ?_)
        (first | refine RG.z0 ?_ | refine RG.z1 ?_ | refine RG.z2 ?_ | refine RG.z3 ?_ | refine RG.z4 ?_ | refine RG.z5 ?_ | refine RG.z6 ?_ | refine RG.z7 ?_ | refine RG.z8 ?_ | refine RG.z9 ?_ | refine RG.zA ?_ | refine RG.zB ?_ | refine RG.zC ?_)
        (first | refine RG.z0 ?_ | refine RG.z1 ?_ | refine RG.z2 ?_ | refine RG.z3 ?_ | refine RG.z4 ?_ | refine RG.z5 ?_ | refine RG.z6 ?_ | refine RG.z7 ?_ | refine RG.z8 ?_ | refine RG.z9 ?_ | refine RG.zA ?_ | refine RG.zB ?_ | refine RG.zC ?_)
        (first | refine RG.z0 ?_ | refine RG.z1 ?_ | refine RG.z2 ?_ | refine RG.z3 ?_ | refine RG.z4 ?_ | refine RG.z5 ?_ | refine RG.z6 ?_ | refine RG.z7 ?_ | refine RG.z8 ?_ | refine RG.z9 ?_ | refine RG.zA ?_ | refine RG.zB ?_ | refine RG.zC ?_)
        (first | refine RG.z0 ?_ | refine RG.z1 ?_ | refine RG.z2 ?_ | refine RG.z3 ?_ | refine RG.z4 ?_ | refine RG.z5 ?_ | refine RG.z6 ?_ | refine RG.z7 ?_ | refine RG.z8 ?_ | refine RG.z9 ?_ | refine RG.zA ?_ | refine RG.zB ?_ | refine RG.zC ?_)
        (first | refine RG.z0 ?_ | refine RG.z1 ?_ | refine RG.z2 ?_ | refine RG.z3 ?_ | refine RG.z4 ?_ | refine RG.z5 ?_ | refine RG.z6 ?_ | refine RG.z7 ?_ | refine RG.z8 ?_ | refine RG.z9 ?_ | refine RG.zA ?_ | refine RG.zB ?_ | refine RG.zC ?_)
        (first | refine RG.z0 ?_ | refine RG.z1 ?_ | refine RG.z2 ?_ | refine RG.z3 ?_ | refine RG.z4 ?_ | refine RG.z5 ?_ | refine RG.z6 ?_ | refine RG.z7 ?_ | refine RG.z8 ?_ | refine RG.z9 ?_ | refine RG.zA ?_ | refine RG.zB ?_ | refine RG.zC ?_)
        (first | refine RG.z0 ?_ | refine RG.z1 ?_ | refine RG.z2 ?_ | refine RG.z3 ?_ | refine RG.z4 ?_ | refine RG.z5 ?_ | refine RG.z6 ?_ | refine RG.z7 ?_ | refine RG.z8 ?_ | refine RG.z9 ?_ | refine RG.zA ?_ | refine RG.zB ?_ | refine RG.zC ?_)
        (first | refine RG.z0 ?_ | refine RG.z1 ?_ | refine RG.z2 ?_ | refine RG.z3 ?_ | refine RG.z4 ?_ | refine RG.z5 ?_ | refine RG.z6 ?_ | refine RG.z7 ?_ | refine RG.z8 ?_ | refine RG.z9 ?_ | refine RG.zA ?_ | refine RG.zB ?_ | refine RG.zC ?_)
        (first | refine RG.z0 ?_ | refine RG.z1 ?_ | refine RG.z2 ?_ | refine RG.z3 ?_ | refine RG.z4 ?_ | refine RG.z5 ?_ | refine RG.z6 ?_ | refine RG.z7 ?_ | refine RG.z8 ?_ | refine RG.z9 ?_ | refine RG.zA ?_ | refine RG.zB ?_ | refine RG.zC ?_)
        (first | refine RG.z0 ?_ | refine RG.z1 ?_ | refine RG.z2 ?_ | refine RG.z3 ?_ | refine RG.z4 ?_ | refine RG.z5 ?_ | refine RG.z6 ?_ | refine RG.z7 ?_ | refine RG.z8 ?_ | refine RG.z9 ?_ | refine RG.zA ?_ | refine RG.zB ?_ | refine RG.zC ?_)
        (first | refine RG.z0 ?_ | refine RG.z1 ?_ | refine RG.z2 ?_ | refine RG.z3 ?_ | refine RG.z4 ?_ | refine RG.z5 ?_ | refine RG.z6 ?_ | refine RG.z7 ?_ | refine RG.z8 ?_ | refine RG.z9 ?_ | refine RG.zA ?_ | refine RG.zB ?_ | refine RG.zC ?_)
        (first | refine RG.z0 ?_ | refine RG.z1 ?_ | refine RG.z2 ?_ | refine RG.z3 ?_ | refine RG.z4 ?_ | refine RG.z5 ?_ | refine RG.z6 ?_ | refine RG.z7 ?_ | refine RG.z8 ?_ | refine RG.z9 ?_ | refine RG.zA ?_ | refine RG.zB ?_ | refine RG.zC ?_)
        (first | refine RG.z0 ?_ | refine RG.z1 ?_ | refine RG.z2 ?_ | refine RG.z3 ?_ | refine RG.z4 ?_ | refine RG.z5 ?_ | refine RG.z6 ?_ | refine RG.z7 ?_ | refine RG.z8 ?_ | refine RG.z9 ?_ | refine RG.zA ?_ | refine RG.zB ?_ | refine RG.zC ?_)
        refine RG.callP (by first | exact trivial | exact rfl) rfl (Shown_ok (hnop rfl) (by omega)) ?_
        repeat (first | refine RG.z0 ?_ | refine RG.z1 ?_ | refine RG.z2 ?_ | refine RG.z3 ?_ | refine RG.z4 ?_ | refine RG.z5 ?_ | refine RG.z6 ?_ | refine RG.z7 ?_ | refine RG.z8 ?_ | refine RG.z9 ?_ | refine RG.zA ?_ | refine RG.zB ?_ | refine RG.zC ?_)
        exact RG.nilS (AC.cond_f rfl (AC.skip (next _ rfl rfl)))
      · (first | refine RG.z0 ?_ | refine RG.z1 ?_ | refine RG.z2 ?_ | refine RG.z3 ?_ | refine RG.z4 ?_ | refine RG.z5 ?_ | refine RG.z6 ?_ | refine RG.z7 ?_ | refine RG.z8 ?_ | refine RG.z9 ?_ | refine RG.zA ?_ | refine RG.zB ?_ | refine RG.zC ?_)
        (first | refine RG.z0 ?_ | refine RG.z1 ?_ | refine RG.z2 ?_ | refine RG.z3 ?_ | refine RG.z4 ?_ | refine RG.z5 ?_ | refine RG.z6 ?_ | refine RG.z7 ?_ | refine RG.z8 ?_ | refine RG.z9 ?_ | refine RG.zA ?_ | refine RG.zB ?_ | refine RG.zC ?_)
        (first | refine RG.z0 ?_ | refine RG.z1 ?_ | refine RG.z2 ?_ | refine RG.z3 ?_ | refine RG.z4 ?_ | refine RG.z5 ?_ | refine RG.z6 ?_ | refine RG.z7 ?_ | refine RG.z8 ?_ | refine RG.z9 ?_ | refine RG.zA ?_ | refine RG.zB ?_ | refine RG.zC ?_)
        (first | refine RG.z0 ?_ | refine RG.z1 ?_ | refine RG.z2 ?_ | refine RG.z3 ?_ | refine RG.z4 ?_ | refine RG.z5 ?_ | refine RG.z6 ?_ | refine RG.z7 ?_ | refine RG.z8 ?_ | refine RG.z9 ?_ | refine RG.zA ?_ | refine RG.zB ?_ | refine RG.zC ?_)
        (first | refine RG.z0 ?_ | refine RG.z1 ?_ | refine RG.z2 ?_ | refine RG.z3 ?_ | refine RG.z4 ?_ | refine RG.z5 ?_ | refine RG.z6 ?_ | refine RG.z7 ?_ | refine RG.z8 ?_ | refine RG.z9 ?_ | refine RG.zA ?_ | refine RG.zB ?_ | refine RG.zC ?_)
        refine RG.p (d := .bool false) (by first | exact trivial | exact rfl) (ev_bool (by have := hop rfl; simpa using this)) ?_
        repeat (first | refine RG.z0 ?_ | refine RG.z1 ?_ | refine RG.z2 ?_ | refine RG.z3 ?_ | refine RG.z4 ?_ | refine RG.z5 ?_ | refine RG.z6 ?_ | refine RG.z7 ?_ | refine RG.z8 ?_ | refine RG.z9 ?_ | refine RG.zA ?_ | refine RG.zB ?_ | refine RG.zC ?_)
        exact RG.nilS (AC.cond_f rfl (AC.skip (next _ rfl rfl)))
    · have ht := hkt (of_decide_eq_true c2)
      (first | refine RG.z0 ?_ | refine RG.z1 ?_ | refine RG.z2 ?_ | refine RG.z3 ?_ | refine RG.z4 ?_ | refine RG.z5 ?_ | refine RG.z6 ?_ | refine RG.z7 ?_ | refine RG.z8 ?_ | refine RG.z9 ?_ | refine RG.zA ?_ | refine RG.zB ?_ | refine RG.zC ?_)
      (first | refine RG.z0 ?_ | refine RG.z1 ?_ | refine RG.z2 ?_ | refine RG.z3 ?_ | refine RG.z4 ?_ | refine RG.z5 ?_ | refine RG.z6 ?_ | refine RG.z7 ?_ | refine RG.z8 ?_ | refine RG.z9 ?_ | refine RG.zA ?_ | refine RG.zB ?_ | refine RG.zC ?_)
      (first | refine RG.z0 ?_ | refine RG.z1 ?_ | refine RG.z2 ?_ | refine RG.z3 ?_ | refine RG.z4 ?_ | refine RG.z5 ?_ | refine RG.z6 ?_ | refine RG.z7 ?_ | refine RG.z8 ?_ | refine RG.z9 ?_ | refine RG.zA ?_ | refine RG.zB ?_ | refine RG.zC ?_)
      refine RG.p (d := .bool false) (by first | exact trivial | exact rfl) (ev_bool (by rw [ht]; rfl)) ?_
      repeat (first | refine RG.z0 ?_ | refine RG.z1 ?_ | refine RG.z2 ?_ | refine RG.z3 ?_ | refine RG.z4 ?_ | refine RG.z5 ?_ | refine RG.z6 ?_ | refine RG.z7 ?_ | refine RG.z8 ?_ | refine RG.z9 ?_ | refine RG.zA ?_ | refine RG.zB ?_ | refine RG.zC ?_)
      refine RG.nilS (AC.cond_f rfl (AC.seq (AC.reg ?_)))
      (first | refine RG.z0 ?_ | refine RG.z1 ?_ | refine RG.z2 ?_ | refine RG.z3 ?_ | refine RG.z4 ?_ | refine RG.z5 ?_ | refine RG.z6 ?_ | refine RG.z7 ?_ | refine RG.z8 ?_ | refine RG.z9 ?_ | refine RG.zA ?_ | refine RG.zB ?_ | refine RG.zC ?_)
      (first | refine RG.z0 ?_ | refine RG.z1 ?_ | refine RG.z2 ?_ | refine RG.z3 ?_ | refine RG.z4 ?_ | refine RG.z5 ?_ | refine RG.z6 ?_ | refine RG.z7 ?_ | refine RG.z8 ?_ | refine RG.z9 ?_ | refine RG.zA ?_ | refine RG.zB ?_ | refine RG.zC ?_)
      (first | refine RG.z0 ?_ | refine RG.z1 ?_ | refine RG.z2 ?_ | refine RG.z3 ?_ | refine RG.z4 ?_ | refine RG.z5 ?_ | refine RG.z6 ?_ | refine RG.z7 ?_ | refine RG.z8 ?_ | refine RG.z9 ?_ | refine RG.zA ?_ | refine RG.zB ?_ | refine RG.zC ?_)
      refine RG.p (d := .bool false) (by first | exact trivial | exact rfl) (ev_bool (by simp; omega)) ?_
      (first | refine RG.z0 ?_ | refine RG.z1 ?_ | refine RG.z2 ?_ | refine RG.z3 ?_ | refine RG.z4 ?_ | refine RG.z5 ?_ | refine RG.z6 ?_ | refine RG.z7 ?_ | refine RG.z8 ?_ | refine RG.z9 ?_ | refine RG.zA ?_ | refine RG.zB ?_ | refine RG.zC ?_)
      refine RG.nilS (AC.cond_f rfl (AC.seq (AC.reg ?_)))
      cases o
      · (first | refine RG.z0 ?_ | refine RG.z1 ?_ | refine RG.z2 ?_ | refine RG.z3 ?_ | refine RG.z4 ?_ | refine RG.z5 ?_ | refine RG.z6 ?_ | refine RG.z7 ?_ | refine RG.z8 ?_ | refine RG.z9 ?_ | refine RG.zA ?_ | refine RG.zB ?_ | refine RG.zC ?_)
        (first | refine RG.z0 ?_ | refine RG.z1 ?_ | refine RG.z2 ?_ | refine RG.z3 ?_ | refine RG.z4 ?_ | refine RG.z5 ?_ | refine RG.z6 ?_ | refine RG.z7 ?_ | refine RG.z8 ?_ | refine RG.z9 ?_ | refine RG.zA ?_ | refine RG.zB ?_ | refine RG.zC ?_)
        (first | refine RG.z0 ?_ | refine RG.z1 ?_ | refine RG.z2 ?_ | refine RG.z3 ?_ | refine RG.z4 ?_ | refine RG.z5 ?_ | refine RG.z6 ?_ | refine RG.z7 ?_ | refine RG.z8 ?_ | refine RG.z9 ?_ | refine RG.zA ?_ | refine RG.zB ?_ | refine RG.zC ?_)
        (first | refine RG.z0 ?_ | refine RG.z1 ?_ | refine RG.z2 ?_ | refine RG.z3 ?_ | refine RG.z4 ?_ | refine RG.z5 ?_ | refine RG.z6 ?_ | refine RG.z7 ?_ | refine RG.z8 ?_ | refine RG.z9 ?_ | refine RG.zA ?_ | refine RG.zB ?_ | refine RG.zC ?_)
        (first | refine RG.z0 ?_ | refine RG.z1 ?_ | refine RG.z2 ?_ | refine RG.z3 ?_ | refine RG.z4 ?_ | refine RG.z5 ?_ | refine RG.z6 ?_ | refine RG.z7 ?_ | refine RG.z8 ?_ | refine RG.z9 ?_ | refine RG.zA ?_ | refine RG.zB ?_ | refine RG.zC ?_)
        (first | refine RG.z0 ?_ | refine RG.z1 ?_ | refine RG.z2 ?_ | refine RG.z3 ?_ | refine RG.z4 ?_ | refine RG.z5 ?_ | refine RG.z6 ?_ | refine RG.z7 ?_ | refine RG.z8 ?_ | refine RG.z9 ?_ | refine RG.zA ?_ | refine RG.zB ?_ | refine RG.zC ?_)
        (first | refine RG.z0 ?_ | refine RG.z1 ?_ | refine RG.z2 ?_ | refine RG.z3 ?_ | refine RG.z4 ?_ | refine RG.z5 ?_ | refine RG.z6 ?_ | refine RG.z7 ?_ | refine RG.z8 ?_ | refine RG.z9 ?_ | refine RG.zA ?_ | refine RG.zB ?_ | refine RG.zC ?_)
        (first | refine RG.z0 ?_ | refine RG.z1 ?_ | refine RG.z2 ?_ | refine RG.z3 ?_ | refine RG.z4 ?_ | refine RG.z5 ?_ | refine RG.z6 ?_ | refine RG.z7 ?_ | refine RG.z8 ?_ | refine RG.z9 ?_ | refine RG.zA ?_ | refine RG.zB ?_ | refine RG.zC ?_)
        (first | refine RG.z0 ?_ | refine RG.z1 ?_ | refine RG.z2 ?_ | refine RG.z3 ?_ | refine RG.z4 ?_ | refine RG.z5 ?_ | refine RG.z6 ?_ | refine RG.z7 ?_ | refine RG.z8 ?_ | refine RG.z9 ?_ | refine RG.zA ?_ | refine RG.zB ?_ | refine RG.zC ?_)
        (first | refine RG.z0 ?_ | refine RG.z1 ?_ | refine RG.z2 ?_ | refine RG.z3 ?_ | refine RG.z4 ?_ | refine RG.z5 ?_ | refine RG.z6 ?_ | refine RG.z7 ?_ | refine RG.z8 ?_ | refine RG.z9 ?_ | refine RG.zA ?_ | refine RG.zB ?_ | refine RG.zC ?_)
        (first | refine RG.z0 ?_ | refine RG.z1 ?_ | refine RG.z2 ?_ | refine RG.z3 ?_ | refine RG.z4 ?_ | refine RG.z5 ?_ | refine RG.z6 ?_ | refine RG.z7 ?_ | refine RG.z8 ?_ | refine RG.z9 ?_ | refine RG.zA ?_ | refine RG.zB ?_ | refine RG.zC ?_)
        (first | refine RG.z0 ?_ | refine RG.z1 ?_ | refine RG.z2 ?_ | refine RG.z3 ?_ | refine RG.z4 ?_ | refine RG.z5 ?_ | refine RG.z6 ?_ | refine RG.z7 ?_ | refine RG.z8 ?_ | refine RG.z9 ?_ | refine RG.zA ?_ | refine RG.zB ?_ | refine RG.zC ?_)
        (first | refine RG.z0 ?_ | refine RG.z1 ?_ | refine RG.z2 ?_ | refine RG.z3 ?_ | refine RG.z4 ?_ | refine RG.z5 ?_ | refine RG.z6 ?_ | refine RG.z7 ?_ | refine RG.z8 ?_ | refine RG.z9 ?_ | refine RG.zA ?_ | refine RG.zB ?_ | refine RG.zC ?_)
        (first | refine RG.z0 ?_ | refine RG.z1 ?_ | refine RG.z2 ?_ | refine RG.z3 ?_ | refine RG.z4 ?_ | refine RG.z5 ?_ | refine RG.z6 ?_ | refine RG.z7 ?_ | refine RG.z8 ?_ | refine RG.z9 ?_ | refine RG.zA ?_ | refine RG.zB ?_ | refine RG.zC ?_)
        refine RG.callP (by first | exact trivial | exact rfl) rfl (Shown_ok (hnop rfl) (by omega)) ?_
        repeat (first | refine RG.z0 ?_ | refine RG.z1 ?_ | refine RG.z2 ?_ | refine RG.z3 ?_ | refine RG.z4 ?_ | refine RG.z5 ?_ | refine RG.z6 ?_ | refine RG.z7 ?_ | refine RG.z8 ?_ | refine RG.z9 ?_ | refine RG.zA ?_ | refine RG.zB ?_ | refine RG.zC ?_)
        exact RG.nilS (AC.cond_f rfl (AC.skip (next _ rfl rfl)))
      · (first | refine RG.z0 ?_ | refine RG.z1 ?_ | refine RG.z2 ?_ | refine RG.z3 ?_ | refine RG.z4 ?_ | refine RG.z5 ?_ | refine RG.z6 ?_ | refine RG.z7 ?_ | refine RG.z8 ?_ | refine RG.z9 ?_ | refine RG.zA ?_ | refine RG.zB ?_ | refine RG.zC ?_)
        (first | refine RG.z0 ?_ | refine RG.z1 ?_ | refine RG.z2 ?_ | refine RG.z3 ?_ | refine RG.z4 ?_ | refine RG.z5 ?_ | refine RG.z6 ?_ | refine RG.z7 ?_ | refine RG.z8 ?_ | refine RG.z9 ?_ | refine RG.zA ?_ | refine RG.zB ?_ | refine RG.zC ?_)
        (first | refine RG.z0 ?_ | refine RG.z1 ?_ | refine RG.z2 ?_ | refine RG.z3 ?_ | refine RG.z4 ?_ | refine RG.z5 ?_ | refine RG.z6 ?_ | refine RG.z7 ?_ | refine RG.z8 ?_ | refine RG.z9 ?_ | refine RG.zA ?_ | refine RG.zB ?_ | refine RG.zC ?_)
        (first | refine RG.z0 ?_ | refine RG.z1 ?_ | refine RG.z2 ?_ | refine RG.z3 ?_ | refine RG.z4 ?_ | refine RG.z5 ?_ | refine RG.z6 ?_ | refine RG.z7 ?_ | refine RG.z8 ?_ | refine RG.z9 ?_ | refine RG.zA ?_ | refine RG.zB ?_ | refine RG.zC ?_)
        (first | refine RG.z0 ?_ | refine RG.z1 ?_ | refine RG.z2 ?_ | refine RG.z3 ?_ | refine RG.z4 ?_ | refine RG.z5 ?_ | refine RG.z6 ?_ | refine RG.z7 ?_ | refine RG.z8 ?_ | refine RG.z9 ?_ | refine RG.zA ?_ | refine RG.zB ?_ | refine RG.zC ?_)
        refine RG.p (d := .bool false) (by first | exact trivial | exact rfl) (ev_bool (by have := hop rfl; simpa using this)) ?_
        repeat (first | refine RG.z0 ?_ | refine RG.z1 ?_ | refine RG.z2 ?_ | refine RG.z3 ?_ | refine RG.z4 ?_ | refine RG.z5 ?_ | refine RG.z6 ?_ | refine RG.z7 ?_ | refine RG.z8 ?_ | refine RG.z9 ?_ | refine RG.zA ?_ | refine RG.zB ?_ | refine RG.zC ?_)
        exact RG.nilS (AC.cond_f rfl (AC.skip (next _ rfl rfl)))
end Go.Run.Tryd
/- Whatever is refused is refused with a number other than nought. -/
namespace Go.Run.Tryd
open Go Go.Run Go.RowKit

def NZ {α : Type} (x : RES α) : Prop := ∀ e, x = .error e → e.2 ≠ 0
theorem NZ.ok {α : Type} {x : α} : NZ (.ok x : RES α) := fun e h => by cases h
theorem NZ.err {α : Type} {e : Int × Int} (h : e.2 ≠ 0) : NZ (.error e : RES α) := fun e' he => by cases he; exact h
theorem NZ.bif {α : Type} {b : Bool} {x y : RES α} (hx : b = true → NZ x) (hy : b = false → NZ y) : NZ (bif b then x else y) := by
  cases b
  · exact hy rfl
  · exact hx rfl

theorem uptoF_nz {s t : List UInt8} {i : Nat} : NZ (uptoF s t i) := by
  unfold uptoF
  cases cutO t (s.drop i) with
  | some p => exact .ok
  | none => exact .err (by simp)
theorem entityF_nz {s : List UInt8} {i : Nat} : NZ (entityF s i) := by
  unfold entityF
  cases ents.find? (fun p => p.1.isPrefixOf (s.drop i)) with
  | some p => exact .ok
  | none => exact .bif (fun _ => .err (by simp)) fun _ => .bif (fun _ => .err (by simp)) fun _ => .bif (fun _ => .err (by simp)) fun _ => .ok
theorem closeF_nz {s n : List UInt8} {i : Nat} : NZ (closeF s n i) := by
  unfold closeF
  exact .bif (fun _ => .err (by simp)) fun _ => .bif (fun _ => .err (by simp)) fun _ => .bif (fun _ => .ok) fun _ => .err (by simp)

theorem attrsF_nz {s : List UInt8} : ∀ (f i : Nat) (pg : Int) (nm by_ : Bool), s.length < f + i → i ≤ s.length → NZ (attrsF s f i pg nm by_)
  | 0, i, pg, nm, by_, h, hi => by omega
  | f + 1, i, pg, nm, by_, h, hi => by
    rw [attrsF]
    have hw := wsN_le (s.drop i)
    rw [List.length_drop] at hw
    refine .bif (fun _ => .ok) fun _ => .bif (fun _ => .ok) fun _ => .bif (fun _ => .err (by simp)) fun _ => .bif (fun e3 => .bif (fun _ => .err (by simp)) fun _ => ?_) fun _ => .bif (fun e3 => .bif (fun _ => .err (by simp)) fun _ => ?_) fun _ => .err (by simp)
    · have hpl := prefix_le e3 (by simp [spaceMark])
      have h7 : spaceMark.length = 7 := rfl
      rw [h7] at hpl
      cases hu : uptoF s [34] (i + wsN (s.drop i) + 7) with
      | error e => exact show NZ (.error e) from fun e' he => uptoF_nz e' (by rw [hu]; exact congrArg _ (Except.error.inj he))
      | ok q =>
        have hp := uptoF_prog (x := q.1) (j := q.2) hu hpl
        exact .bif (fun _ => attrsF_nz f _ _ _ _ (by omega) hp.2) fun _ => .err (by simp)
    · have hpl := prefix_le e3 (by simp [codeMark])
      have h7 : codeMark.length = 5 := rfl
      rw [h7] at hpl
      cases hu : uptoF s [34] (i + wsN (s.drop i) + 5) with
      | error e => exact show NZ (.error e) from fun e' he => uptoF_nz e' (by rw [hu]; exact congrArg _ (Except.error.inj he))
      | ok q =>
        have hp := uptoF_prog (x := q.1) (j := q.2) hu hpl
        exact .bif (fun _ => attrsF_nz f _ _ _ _ (by omega) hp.2) fun _ => .err (by simp)

theorem withinF_nz {s : List UInt8} {kid : Nat → RES (El × Nat)} {more : Bool} (hk : ∀ i x j, i ≤ s.length → kid i = .ok (x, j) → i < j ∧ j ≤ s.length ∧ fits x) (hn : ∀ i, more = true → i ≤ s.length → NZ (kid i)) : ∀ (f i : Nat) (b : List UInt8) (ks : List El),
    s.length < f + i → i ≤ s.length → NZ (withinF s kid more f i b ks)
  | 0, i, b, ks, h, hi => by omega
  | f + 1, i, b, ks, h, hi => by
    rw [withinF]
    refine .bif (fun _ => .ok) fun _ => ?_
    cases hd : s.drop i with
    | nil => exact .err (by simp)
    | cons c l =>
      have hlt : i < s.length := by
        have := congrArg List.length hd
        simp only [List.length_drop, List.length_cons] at this
        omega
      dsimp only
      refine .bif (fun _ => ?_) fun _ => .bif (fun e3 => ?_) fun _ => .bif (fun e4 => ?_) fun _ => .bif (fun _ => withinF_nz hk hn f _ _ _ (by omega) (by omega)) fun _ => .bif (fun _ => .err (by simp)) fun _ => .bif (fun _ => .err (by simp)) fun hm => .bif (fun _ => .err (by simp)) fun _ => ?_
      · cases he : entityF s i with
        | error e => exact show NZ (.error e) from fun e' h' => entityF_nz e' (by rw [he]; exact congrArg _ (Except.error.inj h'))
        | ok p =>
          have hp := entityF_prog (x := p.1) (j := p.2) he
          exact withinF_nz hk hn f _ _ _ (by omega) hp.2
      · have hpl := prefix_le (t := rawM) (s := s) (i := i) (by rw [hd]; exact e3) (by simp [rawM])
        have h7 : rawM.length = 9 := rfl
        rw [h7] at hpl
        cases he : uptoF s rawEnd (i + 9) with
        | error e => exact show NZ (.error e) from fun e' h' => uptoF_nz e' (by rw [he]; exact congrArg _ (Except.error.inj h'))
        | ok p =>
          have hp := uptoF_prog (x := p.1) (j := p.2) he hpl
          exact withinF_nz hk hn f _ _ _ (by omega) hp.2
      · have hpl := prefix_le (t := remM) (s := s) (i := i) (by rw [hd]; exact e4) (by simp [remM])
        have h7 : remM.length = 4 := rfl
        rw [h7] at hpl
        cases he : uptoF s remEnd (i + 4) with
        | error e => exact show NZ (.error e) from fun e' h' => uptoF_nz e' (by rw [he]; exact congrArg _ (Except.error.inj h'))
        | ok p =>
          have hp := uptoF_prog (x := p.1) (j := p.2) he hpl
          exact withinF_nz hk hn f _ _ _ (by omega) hp.2
      · have hm' : more = true := by simpa using hm
        cases he : kid i with
        | error e => exact show NZ (.error e) from fun e' h' => hn i hm' hi e' (by rw [he]; exact congrArg _ (Except.error.inj h'))
        | ok p =>
          have hp := hk i p.1 p.2 hi he
          exact withinF_nz hk hn f _ _ _ (by omega) hp.2.1

theorem elemB_nz {s : List UInt8} {kid : Int → Nat → RES (El × Nat)} {more : Bool} {pg : Int} (hk : ∀ p i x j, i ≤ s.length → kid p i = .ok (x, j) → i < j ∧ j ≤ s.length ∧ fits x) (hn : ∀ p i, more = true → i ≤ s.length → NZ (kid p i)) {i : Nat} (hi : i ≤ s.length) : NZ (elemB s kid more pg i) := by
  unfold elemB
  refine .bif (fun _ => .err (by simp)) fun _ => .bif (fun _ => .err (by simp)) fun e1 => .bif (fun _ => .err (by simp)) fun _ => ?_
  rw [Bool.not_eq_false'] at e1
  have hpl := prefix_le e1 (by simp)
  simp only [List.length_cons, List.length_nil] at hpl
  have hsp := span_le isNameC s.length (s.drop (i + 1))
  rw [List.length_drop] at hsp
  cases ha : attrsF s (s.length + 1) (i + 1 + span isNameC s.length (s.drop (i + 1))) pg false false with
  | error e => exact show NZ (.error e) from fun e' h' => attrsF_nz (s := s) (s.length + 1) (i + 1 + span isNameC s.length (s.drop (i + 1))) pg false false (by omega) (by omega) e' (by rw [ha]; exact congrArg _ (Except.error.inj h'))
  | ok q =>
    obtain ⟨c, a, p, y⟩ := q
    have hp := attrsF_prog _ _ _ _ _ _ _ _ _ ha (by omega)
    cases c with
    | true => exact .ok
    | false =>
      dsimp only
      cases hw : withinF s (kid p) more (s.length + 1) a [] [] with
      | error e => exact show NZ (.error e) from fun e' h' => withinF_nz (hk p) (hn p) (s.length + 1) a [] [] (by omega) hp.2 e' (by rw [hw]; exact congrArg _ (Except.error.inj h'))
      | ok q =>
        obtain ⟨t, ks, m⟩ := q
        dsimp only
        cases hc : closeF s (List.take (span isNameC s.length (List.drop (i + 1) s)) (List.drop (i + 1) s)) m with
        | error e => exact show NZ (.error e) from fun e' h' => closeF_nz e' (by rw [hc]; exact congrArg _ (Except.error.inj h'))
        | ok q =>
          dsimp only
          unfold endF
          refine .bif (fun _ => .bif (fun _ => .ok) fun _ => .err (by simp)) fun _ => .bif (fun _ => .bif (fun _ => .ok) fun h => .err ?_) fun _ => .ok
          simpa using h

theorem elemF_nz {s : List UInt8} : ∀ (d : Nat) (pg : Int) (i : Nat), i ≤ s.length → NZ (elemF s d pg i)
  | 0, pg, i, hi => by
    rw [elemF]
    exact elemB_nz (fun _ _ _ _ _ h => by cases h) (fun _ _ h => by cases h) hi
  | d + 1, pg, i, hi => by
    rw [elemF]
    exact elemB_nz (fun p i x j => elemF_prog d p i x j) (fun p i _ h => elemF_nz d p i h) hi

theorem readF_ok {s : List UInt8} : (readF s).2.2 = 0 → ∃ x, readF s = (x, 0, 0) ∧ checkF x = 0 ∧ fits x := by
  intro h
  unfold readF at h ⊢
  cases h1 : decide (((s.length : Nat) : Int) > 12000)
  case true => rw [h1] at h; cases h
  rw [h1, cond_false] at h
  cases h2 : !(Lib.validD s)
  case true => rw [h2] at h; cases h
  rw [h2, cond_false] at h
  simp only [cond_false]
  have key : NZ (readR s) ∧ ∀ x, readR s = .ok x → checkF x = 0 ∧ fits x := by
    unfold readR
    cases hu : (bif List.isPrefixOf headB s then uptoF s headE 5 else .ok ([], 0)) with
    | error e =>
      refine ⟨fun e' h' => ?_, fun x h' => by cases h'⟩
      have : NZ (bif List.isPrefixOf headB s then uptoF s headE 5 else .ok ([], 0)) := .bif (fun _ => uptoF_nz) fun _ => .ok
      exact this e' (by rw [hu]; exact congrArg _ (Except.error.inj h'))
    | ok q =>
      obtain ⟨v, i⟩ := q
      have hi : i ≤ s.length := by
        cases e3 : List.isPrefixOf headB s
        · rw [e3, cond_false] at hu; cases hu; omega
        · rw [e3, cond_true] at hu
          have hpl := prefix_le (t := headB) (s := s) (i := 0) (by rw [List.drop_zero]; exact e3) (by simp [headB])
          have h5 : headB.length = 5 := rfl
          rw [h5] at hpl
          exact (uptoF_prog hu (by omega)).2
      have hw := wsN_le (s.drop i)
      rw [List.length_drop] at hw
      dsimp only
      cases he : elemF s 11 0 (i + wsN (s.drop i)) with
      | error e => exact ⟨fun e' h' => elemF_nz (s := s) 11 0 (i + wsN (s.drop i)) (by omega) e' (by rw [he]; exact congrArg _ (Except.error.inj h')), fun x h' => by cases h'⟩
      | ok q =>
        obtain ⟨x, j⟩ := q
        have hp := elemF_prog 11 0 _ x j (by omega) he
        dsimp only
        refine ⟨.bif (fun _ => .bif (fun _ => .ok) fun h => .err (by simpa using h)) fun _ => .err (by simp), fun y hy => ?_⟩
        cases c1 : s.drop (j + wsN (s.drop j)) == []
        · rw [c1] at hy; cases hy
        · rw [c1, cond_true] at hy
          cases c2 : checkF x == 0
          · rw [c2] at hy; cases hy
          · rw [c2] at hy
            cases hy
            exact ⟨by simpa using c2, hp.2.2⟩
  cases hr : readR s with
  | error e =>
    rw [hr] at h
    exact absurd h (key.1 e hr)
  | ok x => exact ⟨x, rfl, key.2 x hr⟩

theorem readF_bad {s : List UInt8} : (readF s).2.2 ≠ 0 → (readF s).1 = El0 := by
  intro h
  unfold readF at h ⊢
  cases h1 : decide (((s.length : Nat) : Int) > 12000)
  case true => rfl
  rw [h1, cond_false] at h
  cases h2 : !(Lib.validD s)
  case true => rfl
  rw [h2, cond_false] at h
  simp only [cond_false]
  cases hr : readR s with
  | error e => rfl
  | ok x => rw [hr] at h; exact absurd rfl h
end Go.Run.Tryd
/- MarkupAgain. -/
namespace Go.Run.Tryd
open Go Go.Run Go.RowKit
/-! cardcase/cardcaselaw16.MarkupAgain -/
def F4 : FN := ⟨54, (.seq (.reg [⟨(some 2), none, .mv (.c (.bool false))⟩])
  (.seq (.seq (.reg [⟨(some 11), none, .call 5 []⟩,
    ⟨(some 12), none, .un .not (.t 11)⟩])
  (.cond (.t 12) (.seq (.reg [⟨(some 2), none, .mv (.c (.bool false))⟩])
  .ret)
  .skip))
  (.seq (.seq (.reg [⟨(some 13), none, .mv (.t 0)⟩,
    ⟨(some 14), none, .len true (.t 13)⟩,
    ⟨(some 15), none, .bin .gtr (.t 14) (.c (.int .i64 13000))⟩])
  (.cond (.t 15) (.seq (.reg [⟨(some 2), none, .mv (.c (.bool true))⟩])
  .ret)
  .skip))
  (.seq (.reg [⟨(some 17), none, .mv (.t 0)⟩,
    ⟨(some 18), none, .call 8 [(.t 17)]⟩,
    ⟨(some 16), none, .mv (.t 18)⟩,
    ⟨(some 19), none, .ext (.t 16) 0⟩,
    ⟨(some 20), none, .ext (.t 16) 1⟩,
    ⟨(some 21), none, .ext (.t 16) 2⟩,
    ⟨(some 3), none, .alloc [(.int .i64 0), (.str []), (.str []), (.bool false), .nils] 24⟩,
    ⟨none, none, .st 5 (.t 3) (.t 19)⟩,
    ⟨(some 4), none, .mv (.t 20)⟩,
    ⟨(some 5), none, .mv (.t 21)⟩])
  (.seq (.seq (.reg [⟨(some 22), none, .mv (.t 5)⟩,
    ⟨(some 23), none, .bin .neq (.t 22) (.c (.int .i64 0))⟩])
  (.cond (.t 23) (.seq (.reg [⟨(some 24), none, .ld true 5 (.t 3)⟩,
    ⟨(some 25), none, .bld [(.int .i64 0), (.str []), (.str []), (.bool false), .nils] []⟩,
    ⟨(some 26), none, .call 9 [(.t 24), (.t 25)]⟩,
    ⟨(some 2), none, .mv (.t 26)⟩])
  .ret)
  .skip))
  (.seq (.reg [⟨(some 28), none, .ld true 5 (.t 3)⟩,
    ⟨(some 29), none, .call 7 [(.t 28)]⟩,
    ⟨(some 27), none, .mv (.t 29)⟩,
    ⟨(some 30), none, .ext (.t 27) 0⟩,
    ⟨(some 31), none, .ext (.t 27) 1⟩,
    ⟨(some 6), none, .mv (.t 30)⟩,
    ⟨(some 7), none, .mv (.t 31)⟩])
  (.seq (.seq (.reg [⟨(some 32), none, .mv (.t 7)⟩,
    ⟨(some 33), none, .bin .neq (.t 32) (.c (.int .i64 0))⟩])
  (.cond (.t 33) (.seq (.reg [⟨(some 34), none, .mv (.t 7)⟩,
    ⟨(some 35), none, .bin .eql (.t 34) (.c (.int .i64 8))⟩,
    ⟨(some 36), none, .mv (.t 35)⟩,
    ⟨(some 37), some (36, true), .ld true 5 (.t 3)⟩,
    ⟨(some 38), some (36, true), .call 10 [(.t 37)]⟩,
    ⟨(some 39), some (36, true), .bin .eql (.t 38) (.c (.int .i64 0))⟩,
    ⟨(some 40), none, .pick (.t 36) (.t 39) (.c (.bool false))⟩,
    ⟨(some 2), none, .mv (.t 40)⟩])
  .ret)
  .skip))
  (.seq (.reg [⟨(some 42), none, .mv (.t 6)⟩,
    ⟨(some 43), none, .call 8 [(.t 42)]⟩,
    ⟨(some 41), none, .mv (.t 43)⟩,
    ⟨(some 44), none, .ext (.t 41) 0⟩,
    ⟨(some 45), none, .ext (.t 41) 1⟩,
    ⟨(some 46), none, .ext (.t 41) 2⟩,
    ⟨(some 8), none, .alloc [(.int .i64 0), (.str []), (.str []), (.bool false), .nils] 24⟩,
    ⟨none, none, .st 5 (.t 8) (.t 44)⟩,
    ⟨(some 9), none, .mv (.t 45)⟩,
    ⟨(some 10), none, .mv (.t 46)⟩])
  (.seq (.reg [⟨(some 47), none, .mv (.t 10)⟩,
    ⟨(some 48), none, .bin .eql (.t 47) (.c (.int .i64 0))⟩,
    ⟨(some 49), none, .mv (.t 48)⟩,
    ⟨(some 50), some (49, true), .ld true 5 (.t 8)⟩,
    ⟨(some 51), some (49, true), .ld true 5 (.t 3)⟩,
    ⟨(some 52), some (49, true), .call 9 [(.t 50), (.t 51)]⟩,
    ⟨(some 53), none, .pick (.t 49) (.t 52) (.c (.bool false))⟩,
    ⟨(some 2), none, .mv (.t 53)⟩])
  .ret))))))))), [.tmp 2]⟩
theorem cF4 : cFn Go.Proofs.Tryd.prog 4 = some F4 := by kernel_rfl
variable {G : Gl}

theorem fitEl0 : fits El0 := ⟨by decide, trivial⟩

theorem writeF_right {x : El} (h : checkF x = 0) : (writeF x = ([], 8)) ∨ (writeF x = (docF x, 0) ∧ readF (docF x) = (x, 0, 0)) := by
  unfold writeF
  have hb : (checkF x == 0) = true := by simpa using h
  rw [hb, Bool.not_true, cond_false]
  cases h2 : decide ((((docF x).length : Nat) : Int) > 12000)
  · have := of_decide_eq_false h2
    exact .inr ⟨rfl, read_doc h (by omega)⟩
  · exact .inl rfl

theorem MarkupAgain_ok (hG : GOK G) (s : List UInt8) : PF Go.Proofs.Tryd.prog G 4 [.str s] (.bool true) := by
  intro H
  refine CALL.of cF4 (Nat.le_of_ble_eq_true rfl) ?_
  refine AC.seq (AC.reg ?_)
  (first | refine RG.z0 ?_ | refine RG.z1 ?_ | refine RG.z2 ?_ | refine RG.z3 ?_ | refine RG.z4 ?_ | refine RG.z5 ?_ | refine RG.z6 ?_ | refine RG.z7 ?_ | refine RG.z8 ?_ | refine RG.z9 ?_ | refine RG.zA ?_ | refine RG.zB ?_ | refine RG.zC ?_)
  refine RG.nilS (AC.seq (AC.seq (AC.reg ?_)))
  refine RG.callP (by first | exact trivial | exact rfl) rfl (works_ok hG) ?_
  (first | refine RG.z0 ?_ | refine RG.z1 ?_ | refine RG.z2 ?_ | refine RG.z3 ?_ | refine RG.z4 ?_ | refine RG.z5 ?_ | refine RG.z6 ?_ | refine RG.z7 ?_ | refine RG.z8 ?_ | refine RG.z9 ?_ | refine RG.zA ?_ | refine RG.zB ?_ | refine RG.zC ?_)
  refine RG.nilS (AC.cond_f rfl (AC.skip (AC.seq (AC.seq (AC.reg ?_)))))
  (first | refine RG.z0 ?_ | refine RG.z1 ?_ | refine RG.z2 ?_ | refine RG.z3 ?_ | refine RG.z4 ?_ | refine RG.z5 ?_ | refine RG.z6 ?_ | refine RG.z7 ?_ | refine RG.z8 ?_ | refine RG.z9 ?_ | refine RG.zA ?_ | refine RG.zB ?_ | refine RG.zC ?_)
  (first | refine RG.z0 ?_ | refine RG.z1 ?_ | refine RG.z2 ?_ | refine RG.z3 ?_ | refine RG.z4 ?_ | refine RG.z5 ?_ | refine RG.z6 ?_ | refine RG.z7 ?_ | refine RG.z8 ?_ | refine RG.z9 ?_ | refine RG.zA ?_ | refine RG.zB ?_ | refine RG.zC ?_)
  refine RG.p (d := .bool (decide ((s.length : Int) > 13000))) (by first | exact trivial | exact rfl) rfl ?_
  cases c1 : decide ((s.length : Int) > 13000)
  case true =>
    refine RG.nilS (AC.cond_t rfl (AC.seq (AC.reg ?_)))
    (first | refine RG.z0 ?_ | refine RG.z1 ?_ | refine RG.z2 ?_ | refine RG.z3 ?_ | refine RG.z4 ?_ | refine RG.z5 ?_ | refine RG.z6 ?_ | refine RG.z7 ?_ | refine RG.z8 ?_ | refine RG.z9 ?_ | refine RG.zA ?_ | refine RG.zB ?_ | refine RG.zC ?_)
    exact RG.nilS (AC.ret (fin rfl ⟨rfl, rfl⟩))
  refine RG.nilS (AC.cond_f rfl (AC.skip (AC.seq (AC.reg ?_))))
  have hR := Read_ok hG s
  have hok := readF_ok (s := s)
  have hbad := readF_bad (s := s)
  generalize readF s = R at hR hok hbad
  obtain ⟨x, at_, f⟩ := R
  dsimp only at hR hok hbad
  (first | refine RG.z0 ?_ | refine RG.z1 ?_ | refine RG.z2 ?_ | refine RG.z3 ?_ | refine RG.z4 ?_ | refine RG.z5 ?_ | refine RG.z6 ?_ | refine RG.z7 ?_ | refine RG.z8 ?_ | refine RG.z9 ?_ | refine RG.zA ?_ | refine RG.zB ?_ | refine RG.zC ?_)
  refine RG.callP (by first | exact trivial | exact rfl) rfl hR ?_
  (first | refine RG.z0 ?_ | refine RG.z1 ?_ | refine RG.z2 ?_ | refine RG.z3 ?_ | refine RG.z4 ?_ | refine RG.z5 ?_ | refine RG.z6 ?_ | refine RG.z7 ?_ | refine RG.z8 ?_ | refine RG.z9 ?_ | refine RG.zA ?_ | refine RG.zB ?_ | refine RG.zC ?_)
  (first | refine RG.z0 ?_ | refine RG.z1 ?_ | refine RG.z2 ?_ | refine RG.z3 ?_ | refine RG.z4 ?_ | refine RG.z5 ?_ | refine RG.z6 ?_ | refine RG.z7 ?_ | refine RG.z8 ?_ | refine RG.z9 ?_ | refine RG.zA ?_ | refine RG.zB ?_ | refine RG.zC ?_)
  (first | refine RG.z0 ?_ | refine RG.z1 ?_ | refine RG.z2 ?_ | refine RG.z3 ?_ | refine RG.z4 ?_ | refine RG.z5 ?_ | refine RG.z6 ?_ | refine RG.z7 ?_ | refine RG.z8 ?_ | refine RG.z9 ?_ | refine RG.zA ?_ | refine RG.zB ?_ | refine RG.zC ?_)
  (first | refine RG.z0 ?_ | refine RG.z1 ?_ | refine RG.z2 ?_ | refine RG.z3 ?_ | refine RG.z4 ?_ | refine RG.z5 ?_ | refine RG.z6 ?_ | refine RG.z7 ?_ | refine RG.z8 ?_ | refine RG.z9 ?_ | refine RG.zA ?_ | refine RG.zB ?_ | refine RG.zC ?_)
  refine RG.alloc (by first | exact trivial | exact rfl) fun b3 h3 => ?_
  refine RG.sto (d := .agg (elC x)) (cs := Z5) (ty := elT) (by first | exact trivial | exact rfl) rfl Hp.upd_same rfl rfl (elC_length x) (by exact Nat.le_refl _) ?_
  rw [Hp.upd_upd, splE]
  (first | refine RG.z0 ?_ | refine RG.z1 ?_ | refine RG.z2 ?_ | refine RG.z3 ?_ | refine RG.z4 ?_ | refine RG.z5 ?_ | refine RG.z6 ?_ | refine RG.z7 ?_ | refine RG.z8 ?_ | refine RG.z9 ?_ | refine RG.zA ?_ | refine RG.zB ?_ | refine RG.zC ?_)
  (first | refine RG.z0 ?_ | refine RG.z1 ?_ | refine RG.z2 ?_ | refine RG.z3 ?_ | refine RG.z4 ?_ | refine RG.z5 ?_ | refine RG.z6 ?_ | refine RG.z7 ?_ | refine RG.z8 ?_ | refine RG.z9 ?_ | refine RG.zA ?_ | refine RG.zB ?_ | refine RG.zC ?_)
  have hb3 : (H.upd b3 (some (.cells (elC x) elT))) b3 = some (.cells (elC x) elT) := Hp.upd_same
  have hsub : SubH H (H.upd b3 (some (.cells (elC x) elT))) := SubH.fresh h3
  generalize H.upd b3 (some (.cells (elC x) elT)) = HH at hb3 hsub ⊢
  refine RG.nilS (AC.seq (AC.seq (AC.reg ?_)))
  (first | refine RG.z0 ?_ | refine RG.z1 ?_ | refine RG.z2 ?_ | refine RG.z3 ?_ | refine RG.z4 ?_ | refine RG.z5 ?_ | refine RG.z6 ?_ | refine RG.z7 ?_ | refine RG.z8 ?_ | refine RG.z9 ?_ | refine RG.zA ?_ | refine RG.zB ?_ | refine RG.zC ?_)
  refine RG.p (d := .bool (!(f == 0))) (by first | exact trivial | exact rfl) rfl ?_
  cases hf : f == 0
  · have hx : x = El0 := hbad (by simpa using hf)
    subst hx
    have hS := Same_ok (G := G) El0 El0 fitEl0 fitEl0
    rw [sameF_refl] at hS
    refine RG.nilS (AC.cond_t rfl (AC.seq (AC.reg ?_)))
    refine RG.ld (cs := elC El0) (ty := elT) (by first | exact trivial | exact rfl) rfl hb3 (ldEl El0) ?_
    refine RG.p (d := .agg [.int .i64 0, .str [], .str [], .bool false, .nils]) (by first | exact trivial | exact rfl) rfl ?_
    refine RG.leSet (d' := .agg (elC El0)) el0_le ?_
    refine RG.callP (by first | exact trivial | exact rfl) rfl hS ?_
    (first | refine RG.z0 ?_ | refine RG.z1 ?_ | refine RG.z2 ?_ | refine RG.z3 ?_ | refine RG.z4 ?_ | refine RG.z5 ?_ | refine RG.z6 ?_ | refine RG.z7 ?_ | refine RG.z8 ?_ | refine RG.z9 ?_ | refine RG.zA ?_ | refine RG.zB ?_ | refine RG.zC ?_)
    exact RG.nilS (AC.ret (finD (H' := H) rfl hsub ⟨rfl, rfl⟩))
  have hf0 : f = 0 := by simpa using hf
  obtain ⟨x', e1, hck, hfit⟩ := hok hf0
  cases e1
  refine RG.nilS (AC.cond_f rfl (AC.skip (AC.seq (AC.reg ?_))))
  refine RG.ld (cs := elC x) (ty := elT) (by first | exact trivial | exact rfl) rfl hb3 (ldEl x) ?_
  have hW := Write_ok hG x hfit
  rcases writeF_right hck with hw | ⟨hw, hrd⟩
  · rw [hw] at hW
    refine RG.callP (by first | exact trivial | exact rfl) rfl hW ?_
    (first | refine RG.z0 ?_ | refine RG.z1 ?_ | refine RG.z2 ?_ | refine RG.z3 ?_ | refine RG.z4 ?_ | refine RG.z5 ?_ | refine RG.z6 ?_ | refine RG.z7 ?_ | refine RG.z8 ?_ | refine RG.z9 ?_ | refine RG.zA ?_ | refine RG.zB ?_ | refine RG.zC ?_)
    (first | refine RG.z0 ?_ | refine RG.z1 ?_ | refine RG.z2 ?_ | refine RG.z3 ?_ | refine RG.z4 ?_ | refine RG.z5 ?_ | refine RG.z6 ?_ | refine RG.z7 ?_ | refine RG.z8 ?_ | refine RG.z9 ?_ | refine RG.zA ?_ | refine RG.zB ?_ | refine RG.zC ?_)
    (first | refine RG.z0 ?_ | refine RG.z1 ?_ | refine RG.z2 ?_ | refine RG.z3 ?_ | refine RG.z4 ?_ | refine RG.z5 ?_ | refine RG.z6 ?_ | refine RG.z7 ?_ | refine RG.z8 ?_ | refine RG.z9 ?_ | refine RG.zA ?_ | refine RG.zB ?_ | refine RG.zC ?_)
    (first | refine RG.z0 ?_ | refine RG.z1 ?_ | refine RG.z2 ?_ | refine RG.z3 ?_ | refine RG.z4 ?_ | refine RG.z5 ?_ | refine RG.z6 ?_ | refine RG.z7 ?_ | refine RG.z8 ?_ | refine RG.z9 ?_ | refine RG.zA ?_ | refine RG.zB ?_ | refine RG.zC ?_)
    (first | refine RG.z0 ?_ | refine RG.z1 ?_ | refine RG.z2 ?_ | refine RG.z3 ?_ | refine RG.z4 ?_ | refine RG.z5 ?_ | refine RG.z6 ?_ | refine RG.z7 ?_ | refine RG.z8 ?_ | refine RG.z9 ?_ | refine RG.zA ?_ | refine RG.zB ?_ | refine RG.zC ?_)
    refine RG.nilS (AC.seq (AC.seq (AC.reg ?_)))
    (first | refine RG.z0 ?_ | refine RG.z1 ?_ | refine RG.z2 ?_ | refine RG.z3 ?_ | refine RG.z4 ?_ | refine RG.z5 ?_ | refine RG.z6 ?_ | refine RG.z7 ?_ | refine RG.z8 ?_ | refine RG.z9 ?_ | refine RG.zA ?_ | refine RG.zB ?_ | refine RG.zC ?_)
    refine RG.p (d := .bool true) (by first | exact trivial | exact rfl) rfl ?_
    refine RG.nilS (AC.cond_t rfl (AC.seq (AC.reg ?_)))
    (first | refine RG.z0 ?_ | refine RG.z1 ?_ | refine RG.z2 ?_ | refine RG.z3 ?_ | refine RG.z4 ?_ | refine RG.z5 ?_ | refine RG.z6 ?_ | refine RG.z7 ?_ | refine RG.z8 ?_ | refine RG.z9 ?_ | refine RG.zA ?_ | refine RG.zB ?_ | refine RG.zC ?_)
    refine RG.p (d := .bool true) (by first | exact trivial | exact rfl) rfl ?_
    (first | refine RG.z0 ?_ | refine RG.z1 ?_ | refine RG.z2 ?_ | refine RG.z3 ?_ | refine RG.z4 ?_ | refine RG.z5 ?_ | refine RG.z6 ?_ | refine RG.z7 ?_ | refine RG.z8 ?_ | refine RG.z9 ?_ | refine RG.zA ?_ | refine RG.zB ?_ | refine RG.zC ?_)
    refine RG.ld (cs := elC x) (ty := elT) (by first | exact trivial | exact rfl) rfl hb3 (ldEl x) ?_
    refine RG.callP (by first | exact trivial | exact rfl) rfl (refCheck_ok x hfit hck) ?_
    refine RG.p (d := .bool true) (by first | exact trivial | exact rfl) rfl ?_
    (first | refine RG.z0 ?_ | refine RG.z1 ?_ | refine RG.z2 ?_ | refine RG.z3 ?_ | refine RG.z4 ?_ | refine RG.z5 ?_ | refine RG.z6 ?_ | refine RG.z7 ?_ | refine RG.z8 ?_ | refine RG.z9 ?_ | refine RG.zA ?_ | refine RG.zB ?_ | refine RG.zC ?_)
    (first | refine RG.z0 ?_ | refine RG.z1 ?_ | refine RG.z2 ?_ | refine RG.z3 ?_ | refine RG.z4 ?_ | refine RG.z5 ?_ | refine RG.z6 ?_ | refine RG.z7 ?_ | refine RG.z8 ?_ | refine RG.z9 ?_ | refine RG.zA ?_ | refine RG.zB ?_ | refine RG.zC ?_)
    exact RG.nilS (AC.ret (finD (H' := H) rfl hsub ⟨rfl, rfl⟩))
  · rw [hw] at hW
    refine RG.callP (by first | exact trivial | exact rfl) rfl hW ?_
    (first | refine RG.z0 ?_ | refine RG.z1 ?_ | refine RG.z2 ?_ | refine RG.z3 ?_ | refine RG.z4 ?_ | refine RG.z5 ?_ | refine RG.z6 ?_ | refine RG.z7 ?_ | refine RG.z8 ?_ | refine RG.z9 ?_ | refine RG.zA ?_ | refine RG.zB ?_ | refine RG.zC ?_)
    (first | refine RG.z0 ?_ | refine RG.z1 ?_ | refine RG.z2 ?_ | refine RG.z3 ?_ | refine RG.z4 ?_ | refine RG.z5 ?_ | refine RG.z6 ?_ | refine RG.z7 ?_ | refine RG.z8 ?_ | refine RG.z9 ?_ | refine RG.zA ?_ | refine RG.zB ?_ | refine RG.zC ?_)
    (first | refine RG.z0 ?_ | refine RG.z1 ?_ | refine RG.z2 ?_ | refine RG.z3 ?_ | refine RG.z4 ?_ | refine RG.z5 ?_ | refine RG.z6 ?_ | refine RG.z7 ?_ | refine RG.z8 ?_ | refine RG.z9 ?_ | refine RG.zA ?_ | refine RG.zB ?_ | refine RG.zC ?_)
    (first | refine RG.z0 ?_ | refine RG.z1 ?_ | refine RG.z2 ?_ | refine RG.z3 ?_ | refine RG.z4 ?_ | refine RG.z5 ?_ | refine RG.z6 ?_ | refine RG.z7 ?_ | refine RG.z8 ?_ | refine RG.z9 ?_ | refine RG.zA ?_ | refine RG.zB ?_ | refine RG.zC ?_)
    (first | refine RG.z0 ?_ | refine RG.z1 ?_ | refine RG.z2 ?_ | refine RG.z3 ?_ | refine RG.z4 ?_ | refine RG.z5 ?_ | refine RG.z6 ?_ | refine RG.z7 ?_ | refine RG.z8 ?_ | refine RG.z9 ?_ | refine RG.zA ?_ | refine RG.zB ?_ | refine RG.zC ?_)
    refine RG.nilS (AC.seq (AC.seq (AC.reg ?_)))
    (first | refine RG.z0 ?_ | refine RG.z1 ?_ | refine RG.z2 ?_ | refine RG.z3 ?_ | refine RG.z4 ?_ | refine RG.z5 ?_ | refine RG.z6 ?_ | refine RG.z7 ?_ | refine RG.z8 ?_ | refine RG.z9 ?_ | refine RG.zA ?_ | refine RG.zB ?_ | refine RG.zC ?_)
    refine RG.p (d := .bool false) (by first | exact trivial | exact rfl) rfl ?_
    refine RG.nilS (AC.cond_f rfl (AC.skip (AC.seq (AC.reg ?_))))
    have hR2 := Read_ok hG (docF x)
    rw [hrd] at hR2
    (first | refine RG.z0 ?_ | refine RG.z1 ?_ | refine RG.z2 ?_ | refine RG.z3 ?_ | refine RG.z4 ?_ | refine RG.z5 ?_ | refine RG.z6 ?_ | refine RG.z7 ?_ | refine RG.z8 ?_ | refine RG.z9 ?_ | refine RG.zA ?_ | refine RG.zB ?_ | refine RG.zC ?_)
    refine RG.callP (by first | exact trivial | exact rfl) rfl hR2 ?_
    (first | refine RG.z0 ?_ | refine RG.z1 ?_ | refine RG.z2 ?_ | refine RG.z3 ?_ | refine RG.z4 ?_ | refine RG.z5 ?_ | refine RG.z6 ?_ | refine RG.z7 ?_ | refine RG.z8 ?_ | refine RG.z9 ?_ | refine RG.zA ?_ | refine RG.zB ?_ | refine RG.zC ?_)
    (first | refine RG.z0 ?_ | refine RG.z1 ?_ | refine RG.z2 ?_ | refine RG.z3 ?_ | refine RG.z4 ?_ | refine RG.z5 ?_ | refine RG.z6 ?_ | refine RG.z7 ?_ | refine RG.z8 ?_ | refine RG.z9 ?_ | refine RG.zA ?_ | refine RG.zB ?_ | refine RG.zC ?_)
    (first | refine RG.z0 ?_ | refine RG.z1 ?_ | refine RG.z2 ?_ | refine RG.z3 ?_ | refine RG.z4 ?_ | refine RG.z5 ?_ | refine RG.z6 ?_ | refine RG.z7 ?_ | refine RG.z8 ?_ | refine RG.z9 ?_ | refine RG.zA ?_ | refine RG.zB ?_ | refine RG.zC ?_)
    (first | refine RG.z0 ?_ | refine RG.z1 ?_ | refine RG.z2 ?_ | refine RG.z3 ?_ | refine RG.z4 ?_ | refine RG.z5 ?_ | refine RG.z6 ?_ | refine RG.z7 ?_ | refine RG.z8 ?_ | refine RG.z9 ?_ | refine RG.zA ?_ | refine RG.zB ?_ | refine RG.zC ?_)
    refine RG.alloc (by first | exact trivial | exact rfl) fun b8 h8 => ?_
    have hne : b3 ≠ b8 := fun e => by rw [← e, hb3] at h8; cases h8
    refine RG.sto (d := .agg (elC x)) (cs := Z5) (ty := elT) (by first | exact trivial | exact rfl) rfl Hp.upd_same rfl rfl (elC_length x) (by exact Nat.le_refl _) ?_
    rw [Hp.upd_upd, splE]
    (first | refine RG.z0 ?_ | refine RG.z1 ?_ | refine RG.z2 ?_ | refine RG.z3 ?_ | refine RG.z4 ?_ | refine RG.z5 ?_ | refine RG.z6 ?_ | refine RG.z7 ?_ | refine RG.z8 ?_ | refine RG.z9 ?_ | refine RG.zA ?_ | refine RG.zB ?_ | refine RG.zC ?_)
    (first | refine RG.z0 ?_ | refine RG.z1 ?_ | refine RG.z2 ?_ | refine RG.z3 ?_ | refine RG.z4 ?_ | refine RG.z5 ?_ | refine RG.z6 ?_ | refine RG.z7 ?_ | refine RG.z8 ?_ | refine RG.z9 ?_ | refine RG.zA ?_ | refine RG.zB ?_ | refine RG.zC ?_)
    refine RG.nilS (AC.seq (AC.reg ?_))
    (first | refine RG.z0 ?_ | refine RG.z1 ?_ | refine RG.z2 ?_ | refine RG.z3 ?_ | refine RG.z4 ?_ | refine RG.z5 ?_ | refine RG.z6 ?_ | refine RG.z7 ?_ | refine RG.z8 ?_ | refine RG.z9 ?_ | refine RG.zA ?_ | refine RG.zB ?_ | refine RG.zC ?_)
    refine RG.p (d := .bool true) (by first | exact trivial | exact rfl) rfl ?_
    (first | refine RG.z0 ?_ | refine RG.z1 ?_ | refine RG.z2 ?_ | refine RG.z3 ?_ | refine RG.z4 ?_ | refine RG.z5 ?_ | refine RG.z6 ?_ | refine RG.z7 ?_ | refine RG.z8 ?_ | refine RG.z9 ?_ | refine RG.zA ?_ | refine RG.zB ?_ | refine RG.zC ?_)
    refine RG.ld (cs := elC x) (ty := elT) (by first | exact trivial | exact rfl) rfl Hp.upd_same (ldEl x) ?_
    refine RG.ld (cs := elC x) (ty := elT) (by first | exact trivial | exact rfl) rfl (by rw [Hp.upd_ne hne]; exact hb3) (ldEl x) ?_
    have hS := Same_ok (G := G) x x hfit hfit
    rw [sameF_refl] at hS
    refine RG.callP (by first | exact trivial | exact rfl) rfl hS ?_
    (first | refine RG.z0 ?_ | refine RG.z1 ?_ | refine RG.z2 ?_ | refine RG.z3 ?_ | refine RG.z4 ?_ | refine RG.z5 ?_ | refine RG.z6 ?_ | refine RG.z7 ?_ | refine RG.z8 ?_ | refine RG.z9 ?_ | refine RG.zA ?_ | refine RG.zB ?_ | refine RG.zC ?_)
    (first | refine RG.z0 ?_ | refine RG.z1 ?_ | refine RG.z2 ?_ | refine RG.z3 ?_ | refine RG.z4 ?_ | refine RG.z5 ?_ | refine RG.z6 ?_ | refine RG.z7 ?_ | refine RG.z8 ?_ | refine RG.z9 ?_ | refine RG.zA ?_ | refine RG.zB ?_ | refine RG.zC ?_)
    exact RG.nilS (AC.ret (finD (H' := H) rfl (hsub.trans (SubH.fresh h8)) ⟨rfl, rfl⟩))
end Go.Run.Tryd
