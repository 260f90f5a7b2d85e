/- Six bits a letter; an element written. -/
import Derived.Test.YtfimjbflfkdkkaaDoorWI
/- Letters of six bits, written. -/
namespace Go.Run.Tryd
open Go Go.Run Go.RowKit
/-! cardcase/sixbit.Lines -/
def F57 : FN := ⟨8, (.seq (.reg [⟨(some 2), none, .box 9 (.t 0)⟩,
    ⟨(some 3), none, .box 3 (.t 1)⟩,
    ⟨(some 4), none, .mv (.c .nilfn)⟩])
  (.seq (.reg [⟨(some 5), none, .ld false 1 (.t 3)⟩,
    ⟨(some 6), none, .mx (.t 5) (.c (.int .i64 1))⟩,
    ⟨none, none, .st 1 (.t 3) (.t 6)⟩])
  (.seq (.reg [⟨(some 7), none, .mkfn (.func 79) [] [(.t 2), (.t 3)]⟩,
    ⟨(some 4), none, .mv (.t 7)⟩])
  .ret))), [.tmp 4]⟩
theorem cF57 : cFn Go.Proofs.Tryd.prog 57 = some F57 := by kernel_rfl
/-! cardcase/sixbit.Lines$1 -/
def F79 : FN := ⟨22, (.seq (.reg [⟨(some 6), none, .ld false 1 (.t 1)⟩,
    ⟨(some 4), none, .mv (.t 6)⟩])
  (.block 0 (.loop (.seq (.seq (.reg [⟨(some 7), none, .mv (.t 4)⟩,
    ⟨(some 8), none, .bin .neq (.t 7) (.c (.str []))⟩])
  (.cond (.t 8) .skip
  (.exit 0)))
  (.block 1 (.seq (.reg [⟨(some 9), none, .ld false 1 (.t 2)⟩,
    ⟨(some 10), none, .mv (.t 4)⟩,
    ⟨(some 11), none, .len true (.t 10)⟩,
    ⟨(some 12), none, .mn (.t 9) (.t 11)⟩,
    ⟨(some 5), none, .mv (.t 12)⟩])
  (.seq (.seq (.reg [⟨(some 13), none, .mv (.t 0)⟩,
    ⟨(some 14), none, .mv (.t 4)⟩,
    ⟨(some 15), none, .mv (.t 5)⟩,
    ⟨(some 16), none, .slcS (.t 14) none (some (.t 15))⟩,
    ⟨(some 17), none, .calv (.t 13) [(.t 16)]⟩,
    ⟨(some 18), none, .un .not (.t 17)⟩])
  (.cond (.t 18) .ret
  .skip))
  (.reg [⟨(some 19), none, .mv (.t 4)⟩,
    ⟨(some 20), none, .mv (.t 5)⟩,
    ⟨(some 21), none, .slcS (.t 19) (some (.t 20)) none⟩,
    ⟨(some 4), none, .mv (.t 21)⟩])))))))), []⟩
theorem cF79 : cFn Go.Proofs.Tryd.prog 79 = some F79 := by kernel_rfl
/-! cardcase/sixbit.Encode -/
def F37 : FN := ⟨45, (.seq (.reg [⟨(some 2), none, .mv (.c (.str []))⟩])
  (.seq (.reg [⟨(some 3), none, .alloc [.nilp, .nils] 43⟩])
  (.seq (.seq (.reg [⟨(some 9), none, .mv (.t 0)⟩,
    ⟨(some 10), none, .call 57 [(.t 9), (.c (.int .i64 3))]⟩])
  (.block 0 (.rng (.t 10) [11] (.reg [⟨(some 4), none, .mv (.t 11)⟩])
  (.block 1 (.seq (.reg [⟨(some 5), none, .alloc [(.int .u8 0), (.int .u8 0), (.int .u8 0)] 84⟩])
  (.seq (.reg [⟨(some 12), none, .slcA 3 1 (.t 5) none none⟩,
    ⟨(some 13), none, .mv (.t 4)⟩,
    ⟨(some 14), none, .oth (.call ⟨.builtin .copy, #[(.tmp 12), (.tmp 13)], #[41, 9]⟩)⟩,
    ⟨(some 6), none, .mv (.t 14)⟩])
  (.seq (.reg [⟨(some 15), none, .iadrA 3 1 (.t 5) (.c (.int .i64 0))⟩,
    ⟨(some 16), none, .ld false 1 (.t 15)⟩,
    ⟨(some 17), none, .conv .u32 (.t 16)⟩,
    ⟨(some 18), none, .bin .shl (.t 17) (.c (.int .u64 16))⟩,
    ⟨(some 19), none, .iadrA 3 1 (.t 5) (.c (.int .i64 1))⟩,
    ⟨(some 20), none, .ld false 1 (.t 19)⟩,
    ⟨(some 21), none, .conv .u32 (.t 20)⟩,
    ⟨(some 22), none, .bin .shl (.t 21) (.c (.int .u64 8))⟩,
    ⟨(some 23), none, .bin .or (.t 18) (.t 22)⟩,
    ⟨(some 24), none, .iadrA 3 1 (.t 5) (.c (.int .i64 2))⟩,
    ⟨(some 25), none, .ld false 1 (.t 24)⟩,
    ⟨(some 26), none, .conv .u32 (.t 25)⟩,
    ⟨(some 27), none, .bin .or (.t 23) (.t 26)⟩,
    ⟨(some 7), none, .mv (.t 27)⟩])
  (.seq (.reg [⟨(some 28), none, .mv (.c (.int .i64 0))⟩])
  (.block 2 (.loop (.seq (.reg [⟨(some 29), none, .bin .lss (.t 28) (.c (.int .i64 4))⟩])
  (.seq (.cond (.t 29) .skip
  (.exit 2))
  (.seq (.block 3 (.seq (.reg [⟨(some 30), none, .mv (.t 28)⟩,
    ⟨(some 8), none, .mv (.t 30)⟩])
  (.seq (.reg [⟨(some 31), none, .mv (.t 8)⟩,
    ⟨(some 32), none, .mv (.t 6)⟩,
    ⟨(some 33), none, .bin .gtr (.t 31) (.t 32)⟩])
  (.cond (.t 33) (.reg [⟨(some 34), none, .call 56 [(.t 3), (.c (.int .u8 61))]⟩])
  (.reg [⟨(some 35), none, .mv (.t 7)⟩,
    ⟨(some 36), none, .mv (.t 8)⟩,
    ⟨(some 37), none, .bin .mul (.c (.int .i64 6)) (.t 36)⟩,
    ⟨(some 38), none, .bin .sub (.c (.int .i64 18)) (.t 37)⟩,
    ⟨(some 39), none, .bin .shr (.t 35) (.t 38)⟩,
    ⟨(some 40), none, .bin .and (.t 39) (.c (.int .u32 63))⟩,
    ⟨(some 41), none, .idx (.c (.str [65, 66, 67, 68, 69, 70, 71, 72, 73, 74, 75, 76, 77, 78, 79, 80, 81, 82, 83, 84, 85, 86, 87, 88, 89, 90, 97, 98, 99, 100, 101, 102, 103, 104, 105, 106, 107, 108, 109, 110, 111, 112, 113, 114, 115, 116, 117, 118, 119, 120, 121, 122, 48, 49, 50, 51, 52, 53, 54, 55, 56, 57, 43, 47])) (.t 40)⟩,
    ⟨(some 42), none, .call 56 [(.t 3), (.t 41)]⟩])))))
  (.reg [⟨(some 43), none, .bin .add (.t 28) (.c (.int .i64 1))⟩,
    ⟨(some 28), none, .mv (.t 43)⟩]))))))))))))))
  (.seq (.reg [⟨(some 44), none, .call 17 [(.t 3)]⟩,
    ⟨(some 2), none, .mv (.t 44)⟩])
  .ret)))), [.tmp 2]⟩
theorem cF37 : cFn Go.Proofs.Tryd.prog 37 = some F37 := by kernel_rfl
variable {G : Gl}

/-! Numbers of 32 bits. -/
theorem u32_wrap (n : Nat) (h : n < 4294967296) : IntKind.u32.wrap (n : Int) = n := IntWalk.u32_in _ (by omega)
theorem ofInt32 (n : Nat) : BitVec.ofInt IntKind.u32.bits (n : Int) = BitVec.ofNat 32 n := by
  show BitVec.ofInt 32 (n : Int) = BitVec.ofNat 32 n
  exact BitVec.ofInt_natCast 32 n
theorem or_u32 (a b : Nat) (ha : a < 4294967296) (hb : b < 4294967296) : binI .or .u32 (a : Int) (b : Int) = some (.int .u32 ((a ||| b : Nat) : Int)) := by
  simp only [binI, ofInt32]
  have h1 : (BitVec.ofNat 32 a ||| BitVec.ofNat 32 b).toNat = a ||| b := by
    rw [BitVec.toNat_or, BitVec.toNat_ofNat, BitVec.toNat_ofNat, Nat.mod_eq_of_lt ha, Nat.mod_eq_of_lt hb]
  have h2 : a ||| b < 4294967296 := Nat.or_lt_two_pow (n := 32) ha hb
  show some (DV.int .u32 (IntKind.u32.wrap (((BitVec.ofNat 32 a ||| BitVec.ofNat 32 b).toNat : Nat) : Int))) = _
  rw [h1, u32_wrap _ h2]
theorem and_u32 (a b : Nat) (ha : a < 4294967296) (hb : b < 4294967296) : binI .and .u32 (a : Int) (b : Int) = some (.int .u32 ((a &&& b : Nat) : Int)) := by
  simp only [binI, ofInt32]
  have h1 : (BitVec.ofNat 32 a &&& BitVec.ofNat 32 b).toNat = a &&& b := by
    rw [BitVec.toNat_and, BitVec.toNat_ofNat, BitVec.toNat_ofNat, Nat.mod_eq_of_lt ha, Nat.mod_eq_of_lt hb]
  have h2 : a &&& b < 4294967296 := Nat.and_lt_two_pow (n := 32) a hb
  show some (DV.int .u32 (IntKind.u32.wrap (((BitVec.ofNat 32 a &&& BitVec.ofNat 32 b).toNat : Nat) : Int))) = _
  rw [h1, u32_wrap _ h2]
theorem shr_u32 (a j : Nat) (hj : j ≤ 32) : shI .shr .u32 (a : Int) (j : Int) = some (.int .u32 ((a / 2 ^ j : Nat) : Int)) := by
  have h0 : ¬ ((j : Int) < 0) := by omega
  have h1 : min ((j : Int).toNat) IntKind.u32.bits = j := by
    show min j 32 = j
    omega
  simp only [shI, if_neg h0, h1]
  have : ((a : Int)).fdiv (2 ^ j) = ((a / 2 ^ j : Nat) : Int) := by
    rw [Int.fdiv_eq_ediv_of_nonneg _ (Int.le_of_lt (Int.pow_pos (by omega)))]
    simp
  rw [this]
theorem shl_u32 (a j : Nat) (hj : j ≤ 32) (h : a * 2 ^ j < 4294967296) : shI .shl .u32 (a : Int) (j : Int) = some (.int .u32 ((a * 2 ^ j : Nat) : Int)) := by
  have h0 : ¬ ((j : Int) < 0) := by omega
  have h1 : min ((j : Int).toNat) IntKind.u32.bits = j := by
    show min j 32 = j
    omega
  simp only [shI, if_neg h0, h1]
  have : ((a : Int)) * 2 ^ j = ((a * 2 ^ j : Nat) : Int) := by simp
  rw [this, u32_wrap _ h]

theorem word_or (a b c : UInt8) : ((a.toNat * 65536) ||| (b.toNat * 256)) ||| c.toNat = word3 a b c := by
  have ha := a.toNat_lt; have hb := b.toNat_lt; have hc := c.toNat_lt
  have h1 : (a.toNat * 65536) ||| (b.toNat * 256) = a.toNat * 65536 + b.toNat * 256 := by
    rw [show a.toNat * 65536 = 2 ^ 16 * a.toNat by omega, ← Nat.two_pow_add_eq_or_of_lt (i := 16) (by omega)]
  rw [h1]
  have h2 : a.toNat * 65536 + b.toNat * 256 = 2 ^ 8 * (a.toNat * 256 + b.toNat) := by omega
  rw [h2, ← Nat.two_pow_add_eq_or_of_lt (i := 8) (by omega), word3]
  omega

/-- The pieces' letters. -/
def pieceW (p : List UInt8) : List UInt8 := encW (word3 (p.getD 0 0) (p.getD 1 0) (p.getD 2 0)) p.length
theorem encF_step : ∀ (s : List UInt8), s ≠ [] → encF s = pieceW (s.take 3) ++ encF (s.drop 3)
  | [], h => absurd rfl h
  | [a], _ => by simp [encF, pieceW]
  | [a, b], _ => by simp [encF, pieceW]
  | a :: b :: c :: l, _ => by simp [encF, pieceW]

theorem encW_at (w m : Nat) (hm : 1 ≤ m) : ∀ (k : Nat), k < 4 → (encW w m)[k]? = some (bif decide ((k : Int) > m) then 61 else lt64 (w / 2 ^ (18 - 6 * k) % 64))
  | 0, _ => by
    have e : decide (((0 : Nat) : Int) > m) = false := by rw [decide_eq_false_iff_not]; omega
    rw [e]; rfl
  | 1, _ => by
    have e : decide (((1 : Nat) : Int) > m) = false := by rw [decide_eq_false_iff_not]; omega
    rw [e]; rfl
  | 2, _ => by
    have e : decide (((2 : Nat) : Int) > m) = Nat.blt m 2 := by
      rw [Bool.eq_iff_iff, blt_iff, decide_eq_true_eq]; omega
    rw [e]
    rfl
  | 3, _ => by
    have e : decide (((3 : Nat) : Int) > m) = Nat.blt m 3 := by
      rw [Bool.eq_iff_iff, blt_iff, decide_eq_true_eq]; omega
    have e2 : w / 2 ^ (18 - 6 * 3) = w := by simp
    rw [e, e2]
    rfl
  | k + 4, h => by omega

/-! Lines. -/
def lnH (A : Hp) (b1 b2 : Nat) (s : List UInt8) : Hp := (A.upd b1 (some (.cells [.str s] 9))).upd b2 (some (.cells [.int .i64 3] 3))

theorem Lines_ok (s : List UInt8) (H : Hp) : CALL Go.Proofs.Tryd.prog G 57 [.str s, .int .i64 3] H
    (fun r H' => ∃ b1 b2, H b1 = none ∧ H b2 = none ∧ b2 ≠ b1 ∧ r = .func (.func 79) [] [.ptr b1 0, .ptr b2 0] ∧ H' = lnH H b1 b2 s) (fun _ _ => False) := by
  refine CALL.of cF57 (Nat.le_of_ble_eq_true rfl) ?_
  refine AC.seq (AC.reg ?_)
  refine RG.box (by first | exact trivial | exact rfl) rfl rfl fun b1 hb1 => ?_
  refine RG.box (by first | exact trivial | exact rfl) rfl rfl fun b2 hb2 => ?_
  have hne : b2 ≠ b1 := fun e => by rw [e, Hp.upd_same] at hb2; cases hb2
  rw [Hp.upd_ne hne] at hb2
  repeat (first | refine RG.z0 ?_ | refine RG.z1 ?_ | refine RG.z2 ?_ | refine RG.z3 ?_ | refine RG.z4 ?_ | refine RG.z5 ?_ | refine RG.z6 ?_ | refine RG.z7 ?_ | refine RG.z8 ?_ | refine RG.z9 ?_ | refine RG.zA ?_ | refine RG.zB ?_ | refine RG.zC ?_)
  refine RG.nilS (AC.seq (AC.reg ?_))
  refine RG.ld (by first | exact trivial | exact rfl) (by conv => lhs; whnf) Hp.upd_same (d := .int .i64 3) rfl ?_
  refine RG.p (d := .int .i64 3) (by first | exact trivial | exact rfl) rfl ?_
  refine RG.sto1 (by first | exact trivial | exact rfl) (by conv => lhs; whnf) Hp.upd_same (by conv => lhs; whnf) rfl ?_
  rw [Hp.upd_upd]
  refine RG.nilS (AC.seq (AC.reg ?_))
  repeat (first | refine RG.z0 ?_ | refine RG.z1 ?_ | refine RG.z2 ?_ | refine RG.z3 ?_ | refine RG.z4 ?_ | refine RG.z5 ?_ | refine RG.z6 ?_ | refine RG.z7 ?_ | refine RG.z8 ?_ | refine RG.z9 ?_ | refine RG.zA ?_ | refine RG.zB ?_ | refine RG.zC ?_)
  exact RG.nilS (AC.ret (fin rfl ⟨b1, b2, hb1, hb2, hne, rfl, rfl⟩))

theorem Lines1_ok {yv : DV} {J : List UInt8 → Hp → Prop} (hy : ∀ (s : List UInt8) (A : Hp), s ≠ [] → J s A → CALV Go.Proofs.Tryd.prog G yv [.str (s.take 3)] A (fun r A' => r = .bool true ∧ J (s.drop 3) A') (fun _ _ => False))
    (s : List UInt8) (A : Hp) (hJ : J s A) {b1 b2 : Nat} (h1 : A b1 = none) (h2 : A b2 = none) (hne : b2 ≠ b1) :
    CALL Go.Proofs.Tryd.prog G 79 [yv, .ptr b1 0, .ptr b2 0] (lnH A b1 b2 s) (fun _ H' => ∃ A', J [] A' ∧ A' b1 = none ∧ A' b2 = none ∧ H' = lnH A' b1 b2 s) (fun _ _ => False) := by
  have hw1 : ∀ A, lnH A b1 b2 s b1 = some (.cells [.str s] 9) := fun A => by rw [lnH, Hp.upd_ne (Ne.symm hne)]; exact Hp.upd_same
  have hw2 : ∀ A, lnH A b1 b2 s b2 = some (.cells [.int .i64 3] 3) := fun A => Hp.upd_same
  refine CALL.of cF79 (Nat.le_of_ble_eq_true rfl) ?_
  refine AC.seq (AC.reg ?_)
  refine RG.ld (by first | exact trivial | exact rfl) (by conv => lhs; whnf) (hw1 A) (d := .str s) rfl ?_
  repeat (first | refine RG.z0 ?_ | refine RG.z1 ?_ | refine RG.z2 ?_ | refine RG.z3 ?_ | refine RG.z4 ?_ | refine RG.z5 ?_ | refine RG.z6 ?_ | refine RG.z7 ?_ | refine RG.z8 ?_ | refine RG.z9 ?_ | refine RG.zA ?_ | refine RG.zB ?_ | refine RG.zC ?_)
  refine RG.nilS ?_
  refine AC.bloopH (α := List UInt8) (β := Unit) (fun t => t.length) (fun t => [(0, yv), (2, .ptr b2 0), (4, .str t)]) (fun t H' => ∃ A', J t A' ∧ A' b1 = none ∧ A' b2 = none ∧ H' = lnH A' b1 b2 s) (fun _ => [])
    (fun _ H' => ∃ A', J [] A' ∧ A' b1 = none ∧ A' b2 = none ∧ H' = lnH A' b1 b2 s) ?_ ?_ s _ ⟨A, hJ, h1, h2, rfl⟩ ⟨rfl, rfl, rfl, trivial⟩
  · intro _ He fr hq _
    exact fin rfl hq
  · rintro t H' ⟨A', k1, k2, k3, rfl⟩ ih ex
    refine AC.seq (AC.seq (AC.reg ?_))
    repeat (first | refine RG.z0 ?_ | refine RG.z1 ?_ | refine RG.z2 ?_ | refine RG.z3 ?_ | refine RG.z4 ?_ | refine RG.z5 ?_ | refine RG.z6 ?_ | refine RG.z7 ?_ | refine RG.z8 ?_ | refine RG.z9 ?_ | refine RG.zA ?_ | refine RG.zB ?_ | refine RG.zC ?_)
    cases t with
    | nil => exact RG.nilS (AC.cond_f rfl (AC.exit (ex () _ _ ⟨A', k1, k2, k3, rfl⟩ trivial)))
    | cons c t =>
      refine RG.nilS (AC.cond_t rfl (AC.skip (AC.block (AC.seq (AC.reg ?_)))))
      generalize hct : c :: t = ct at k1 ih
      have hne0 : ct ≠ [] := by rw [← hct]; simp
      have hl0 : 0 < ct.length := List.length_pos_iff.2 hne0
      refine RG.ld (by first | exact trivial | exact rfl) (by conv => lhs; whnf) (hw2 A') (d := .int .i64 3) rfl ?_
      (first | refine RG.z0 ?_ | refine RG.z1 ?_ | refine RG.z2 ?_ | refine RG.z3 ?_ | refine RG.z4 ?_ | refine RG.z5 ?_ | refine RG.z6 ?_ | refine RG.z7 ?_ | refine RG.z8 ?_ | refine RG.z9 ?_ | refine RG.zA ?_ | refine RG.zB ?_ | refine RG.zC ?_)
      (first | refine RG.z0 ?_ | refine RG.z1 ?_ | refine RG.z2 ?_ | refine RG.z3 ?_ | refine RG.z4 ?_ | refine RG.z5 ?_ | refine RG.z6 ?_ | refine RG.z7 ?_ | refine RG.z8 ?_ | refine RG.z9 ?_ | refine RG.zA ?_ | refine RG.zB ?_ | refine RG.zC ?_)
      refine RG.p (d := .int .i64 ((min 3 ct.length : Nat) : Int)) (by first | exact trivial | exact rfl) (by
        show some (DV.int .i64 (if (ct.length : Int) < 3 then (ct.length : Int) else 3)) = _
        congr 2
        split <;> omega) ?_
      repeat (first | refine RG.z0 ?_ | refine RG.z1 ?_ | refine RG.z2 ?_ | refine RG.z3 ?_ | refine RG.z4 ?_ | refine RG.z5 ?_ | refine RG.z6 ?_ | refine RG.z7 ?_ | refine RG.z8 ?_ | refine RG.z9 ?_ | refine RG.zA ?_ | refine RG.zB ?_ | refine RG.zC ?_)
      refine RG.nilS (AC.seq (AC.seq (AC.reg ?_)))
      (first | refine RG.z0 ?_ | refine RG.z1 ?_ | refine RG.z2 ?_ | refine RG.z3 ?_ | refine RG.z4 ?_ | refine RG.z5 ?_ | refine RG.z6 ?_ | refine RG.z7 ?_ | refine RG.z8 ?_ | refine RG.z9 ?_ | refine RG.zA ?_ | refine RG.zB ?_ | refine RG.zC ?_)
      (first | refine RG.z0 ?_ | refine RG.z1 ?_ | refine RG.z2 ?_ | refine RG.z3 ?_ | refine RG.z4 ?_ | refine RG.z5 ?_ | refine RG.z6 ?_ | refine RG.z7 ?_ | refine RG.z8 ?_ | refine RG.z9 ?_ | refine RG.zA ?_ | refine RG.zB ?_ | refine RG.zC ?_)
      (first | refine RG.z0 ?_ | refine RG.z1 ?_ | refine RG.z2 ?_ | refine RG.z3 ?_ | refine RG.z4 ?_ | refine RG.z5 ?_ | refine RG.z6 ?_ | refine RG.z7 ?_ | refine RG.z8 ?_ | refine RG.z9 ?_ | refine RG.zA ?_ | refine RG.zB ?_ | refine RG.zC ?_)
      refine RG.upto (by first | exact trivial | exact rfl) (by conv => lhs; whnf) (by conv => lhs; whnf) (by omega) ?_
      have hta : ct.take ((min 3 ct.length : Nat) : Int).toNat = ct.take 3 := by
        rw [Int.toNat_natCast, ← List.take_take, List.take_length]
      have hdr : ct.drop ((min 3 ct.length : Nat) : Int).toNat = ct.drop 3 := by
        rw [Int.toNat_natCast]
        by_cases h : 3 ≤ ct.length
        · rw [Nat.min_eq_left h]
        · rw [Nat.min_eq_right (by omega), List.drop_length, List.drop_of_length_le (by omega)]
      rw [hta]
      have hc := ((hy ct A' hne0 k1).frame (b := b1) (o := .cells [.str s] 9) k2 notF_cells).frame (b := b2) (o := .cells [.int .i64 3] 3) (by rw [Hp.upd_ne hne]; exact k3) notF_cells
      refine RG.calV (by first | exact trivial | exact rfl) rfl rfl hc (fun r H' ⟨B, ⟨B2, ⟨e1, e2⟩, e3, e4⟩, e5, e6⟩ => ?_) (fun r H' ⟨_, ⟨_, k, _⟩, _⟩ => k.elim)
      subst e1; subst e4; subst e6
      rw [Hp.upd_ne hne] at e5
      repeat (first | refine RG.z0 ?_ | refine RG.z1 ?_ | refine RG.z2 ?_ | refine RG.z3 ?_ | refine RG.z4 ?_ | refine RG.z5 ?_ | refine RG.z6 ?_ | refine RG.z7 ?_ | refine RG.z8 ?_ | refine RG.z9 ?_ | refine RG.zA ?_ | refine RG.zB ?_ | refine RG.zC ?_)
      refine RG.nilS (AC.cond_f rfl (AC.skip (AC.reg ?_)))
      (first | refine RG.z0 ?_ | refine RG.z1 ?_ | refine RG.z2 ?_ | refine RG.z3 ?_ | refine RG.z4 ?_ | refine RG.z5 ?_ | refine RG.z6 ?_ | refine RG.z7 ?_ | refine RG.z8 ?_ | refine RG.z9 ?_ | refine RG.zA ?_ | refine RG.zB ?_ | refine RG.zC ?_)
      (first | refine RG.z0 ?_ | refine RG.z1 ?_ | refine RG.z2 ?_ | refine RG.z3 ?_ | refine RG.z4 ?_ | refine RG.z5 ?_ | refine RG.z6 ?_ | refine RG.z7 ?_ | refine RG.z8 ?_ | refine RG.z9 ?_ | refine RG.zA ?_ | refine RG.zB ?_ | refine RG.zC ?_)
      refine RG.from (by first | exact trivial | exact rfl) (by conv => lhs; whnf) (by conv => lhs; whnf) (by omega) ?_
      rw [hdr]
      repeat (first | refine RG.z0 ?_ | refine RG.z1 ?_ | refine RG.z2 ?_ | refine RG.z3 ?_ | refine RG.z4 ?_ | refine RG.z5 ?_ | refine RG.z6 ?_ | refine RG.z7 ?_ | refine RG.z8 ?_ | refine RG.z9 ?_ | refine RG.zA ?_ | refine RG.zB ?_ | refine RG.zC ?_)
      exact RG.nil (ih (ct.drop 3) _ ⟨B2, e2, e3, e5, rfl⟩ (by rw [List.length_drop]; omega) _ ⟨rfl, rfl, rfl, trivial⟩)
/-! Encode. -/
theorem BLD.put {H0 H : Hp} {b q : Nat} {u : Bool} {bs : List UInt8} {o : Option DO} (h : BLD H0 b u bs H) (hq : H q = none) : BLD (H0.upd q o) b u bs (H.upd q o) := by
  cases h with
  | mt h =>
    have hqb : q ≠ b := fun e => by rw [e, Hp.upd_same] at hq; cases hq
    rw [Hp.upd_comm (Ne.symm hqb)]
    exact .mt u (by rw [Hp.upd_ne (Ne.symm hqb)]; exact h)
  | on g bs h1 h2 h3 h4 =>
    have hqg : q ≠ g := fun e => by rw [e, Hp.upd_same] at hq; cases hq
    rw [Hp.upd_ne hqg] at hq
    have hqb : q ≠ b := fun e => by rw [e, Hp.upd_same] at hq; cases hq
    rw [Hp.upd_comm (Ne.symm hqg), Hp.upd_comm (Ne.symm hqb)]
    exact .on u g bs (by rw [Hp.upd_ne (Ne.symm hqb)]; exact h1) (by rw [Hp.upd_ne (Ne.symm hqg)]; exact h2) h3 h4
theorem BLD.take {H0 H : Hp} {b q : Nat} {u : Bool} {bs : List UInt8} {o : DO} (h : BLD (H0.upd q (some o)) b u bs H) (hq : H0 q = none) : ∃ H', BLD H0 b u bs H' ∧ SubH H' H := by
  cases h with
  | mt h =>
    have hbq : b ≠ q := fun e => by rw [e, Hp.upd_same] at h; cases h
    rw [Hp.upd_ne hbq] at h
    refine ⟨_, .mt u h, ?_⟩
    rw [Hp.upd_comm (Ne.symm hbq)]
    exact SubH.fresh (by rw [Hp.upd_ne (Ne.symm hbq)]; exact hq)
  | on g bs h1 h2 h3 h4 =>
    have hbq : b ≠ q := fun e => by rw [e, Hp.upd_same] at h1; cases h1
    have hgq : g ≠ q := fun e => by rw [e, Hp.upd_same] at h2; cases h2
    rw [Hp.upd_ne hbq] at h1
    rw [Hp.upd_ne hgq] at h2
    refine ⟨_, .on u g bs h1 h2 h3 h4, ?_⟩
    rw [Hp.upd_comm (Ne.symm hbq), Hp.upd_comm (Ne.symm hgq)]
    exact SubH.fresh (by rw [Hp.upd_ne (Ne.symm hgq), Hp.upd_ne (Ne.symm hbq)]; exact hq)
theorem BLD.look {H0 H : Hp} {b q : Nat} {u : Bool} {bs : List UInt8} (h : BLD H0 b u bs H) {o : DO} (hq : H0 q = some o) : H q = some o := h.sub q o hq
theorem BLD.base {H0 H : Hp} {b q : Nat} {u : Bool} {bs : List UInt8} (h : BLD H0 b u bs H) (hq : H q = none) : H0 q = none := by
  cases e : H0 q with
  | none => rfl
  | some o => rw [h.sub q o e] at hq; cases hq

/-- The body behind its first statement. -/
def encInner : CC → CC
  | .block _ (.seq _ c) => c
  | c => c

theorem enc_body {H0 H : Hp} {b q : Nat} {u : Bool} {bs p : List UInt8} {r : Option Nat} {Q : EX → Fr → Hp → Prop} (h : BLD H0 b u bs H) (hq : H0 q = some (.cells [.int .u8 0, .int .u8 0, .int .u8 0] 84)) (hp0 : p ≠ []) (hp : p.length ≤ 3) (hlen : bs.length ≤ 140737488355000)
    (k : ∀ fr H', BLD (H0.upd q (some (.cells [B8 (p.getD 0 0), B8 (p.getD 1 0), B8 (p.getD 2 0)] 84))) b true (bs ++ pieceW p) H' → Q .normal fr H') :
    AC Go.Proofs.Tryd.prog G r F37.N (encInner (rngB F37.c)) Q (frOf [(3, .ptr b 0), (4, .str p), (5, .ptr q 0)]) H := by
  have hl0 : 0 < p.length := List.length_pos_iff.2 hp0
  refine AC.seq (AC.reg ?_)
  refine RG.p (d := .win q 0 3 3) (by first | exact trivial | exact rfl) rfl ?_
  (first | refine RG.z0 ?_ | refine RG.z1 ?_ | refine RG.z2 ?_ | refine RG.z3 ?_ | refine RG.z4 ?_ | refine RG.z5 ?_ | refine RG.z6 ?_ | refine RG.z7 ?_ | refine RG.z8 ?_ | refine RG.z9 ?_ | refine RG.zA ?_ | refine RG.zB ?_ | refine RG.zC ?_)
  refine RG.st (ST.copyS (P := Go.Proofs.Tryd.prog) (t := 41) (e := 5) (i := Go.Proofs.Tryd.t5) rfl rfl rfl (by kernel_rfl) (by kernel_rfl) (by kernel_rfl) rfl rfl hp (h.look hq) (by simpa using hp) ?_)
  have hsp : spliceL 0 (p.map B8) [.int .u8 0, .int .u8 0, .int .u8 0] = [B8 (p.getD 0 0), B8 (p.getD 1 0), B8 (p.getD 2 0)] := by
    match p, hp0, hp with
    | [a], _, _ => rfl
    | [a, b], _, _ => rfl
    | [a, b, c], _, _ => rfl
    | _ :: _ :: _ :: _ :: _, _, h => simp at h
  rw [hsp]
  have h2 := h.upd (o' := .cells [B8 (p.getD 0 0), B8 (p.getD 1 0), B8 (p.getD 2 0)] 84) hq
  generalize H.upd q (some (.cells [B8 (p.getD 0 0), B8 (p.getD 1 0), B8 (p.getD 2 0)] 84)) = H1 at h2 ⊢
  have hq2 := h2.look (q := q) Hp.upd_same
  generalize hx0 : p.getD 0 0 = x0 at h2 hq2 k
  generalize hx1 : p.getD 1 0 = x1 at h2 hq2 k
  generalize hx2 : p.getD 2 0 = x2 at h2 hq2 k
  have l0 := x0.toNat_lt; have l1 := x1.toNat_lt; have l2 := x2.toNat_lt
  (first | refine RG.z0 ?_ | refine RG.z1 ?_ | refine RG.z2 ?_ | refine RG.z3 ?_ | refine RG.z4 ?_ | refine RG.z5 ?_ | refine RG.z6 ?_ | refine RG.z7 ?_ | refine RG.z8 ?_ | refine RG.z9 ?_ | refine RG.zA ?_ | refine RG.zB ?_ | refine RG.zC ?_)
  refine RG.nilS (AC.seq (AC.reg ?_))
  refine RG.p (by first | exact trivial | exact rfl) (evP_iadrA (by conv => lhs; whnf) (by conv => lhs; whnf) (by omega)) ?_
  refine RG.ld (by first | exact trivial | exact rfl) (by conv => lhs; whnf) hq2 (d := B8 x0) rfl ?_
  refine RG.p (d := .int .u32 (x0.toNat : Nat)) (by first | exact trivial | exact rfl) (by show some (DV.int .u32 (IntKind.u32.wrap (x0.toNat : Int))) = _; rw [u32_wrap _ (by omega)]) ?_
  refine RG.p (d := .int .u32 ((x0.toNat * 2 ^ 16 : Nat) : Int)) (by first | exact trivial | exact rfl) (shl_u32 x0.toNat 16 (by omega) (by omega)) ?_
  refine RG.p (by first | exact trivial | exact rfl) (evP_iadrA (by conv => lhs; whnf) (by conv => lhs; whnf) (by omega)) ?_
  refine RG.ld (by first | exact trivial | exact rfl) (by conv => lhs; whnf) hq2 (d := B8 x1) rfl ?_
  refine RG.p (d := .int .u32 (x1.toNat : Nat)) (by first | exact trivial | exact rfl) (by show some (DV.int .u32 (IntKind.u32.wrap (x1.toNat : Int))) = _; rw [u32_wrap _ (by omega)]) ?_
  refine RG.p (d := .int .u32 ((x1.toNat * 2 ^ 8 : Nat) : Int)) (by first | exact trivial | exact rfl) (shl_u32 x1.toNat 8 (by omega) (by omega)) ?_
  refine RG.p (d := .int .u32 ((x0.toNat * 2 ^ 16 ||| x1.toNat * 2 ^ 8 : Nat) : Int)) (by first | exact trivial | exact rfl) (or_u32 (x0.toNat * 2 ^ 16) (x1.toNat * 2 ^ 8) (by omega) (by omega)) ?_
  refine RG.p (by first | exact trivial | exact rfl) (evP_iadrA (by conv => lhs; whnf) (by conv => lhs; whnf) (by omega)) ?_
  refine RG.ld (by first | exact trivial | exact rfl) (by conv => lhs; whnf) hq2 (d := B8 x2) rfl ?_
  refine RG.p (d := .int .u32 (x2.toNat : Nat)) (by first | exact trivial | exact rfl) (by show some (DV.int .u32 (IntKind.u32.wrap (x2.toNat : Int))) = _; rw [u32_wrap _ (by omega)]) ?_
  have hor : x0.toNat * 2 ^ 16 ||| x1.toNat * 2 ^ 8 < 4294967296 := Nat.or_lt_two_pow (n := 32) (by omega) (by omega)
  refine RG.p (d := .int .u32 (word3 x0 x1 x2 : Nat)) (by first | exact trivial | exact rfl) (by
    rw [← word_or]
    exact or_u32 (x0.toNat * 2 ^ 16 ||| x1.toNat * 2 ^ 8) x2.toNat hor (by omega)) ?_
  (first | refine RG.z0 ?_ | refine RG.z1 ?_ | refine RG.z2 ?_ | refine RG.z3 ?_ | refine RG.z4 ?_ | refine RG.z5 ?_ | refine RG.z6 ?_ | refine RG.z7 ?_ | refine RG.z8 ?_ | refine RG.z9 ?_ | refine RG.zA ?_ | refine RG.zB ?_ | refine RG.zC ?_)
  have hw : word3 x0 x1 x2 < 16777216 := word3_lt _ _ _
  generalize hwd : word3 x0 x1 x2 = w at hw
  have hpw : pieceW p = encW w p.length := by rw [pieceW, hx0, hx1, hx2, hwd]
  rw [hpw] at k
  refine RG.nilS (AC.seq (AC.reg ?_))
  repeat (first | refine RG.z0 ?_ | refine RG.z1 ?_ | refine RG.z2 ?_ | refine RG.z3 ?_ | refine RG.z4 ?_ | refine RG.z5 ?_ | refine RG.z6 ?_ | refine RG.z7 ?_ | refine RG.z8 ?_ | refine RG.z9 ?_ | refine RG.zA ?_ | refine RG.zB ?_ | refine RG.zC ?_)
  refine RG.nilS ?_
  generalize hm : p.length = m at hl0 hp k
  have hel : (encW w m).length = 4 := rfl
  refine AC.bloopH (α := Nat) (β := Unit) (fun n => 4 - n) (fun n => [(3, .ptr b 0), (6, .int .i64 m), (7, .int .u32 w), (28, .int .i64 n)])
    (fun n H' => n ≤ 4 ∧ ∃ v, BLD (H0.upd q (some (.cells [B8 x0, B8 x1, B8 x2] 84))) b v (bs ++ (encW w m).take n) H' ∧ (n = 4 → v = true)) (fun _ => []) (fun _ H' => BLD (H0.upd q (some (.cells [B8 x0, B8 x1, B8 x2] 84))) b true (bs ++ encW w m) H') ?_ ?_ 0 _
    ⟨by omega, u, by simpa using h2, by omega⟩ ⟨rfl, rfl, rfl, rfl, trivial⟩
  · intro _ He fr hB _
    exact k fr He hB
  · rintro n H' ⟨h1, v, h3, h4⟩ ih ex
    refine AC.seq (AC.reg ?_)
    repeat (first | refine RG.z0 ?_ | refine RG.z1 ?_ | refine RG.z2 ?_ | refine RG.z3 ?_ | refine RG.z4 ?_ | refine RG.z5 ?_ | refine RG.z6 ?_ | refine RG.z7 ?_ | refine RG.z8 ?_ | refine RG.z9 ?_ | refine RG.zA ?_ | refine RG.zB ?_ | refine RG.zC ?_)
    cases e1 : decide ((n : Int) < 4)
    · have e := of_decide_eq_false e1
      have hn : n = 4 := by omega
      subst hn
      rw [h4 rfl, List.take_of_length_le (by rw [hel]; omega)] at h3
      exact RG.nilS (AC.seq (AC.cond_f rfl (AC.exit (ex () _ _ h3 trivial))))
    · have e := of_decide_eq_true e1
      have hn : n < 4 := by omega
      have hat := encW_at w m hl0 n hn
      have htk : (encW w m).take (n + 1) = (encW w m).take n ++ [bif decide ((n : Int) > m) then 61 else lt64 (w / 2 ^ (18 - 6 * n) % 64)] := by
        have hlt : n < (encW w m).length := by rw [hel]; exact hn
        rw [List.take_succ_eq_append_getElem hlt]
        rw [List.getElem?_eq_getElem hlt] at hat
        rw [Option.some.inj hat]
      refine RG.nilS (AC.seq (AC.cond_t rfl (AC.skip (AC.seq (AC.block (AC.seq (AC.reg ?_)))))))
      repeat (first | refine RG.z0 ?_ | refine RG.z1 ?_ | refine RG.z2 ?_ | refine RG.z3 ?_ | refine RG.z4 ?_ | refine RG.z5 ?_ | refine RG.z6 ?_ | refine RG.z7 ?_ | refine RG.z8 ?_ | refine RG.z9 ?_ | refine RG.zA ?_ | refine RG.zB ?_ | refine RG.zC ?_)
      refine RG.nilS (AC.seq (AC.reg ?_))
      repeat (first | refine RG.z0 ?_ | refine RG.z1 ?_ | refine RG.z2 ?_ | refine RG.z3 ?_ | refine RG.z4 ?_ | refine RG.z5 ?_ | refine RG.z6 ?_ | refine RG.z7 ?_ | refine RG.z8 ?_ | refine RG.z9 ?_ | refine RG.zA ?_ | refine RG.zB ?_ | refine RG.zC ?_)
      have hbl : bs.length + ((encW w m).take n).length + 1 ≤ 140737488355328 := by
        have : ((encW w m).take n).length ≤ 4 := by rw [List.length_take]; omega
        omega
      have next : ∀ H2, BLD (H0.upd q (some (.cells [B8 x0, B8 x1, B8 x2] 84))) b true (bs ++ (encW w m).take n ++ [bif decide ((n : Int) > m) then 61 else lt64 (w / 2 ^ (18 - 6 * n) % 64)]) H2 → ∃ v, BLD (H0.upd q (some (.cells [B8 x0, B8 x1, B8 x2] 84))) b v (bs ++ (encW w m).take (n + 1)) H2 ∧ (n + 1 = 4 → v = true) := by
        intro H2 hB
        refine ⟨true, ?_, fun _ => rfl⟩
        rw [htk, ← List.append_assoc]; exact hB
      cases c1 : decide ((n : Int) > m)
      · rw [c1] at next
        refine RG.nilS (AC.cond_f rfl (AC.reg ?_))
        (first | refine RG.z0 ?_ | refine RG.z1 ?_ | refine RG.z2 ?_ | refine RG.z3 ?_ | refine RG.z4 ?_ | refine RG.z5 ?_ | refine RG.z6 ?_ | refine RG.z7 ?_ | refine RG.z8 ?_ | refine RG.z9 ?_ | refine RG.zA ?_ | refine RG.zB ?_ | refine RG.zC ?_)
        (first | refine RG.z0 ?_ | refine RG.z1 ?_ | refine RG.z2 ?_ | refine RG.z3 ?_ | refine RG.z4 ?_ | refine RG.z5 ?_ | refine RG.z6 ?_ | refine RG.z7 ?_ | refine RG.z8 ?_ | refine RG.z9 ?_ | refine RG.zA ?_ | refine RG.zB ?_ | refine RG.zC ?_)
        refine RG.p (d := .int .i64 ((6 * n : Nat) : Int)) (by first | exact trivial | exact rfl) (by
          show some (DV.int .i64 (IntKind.i64.wrap (6 * (n : Int)))) = _
          rw [IntWalk.i64_in _ (by omega)]; congr 2) ?_
        refine RG.p (d := .int .i64 ((18 - 6 * n : Nat) : Int)) (by first | exact trivial | exact rfl) (by
          show some (DV.int .i64 (IntKind.i64.wrap (18 - ((6 * n : Nat) : Int)))) = _
          rw [IntWalk.i64_in _ (by omega)]; congr 2; omega) ?_
        refine RG.p (d := .int .u32 ((w / 2 ^ (18 - 6 * n) : Nat) : Int)) (by first | exact trivial | exact rfl) (shr_u32 w (18 - 6 * n) (by omega)) ?_
        have hdl : w / 2 ^ (18 - 6 * n) < 4294967296 := Nat.lt_of_le_of_lt (Nat.div_le_self _ _) (by omega)
        refine RG.p (d := .int .u32 ((w / 2 ^ (18 - 6 * n) % 64 : Nat) : Int)) (by first | exact trivial | exact rfl) (by
          rw [← Nat.and_two_pow_sub_one_eq_mod _ 6]
          exact and_u32 (w / 2 ^ (18 - 6 * n)) 63 hdl (by omega)) ?_
        have hm64 : w / 2 ^ (18 - 6 * n) % 64 < 64 := Nat.mod_lt _ (by omega)
        refine RG.p (d := .int .u8 ((lt64 (w / 2 ^ (18 - 6 * n) % 64)).toNat : Nat)) (by first | exact trivial | exact rfl) (by
          show idxD (.str letters64) (.int .u32 ((w / 2 ^ (18 - 6 * n) % 64 : Nat) : Int)) = _
          have h0 : (0 : Int) ≤ ((w / 2 ^ (18 - 6 * n) % 64 : Nat) : Int) := by omega
          have hg : letters64[w / 2 ^ (18 - 6 * n) % 64]? = some (lt64 (w / 2 ^ (18 - 6 * n) % 64)) := by
            rw [lt64, List.getD_eq_getElem?_getD, List.getElem?_eq_getElem (show _ < letters64.length from hm64)]; rfl
          simp only [idxD, if_pos h0, Int.toNat_natCast, hg, Option.map_some]) ?_
        refine RG.call (by first | exact trivial | exact rfl) rfl (WriteByte_ok h3 (by rw [List.length_append]; exact hbl)) (fun d H2 ⟨g1, g2⟩ => ?_) (fun _ _ h => h.elim)
        refine RG.nil (AC.reg ?_)
        repeat (first | refine RG.z0 ?_ | refine RG.z1 ?_ | refine RG.z2 ?_ | refine RG.z3 ?_ | refine RG.z4 ?_ | refine RG.z5 ?_ | refine RG.z6 ?_ | refine RG.z7 ?_ | refine RG.z8 ?_ | refine RG.z9 ?_ | refine RG.zA ?_ | refine RG.zB ?_ | refine RG.zC ?_)
        exact RG.nil (ih (n + 1) _ ⟨by omega, next _ g2⟩ (by omega) _ ⟨rfl, rfl, rfl, rfl, trivial⟩)
      · rw [c1] at next
        refine RG.nilS (AC.cond_t rfl (AC.reg ?_))
        refine RG.call (by first | exact trivial | exact rfl) rfl (WriteByte_ok (c := 61) h3 (by rw [List.length_append]; exact hbl)) (fun d H2 ⟨g1, g2⟩ => ?_) (fun _ _ h => h.elim)
        refine RG.nil (AC.reg ?_)
        repeat (first | refine RG.z0 ?_ | refine RG.z1 ?_ | refine RG.z2 ?_ | refine RG.z3 ?_ | refine RG.z4 ?_ | refine RG.z5 ?_ | refine RG.z6 ?_ | refine RG.z7 ?_ | refine RG.z8 ?_ | refine RG.z9 ?_ | refine RG.zA ?_ | refine RG.zB ?_ | refine RG.zC ?_)
        exact RG.nil (ih (n + 1) _ ⟨by omega, next _ g2⟩ (by omega) _ ⟨rfl, rfl, rfl, rfl, trivial⟩)
end Go.Run.Tryd
/- Encode. -/
namespace Go.Run.Tryd
open Go Go.Run Go.RowKit
variable {G : Gl}

/-- Between rounds: what is written, and what is left. -/
def encJ (H : Hp) (b l : Nat) (asg bdy : Code) (fr : Fr) (s t : List UInt8) (A : Hp) : Prop :=
  ∃ u done, BLD (H.upd l (some (.loop F37.N [11] asg bdy fr .ready none))) b u done A ∧ done ++ encF t = encF s

theorem BLD.fresh {H0 H : Hp} {b k : Nat} {u : Bool} {bs : List UInt8} (h : BLD H0 b u bs H) (hk : H0 k = none) (hne : k ≠ b) : H k = none ∨ ∃ n, H k = some (.front n 1 5) := by
  cases h with
  | mt h => exact .inl (by rw [Hp.upd_ne hne]; exact hk)
  | on g bs h1 h2 h3 h4 =>
    by_cases e : k = g
    · subst e; exact .inr ⟨_, Hp.upd_same⟩
    · exact .inl (by rw [Hp.upd_ne e, Hp.upd_ne hne]; exact hk)

theorem enc_len : ∀ (t : List UInt8), (encF t).length ≤ 2 * t.length + 4
  | [] => by simp [encF]
  | [a] => by simp [encF, encW]
  | [a, b] => by simp [encF, encW]
  | a :: b :: c :: t => by
    have := enc_len t
    rw [encF, List.length_append]
    simp only [encW, List.length_cons, List.length_nil]
    omega

theorem enc_y {H : Hp} {b l : Nat} {asg bdy : Code} {fr : Fr} {s : List UInt8} (hs : s.length ≤ 70368744177000) (f3 : fr 3 = .ptr b 0)
    (has : cCode Go.Proofs.Tryd.prog F37.N asg = some (rngA F37.c)) (hbdy : cCode Go.Proofs.Tryd.prog F37.N bdy = some (rngB F37.c)) :
    ∀ (t : List UInt8) (A : Hp), t ≠ [] → encJ H b l asg bdy fr s t A → CALV Go.Proofs.Tryd.prog G (.func (.yield l) [] []) [.str (t.take 3)] A (fun r A' => r = .bool true ∧ encJ H b l asg bdy fr s (t.drop 3) A') (fun _ _ => False) := by
  rintro t A ht ⟨u, done, hB, hE⟩
  have hl0 : A l = some (.loop F37.N [11] asg bdy fr .ready none) := hB.look Hp.upd_same
  have hdl : done.length ≤ 140737488355000 := by
    have h1 := congrArg List.length hE
    have h2 := enc_len s
    rw [List.length_append] at h1
    omega
  refine .inr ⟨l, rfl, ?_⟩
  refine YLD.of (N := F37.N) (ps := [11]) (bd := bdy) (fr := fr) hl0 rfl has hbdy ?_
  refine AC.reg ?_
  repeat (first | refine RG.z0 ?_ | refine RG.z1 ?_ | refine RG.z2 ?_ | refine RG.z3 ?_ | refine RG.z4 ?_ | refine RG.z5 ?_ | refine RG.z6 ?_ | refine RG.z7 ?_ | refine RG.z8 ?_ | refine RG.z9 ?_ | refine RG.zA ?_ | refine RG.zB ?_ | refine RG.zC ?_)
  refine RG.nil ⟨rfl, hl0, ?_⟩
  have hB2 := hB.upd (k := l) (o' := .loop F37.N [11] asg bdy fr .busy none) Hp.upd_same
  rw [Hp.upd_upd] at hB2
  generalize A.upd l (some (.loop F37.N [11] asg bdy fr .busy none)) = A2 at hB2 ⊢
  refine AC.to [(3, .ptr b 0), (4, .str (t.take 3))] ⟨f3, rfl, trivial⟩ ?_
  refine AC.block (AC.seq (AC.reg ?_))
  refine RG.alloc (by first | exact trivial | exact rfl) fun q hq => ?_
  have hql : q ≠ l := fun e => by rw [e, hB2.look Hp.upd_same] at hq; cases hq
  have hq0 : H q = none := by
    have := hB2.base hq
    rw [Hp.upd_ne hql] at this; exact this
  have hB3 := hB2.put (o := some (.cells [.int .u8 0, .int .u8 0, .int .u8 0] 84)) hq
  refine RG.nilS ?_
  refine AC.to [(3, .ptr b 0), (4, .str (t.take 3)), (5, .ptr q 0)] ⟨rfl, rfl, rfl, trivial⟩ ?_
  refine enc_body hB3 Hp.upd_same (by simp [ht]) (by rw [List.length_take]; omega) hdl (fun fr' H2 hB4 => ?_)
  rw [Hp.upd_upd] at hB4
  have hq4 : (H.upd l (some (.loop F37.N [11] asg bdy fr .busy none))) q = none := by rw [Hp.upd_ne hql]; exact hq0
  have hl4 : H2 l = some (.loop F37.N [11] asg bdy fr .busy none) := hB4.look (by rw [Hp.upd_ne (Ne.symm hql)]; exact Hp.upd_same)
  have hB5 := hB4.upd (k := l) (o := .loop F37.N [11] asg bdy fr .busy none) (o' := .loop F37.N [11] asg bdy fr .ready none) (by rw [Hp.upd_ne (Ne.symm hql)]; exact Hp.upd_same)
  rw [Hp.upd_comm hql, Hp.upd_upd] at hB5
  obtain ⟨H6, hB6, hsub⟩ := hB5.take (by rw [Hp.upd_ne hql]; exact hq0)
  refine ⟨hl4, H6, hsub, rfl, true, _, hB6, ?_⟩
  rw [List.append_assoc, ← encF_step t ht]; exact hE

theorem Encode_ok (s : List UInt8) (hs : s.length ≤ 70368744177000) : PF Go.Proofs.Tryd.prog G 37 [.str s] (.str (encF s)) := by
  intro H
  refine CALL.of cF37 (Nat.le_of_ble_eq_true rfl) ?_
  refine AC.seq (AC.reg ?_)
  repeat (first | refine RG.z0 ?_ | refine RG.z1 ?_ | refine RG.z2 ?_ | refine RG.z3 ?_ | refine RG.z4 ?_ | refine RG.z5 ?_ | refine RG.z6 ?_ | refine RG.z7 ?_ | refine RG.z8 ?_ | refine RG.z9 ?_ | refine RG.zA ?_ | refine RG.zB ?_ | refine RG.zC ?_)
  refine RG.nilS (AC.seq (AC.reg ?_))
  refine RG.alloc (by first | exact trivial | exact rfl) fun b hb => ?_
  refine RG.nilS (AC.seq (AC.seq (AC.reg ?_)))
  repeat (first | refine RG.z0 ?_ | refine RG.z1 ?_ | refine RG.z2 ?_ | refine RG.z3 ?_ | refine RG.z4 ?_ | refine RG.z5 ?_ | refine RG.z6 ?_ | refine RG.z7 ?_ | refine RG.z8 ?_ | refine RG.z9 ?_ | refine RG.zA ?_ | refine RG.zB ?_ | refine RG.zC ?_)
  refine RG.call (by first | exact trivial | exact rfl) rfl (Lines_ok s _) (fun r H' ⟨b1, b2, h1, h2, h3, h4, h5⟩ => ?_) (fun _ _ h => h.elim)
  subst h4; subst h5
  have n1 : b1 ≠ b := fun e => by rw [e, Hp.upd_same] at h1; cases h1
  have n2 : b2 ≠ b := fun e => by rw [e, Hp.upd_same] at h2; cases h2
  rw [Hp.upd_ne n1] at h1
  rw [Hp.upd_ne n2] at h2
  refine RG.nilS (AC.block ?_)
  generalize hfr : Fr.put _ (some 10) _ = fr
  have f3 : fr 3 = .ptr b 0 := by rw [← hfr]; rfl
  have f10 : fr 10 = .func (.func 79) [] [.ptr b1 0, .ptr b2 0] := by rw [← hfr]; rfl
  clear hfr
  refine AC.rng f10 fun l asg bdy has hbdy hl => ?_
  have m1 : l ≠ b2 := fun e => by rw [e, lnH, Hp.upd_same] at hl; cases hl
  rw [lnH, Hp.upd_ne m1] at hl
  have m2 : l ≠ b1 := fun e => by rw [e, Hp.upd_same] at hl; cases hl
  rw [Hp.upd_ne m2] at hl
  have m3 : l ≠ b := fun e => by rw [e, Hp.upd_same] at hl; cases hl
  rw [Hp.upd_ne m3] at hl
  have hy := enc_y (G := G) (H := H) (l := l) (s := s) hs f3 has hbdy
  have h0 : (lnH (H.upd b (some (.cells [.nilp, .nils] 43))) b1 b2 s).upd l (some (.loop F37.N [11] asg bdy fr .ready none)) =
      lnH ((H.upd l (some (.loop F37.N [11] asg bdy fr .ready none))).upd b (some (.cells [.nilp, .nils] 43))) b1 b2 s := by
    simp only [lnH]
    rw [Hp.upd_comm (Ne.symm m1), Hp.upd_comm (Ne.symm m2), Hp.upd_comm (Ne.symm m3)]
  have hJ0 : encJ H b l asg bdy fr s s ((H.upd l (some (.loop F37.N [11] asg bdy fr .ready none))).upd b (some (.cells [.nilp, .nils] 43))) :=
    ⟨false, [], .mt false (by rw [Hp.upd_ne (Ne.symm m3)]; exact hb), rfl⟩
  have hc := Lines1_ok hy s _ hJ0 (b1 := b1) (b2 := b2) (by rw [Hp.upd_ne n1, Hp.upd_ne (Ne.symm m2)]; exact h1) (by rw [Hp.upd_ne n2, Hp.upd_ne (Ne.symm m1)]; exact h2) h3
  have hfin : CALL Go.Proofs.Tryd.prog G 79 ([] ++ [.func (.yield l) [] []] ++ [.ptr b1 0, .ptr b2 0]) ((lnH (H.upd b (some (.cells [.nilp, .nils] 43))) b1 b2 s).upd l (some (.loop F37.N [11] asg bdy fr .ready none)))
      (fun _ H' => ∃ A', encJ H b l asg bdy fr s [] A' ∧ A' b1 = none ∧ A' b2 = none ∧ H' = lnH A' b1 b2 s) (fun _ _ => False) := by
    rw [h0]; exact hc
  refine hfin.mono (fun _ H' ⟨A', ⟨u, done, hB, hE⟩, k1, k2, k3⟩ => ?_) (fun _ _ hq => hq.elim)
  subst k3
  have hl2 : A' l = some (.loop F37.N [11] asg bdy fr .ready none) := hB.look Hp.upd_same
  refine ⟨_, _, by rw [lnH, Hp.upd_ne m1, Hp.upd_ne m2]; exact hl2, by simp, ?_⟩
  rw [encF, List.append_nil] at hE
  subst hE
  obtain ⟨H6, hB6, hsub⟩ := hB.take hl
  have hsub2 : SubH H6 ((lnH A' b1 b2 s).upd l none) := by
    intro k o hk
    have e1 := hsub k o hk
    have d1 : k ≠ b1 := fun e => by rw [e, k1] at e1; cases e1
    have d2 : k ≠ b2 := fun e => by rw [e, k2] at e1; cases e1
    have d3 : k ≠ l := by
      intro e
      subst e
      rcases hB6.fresh hl m3 with h6 | ⟨n, h6⟩
      · rw [h6] at hk; cases hk
      · have := hsub k _ h6
        rw [hl2] at this
        cases this
    rw [Hp.upd_ne d3, lnH, Hp.upd_ne d2, Hp.upd_ne d1]
    exact e1
  refine AC.drop hsub2 ?_
  refine AC.seq (AC.reg ?_)
  have hl3 := enc_len s
  refine RG.callR (d := .str (encF s)) (H' := H) (by first | exact trivial | exact rfl) (by simp only [List.map, XV, f3]) (String_ok hB6 (by omega)) ?_
  repeat (first | refine RG.z0 ?_ | refine RG.z1 ?_ | refine RG.z2 ?_ | refine RG.z3 ?_ | refine RG.z4 ?_ | refine RG.z5 ?_ | refine RG.z6 ?_ | refine RG.z7 ?_ | refine RG.z8 ?_ | refine RG.z9 ?_ | refine RG.zA ?_ | refine RG.zB ?_ | refine RG.zC ?_)
  exact RG.nilS (AC.ret (fin rfl ⟨rfl, rfl⟩))
end Go.Run.Tryd
/- put, Write, Leaf. -/
namespace Go.Run.Tryd
open Go Go.Run Go.RowKit
/-! cardcase/markup.put -/
def F15 : FN := ⟨68, (.seq (.reg [⟨(some 4), none, .box 24 (.t 1)⟩])
  (.seq (.reg [⟨(some 9), none, .mv (.t 0)⟩,
    ⟨(some 10), none, .fadr 1 (.t 4)⟩,
    ⟨(some 11), none, .ld false 1 (.t 10)⟩,
    ⟨(some 12), none, .bin .add (.c (.str [60])) (.t 11)⟩,
    ⟨(some 13), none, .call 14 [(.t 9), (.t 12)]⟩])
  (.seq (.seq (.reg [⟨(some 14), none, .fadr 0 (.t 4)⟩,
    ⟨(some 15), none, .ld false 1 (.t 14)⟩,
    ⟨(some 16), none, .mv (.t 2)⟩,
    ⟨(some 17), none, .bin .neq (.t 15) (.t 16)⟩])
  (.cond (.t 17) (.reg [⟨(some 18), none, .mv (.t 0)⟩,
    ⟨(some 19), none, .fadr 0 (.t 4)⟩,
    ⟨(some 20), none, .ld false 1 (.t 19)⟩,
    ⟨(some 21), none, .call 35 [(.t 20)]⟩,
    ⟨(some 22), none, .bin .add (.c (.str [32, 120, 109, 108, 110, 115, 61, 34])) (.t 21)⟩,
    ⟨(some 23), none, .bin .add (.t 22) (.c (.str [34]))⟩,
    ⟨(some 24), none, .call 14 [(.t 18), (.t 23)]⟩])
  .skip))
  (.seq (.reg [⟨(some 25), none, .fadr 2 (.t 4)⟩,
    ⟨(some 26), none, .ld false 1 (.t 25)⟩,
    ⟨(some 27), none, .call 36 [(.t 26)]⟩,
    ⟨(some 6), none, .mv (.t 27)⟩])
  (.seq (.seq (.reg [⟨(some 28), none, .fadr 3 (.t 4)⟩,
    ⟨(some 29), none, .ld false 1 (.t 28)⟩])
  (.cond (.t 29) (.seq (.reg [⟨(some 30), none, .mv (.t 0)⟩,
    ⟨(some 31), none, .call 14 [(.t 30), (.c (.str [32, 101, 110, 99, 61, 34, 98, 54, 52, 34]))]⟩])
  (.reg [⟨(some 32), none, .fadr 2 (.t 4)⟩,
    ⟨(some 33), none, .ld false 1 (.t 32)⟩,
    ⟨(some 34), none, .call 37 [(.t 33)]⟩,
    ⟨(some 6), none, .mv (.t 34)⟩]))
  .skip))
  (.seq (.seq (.reg [⟨(some 35), none, .mv (.t 6)⟩,
    ⟨(some 36), none, .bin .eql (.t 35) (.c (.str []))⟩,
    ⟨(some 37), none, .mv (.t 36)⟩,
    ⟨(some 38), some (37, true), .fadr 4 (.t 4)⟩,
    ⟨(some 39), some (37, true), .ld false 1 (.t 38)⟩,
    ⟨(some 40), some (37, true), .len false (.t 39)⟩,
    ⟨(some 41), some (37, true), .bin .eql (.t 40) (.c (.int .i64 0))⟩,
    ⟨(some 42), none, .pick (.t 37) (.t 41) (.c (.bool false))⟩])
  (.cond (.t 42) (.seq (.reg [⟨(some 43), none, .mv (.t 0)⟩,
    ⟨(some 44), none, .call 14 [(.t 43), (.c (.str [47, 62]))]⟩])
  .ret)
  .skip))
  (.seq (.reg [⟨(some 45), none, .mv (.t 0)⟩,
    ⟨(some 46), none, .mv (.t 6)⟩,
    ⟨(some 47), none, .bin .add (.c (.str [62])) (.t 46)⟩,
    ⟨(some 48), none, .call 14 [(.t 45), (.t 47)]⟩])
  (.seq (.seq (.reg [⟨(some 49), none, .fadr 4 (.t 4)⟩,
    ⟨(some 50), none, .ld false 1 (.t 49)⟩,
    ⟨(some 51), none, .len false (.t 50)⟩,
    ⟨(some 52), none, .mv (.c (.int .i64 0))⟩])
  (.block 0 (.loop (.seq (.reg [⟨(some 53), none, .bin .lss (.t 52) (.t 51)⟩])
  (.seq (.cond (.t 53) .skip
  (.exit 0))
  (.seq (.block 1 (.seq (.reg [⟨(some 54), none, .iadr 5 (.t 50) (.t 52)⟩,
    ⟨(some 55), none, .ld true 5 (.t 54)⟩,
    ⟨(some 8), none, .alloc [(.int .i64 0), (.str []), (.str []), (.bool false), .nils] 24⟩,
    ⟨none, none, .st 5 (.t 8) (.t 55)⟩])
  (.reg [⟨(some 56), none, .mv (.t 0)⟩,
    ⟨(some 57), none, .ld true 5 (.t 8)⟩,
    ⟨(some 58), none, .fadr 0 (.t 4)⟩,
    ⟨(some 59), none, .ld false 1 (.t 58)⟩,
    ⟨(some 60), none, .call 15 [(.t 56), (.t 57), (.t 59)]⟩])))
  (.reg [⟨(some 61), none, .bin .add (.t 52) (.c (.int .i64 1))⟩,
    ⟨(some 52), none, .mv (.t 61)⟩])))))))
  (.reg [⟨(some 62), none, .mv (.t 0)⟩,
    ⟨(some 63), none, .fadr 1 (.t 4)⟩,
    ⟨(some 64), none, .ld false 1 (.t 63)⟩,
    ⟨(some 65), none, .bin .add (.c (.str [60, 47])) (.t 64)⟩,
    ⟨(some 66), none, .bin .add (.t 65) (.c (.str [62]))⟩,
    ⟨(some 67), none, .call 14 [(.t 62), (.t 66)]⟩]))))))))), []⟩
theorem cF15 : cFn Go.Proofs.Tryd.prog 15 = some F15 := by kernel_rfl
/-! cardcase/markup.Write -/
def F7 : FN := ⟨17, (.seq (.reg [⟨(some 1), none, .box 24 (.t 0)⟩,
    ⟨(some 2), none, .mv (.c (.str []))⟩,
    ⟨(some 3), none, .mv (.c (.int .i64 0))⟩])
  (.seq (.seq (.reg [⟨(some 6), none, .ld true 5 (.t 1)⟩,
    ⟨(some 7), none, .call 13 [(.t 6)]⟩,
    ⟨(some 4), none, .mv (.t 7)⟩])
  (.seq (.reg [⟨(some 8), none, .mv (.t 4)⟩,
    ⟨(some 9), none, .bin .neq (.t 8) (.c (.int .i64 0))⟩])
  (.cond (.t 9) (.seq (.reg [⟨(some 10), none, .mv (.t 4)⟩,
    ⟨(some 2), none, .mv (.c (.str []))⟩,
    ⟨(some 3), none, .mv (.t 10)⟩])
  .ret)
  .skip)))
  (.seq (.reg [⟨(some 5), none, .alloc [.nilp, .nils] 43⟩])
  (.seq (.reg [⟨(some 11), none, .call 14 [(.t 5), (.c (.str [60, 63, 120, 109, 108, 32, 118, 101, 114, 115, 105, 111, 110, 61, 34, 49, 46, 48, 34, 63, 62]))]⟩])
  (.seq (.reg [⟨(some 12), none, .ld true 5 (.t 1)⟩,
    ⟨(some 13), none, .call 15 [(.t 5), (.t 12), (.c (.int .i64 0))]⟩])
  (.seq (.seq (.reg [⟨(some 14), none, .call 16 [(.t 5)]⟩,
    ⟨(some 15), none, .bin .gtr (.t 14) (.c (.int .i64 12000))⟩])
  (.cond (.t 15) (.seq (.reg [⟨(some 2), none, .mv (.c (.str []))⟩,
    ⟨(some 3), none, .mv (.c (.int .i64 8))⟩])
  .ret)
  .skip))
  (.seq (.reg [⟨(some 16), none, .call 17 [(.t 5)]⟩,
    ⟨(some 2), none, .mv (.t 16)⟩,
    ⟨(some 3), none, .mv (.c (.int .i64 0))⟩])
  .ret))))))), [.tmp 2, .tmp 3]⟩
theorem cF7 : cFn Go.Proofs.Tryd.prog 7 = some F7 := by kernel_rfl
/-! cardcase/tree.Leaf -/
def F11 : FN := ⟨11, (.seq (.reg [⟨(some 6), none, .alloc [(.int .i64 0), (.str []), (.str []), (.bool false), .nils] 24⟩])
  (.seq (.reg [⟨(some 7), none, .mv (.t 0)⟩,
    ⟨(some 8), none, .mv (.t 1)⟩,
    ⟨(some 9), none, .mv (.t 2)⟩,
    ⟨(some 10), none, .bld [(.int .i64 0), (.str []), (.str []), (.bool false), .nils] [(0, 1, (.t 7)), (1, 1, (.t 8)), (2, 1, (.t 9))]⟩,
    ⟨none, none, .st 5 (.t 6) (.t 10)⟩])
  .ret)), [.cell 6 true 5]⟩
theorem cF11 : cFn Go.Proofs.Tryd.prog 11 = some F11 := by kernel_rfl
variable {G : Gl}

mutual
def nodes : El → Nat
  | .mk _ _ _ _ ks => 1 + nodess ks
def nodess : List El → Nat
  | [] => 0
  | k :: ks => nodes k + nodess ks
end

theorem putsF_append : ∀ (a c : List El) (p : Int), putsF p (a ++ c) = putsF p a ++ putsF p c
  | [], c, p => rfl
  | k :: a, c, p => by rw [List.cons_append, putsF, putsF, putsF_append a c p, List.append_assoc]

theorem put_ok {b : Nat} : ∀ (m : Nat) (e : El) (pg : Int) (bs : List UInt8) (u : Bool) (H0 H : Hp), okE e → dp e ≤ m → BLD H0 b u bs H → bs.length + (putF pg e).length ≤ 140737488355328 →
    CALL Go.Proofs.Tryd.prog G 15 [.ptr b 0, .agg (elC e), .int .i64 pg] H (fun _ H' => BLD H0 b true (bs ++ putF pg e) H') (fun _ _ => False) := by
  intro m
  induction m with
  | zero =>
    intro e pg bs u H0 H _ hd
    obtain ⟨p, n, t, o, ks⟩ := e
    simp only [dp] at hd; omega
  | succ m ih =>
    intro e pg bs u H0 H hok hd hB hlen
    obtain ⟨p, n, t, o, ks⟩ := e
    have he : elC (.mk p n t o ks) = [.int .i64 p, .str n, .str t, .bool o, .lst (elsC ks) ks.length 5 none] := by rw [elC]
    obtain ⟨hc1, hcs⟩ := hok
    obtain ⟨hp, hn, hkl, hkt, htl, ho1, ho2⟩ := check1_ok hc1
    have hnl : n.length ≤ 32 := by
      cases n with
      | nil => simp [isName] at hn
      | cons c l => simp only [isName, Bool.and_eq_true, decide_eq_true_eq] at hn; omega
    simp only [dp] at hd
    generalize hA1 : (bif p == pg then [] else [32] ++ spaceMark ++ spaceOf p ++ [34]) = A1
    generalize hA2 : (bif o then [32] ++ codeMark ++ b64 ++ [34] else []) = A2
    generalize htx : (bif o then encF t else esc t) = tx
    generalize hT : (bif tx == [] && Nat.beq ks.length 0 then [47, 62] else [62] ++ tx ++ putsF p ks ++ [60, 47] ++ n ++ [62]) = T
    have hput : putF pg (.mk p n t o ks) = [60] ++ n ++ A1 ++ A2 ++ T := by
      simp only [putF, hA1, hA2, htx, hT]
    rw [hput] at hlen ⊢
    simp only [List.length_append, List.length_cons, List.length_nil] at hlen
    refine CALL.of cF15 (Nat.le_of_ble_eq_true rfl) ?_
    refine AC.seq (AC.reg ?_)
    rw [he]
    refine RG.box (by first | exact trivial | exact rfl) rfl rfl fun q hq => ?_
    have hB1 := hB.put (o := some (.cells [.int .i64 p, .str n, .str t, .bool o, .lst (elsC ks) ks.length 5 none] elT)) hq
    have hq0 := hB.base hq
    have hqb : q ≠ b := fun e => by rw [e] at hq; obtain ⟨_, hc⟩ := hB.cell; rw [hc] at hq; cases hq
    generalize hH1 : H0.upd q (some (.cells [.int .i64 p, .str n, .str t, .bool o, .lst (elsC ks) ks.length 5 none] elT)) = H1 at hB1
    have hq1 : H1 q = some (.cells [.int .i64 p, .str n, .str t, .bool o, .lst (elsC ks) ks.length 5 none] elT) := by rw [← hH1]; exact Hp.upd_same
    have done : ∀ {fr : Fr} {H2 : Hp} {e : EX}, e = .ret ∨ e = .normal → BLD H1 b true (bs ++ ([60] ++ n ++ A1 ++ A2 ++ T)) H2 → Fin F15.rs (fun _ H' => BLD H0 b true (bs ++ ([60] ++ n ++ A1 ++ A2 ++ T)) H') (fun _ _ => False) e fr H2 := by
      intro fr H2 e he h2
      rw [← hH1] at h2
      obtain ⟨H3, h3, h4⟩ := h2.take hq0
      rcases he with rfl | rfl
      · exact finD rfl h4 h3
      · exact finD rfl h4 h3
    refine RG.nilS (AC.seq (AC.reg ?_))
    (first | refine RG.z0 ?_ | refine RG.z1 ?_ | refine RG.z2 ?_ | refine RG.z3 ?_ | refine RG.z4 ?_ | refine RG.z5 ?_ | refine RG.z6 ?_ | refine RG.z7 ?_ | refine RG.z8 ?_ | refine RG.z9 ?_ | refine RG.zA ?_ | refine RG.zB ?_ | refine RG.zC ?_)
    (first | refine RG.z0 ?_ | refine RG.z1 ?_ | refine RG.z2 ?_ | refine RG.z3 ?_ | refine RG.z4 ?_ | refine RG.z5 ?_ | refine RG.z6 ?_ | refine RG.z7 ?_ | refine RG.z8 ?_ | refine RG.z9 ?_ | refine RG.zA ?_ | refine RG.zB ?_ | refine RG.zC ?_)
    refine RG.ld (by first | exact trivial | exact rfl) (by conv => lhs; whnf) (hB1.look hq1) (d := .str n) rfl ?_
    refine RG.addS (a := [60]) (by first | exact trivial | exact rfl) (by conv => lhs; whnf) (by conv => lhs; whnf) (by simp; omega) ?_
    refine RG.call (by first | exact trivial | exact rfl) rfl (WriteString_ok hB1 (by simp; omega)) (fun d H2 ⟨_, hB2⟩ => ?_) (fun _ _ h => h.elim)
    refine RG.nilS ?_
    refine AC.seqI (I := fun fr' H' => BLD H1 b true (bs ++ ([60] ++ n) ++ A1) H' ∧ Agrees fr' [(0, .ptr b 0), (2, .int .i64 pg), (4, .ptr q 0)]) (AC.seq (AC.reg ?_)) ?_
    · (first | refine RG.z0 ?_ | refine RG.z1 ?_ | refine RG.z2 ?_ | refine RG.z3 ?_ | refine RG.z4 ?_ | refine RG.z5 ?_ | refine RG.z6 ?_ | refine RG.z7 ?_ | refine RG.z8 ?_ | refine RG.z9 ?_ | refine RG.zA ?_ | refine RG.zB ?_ | refine RG.zC ?_)
      refine RG.ld (by first | exact trivial | exact rfl) (by conv => lhs; whnf) (hB2.look hq1) (d := .int .i64 p) rfl ?_
      (first | refine RG.z0 ?_ | refine RG.z1 ?_ | refine RG.z2 ?_ | refine RG.z3 ?_ | refine RG.z4 ?_ | refine RG.z5 ?_ | refine RG.z6 ?_ | refine RG.z7 ?_ | refine RG.z8 ?_ | refine RG.z9 ?_ | refine RG.zA ?_ | refine RG.zB ?_ | refine RG.zC ?_)
      refine RG.p (d := .bool (!(p == pg))) (by first | exact trivial | exact rfl) rfl ?_
      cases q1 : p == pg
      · rw [q1, cond_false] at hA1
        refine RG.nilS (AC.cond_t rfl (AC.reg ?_))
        (first | refine RG.z0 ?_ | refine RG.z1 ?_ | refine RG.z2 ?_ | refine RG.z3 ?_ | refine RG.z4 ?_ | refine RG.z5 ?_ | refine RG.z6 ?_ | refine RG.z7 ?_ | refine RG.z8 ?_ | refine RG.z9 ?_ | refine RG.zA ?_ | refine RG.zB ?_ | refine RG.zC ?_)
        (first | refine RG.z0 ?_ | refine RG.z1 ?_ | refine RG.z2 ?_ | refine RG.z3 ?_ | refine RG.z4 ?_ | refine RG.z5 ?_ | refine RG.z6 ?_ | refine RG.z7 ?_ | refine RG.z8 ?_ | refine RG.z9 ?_ | refine RG.zA ?_ | refine RG.zB ?_ | refine RG.zC ?_)
        refine RG.ld (by first | exact trivial | exact rfl) (by conv => lhs; whnf) (hB2.look hq1) (d := .int .i64 p) rfl ?_
        refine RG.callP (by first | exact trivial | exact rfl) rfl (Space_ok p) ?_
        have hsl : (spaceOf p).length ≤ 1000 := by
          unfold spaceOf
          cases p == 0 <;> cases p == 1 <;> cases p == 2 <;> decide
        refine RG.addS (a := [32, 120, 109, 108, 110, 115, 61, 34]) (by first | exact trivial | exact rfl) (by conv => lhs; whnf) (by conv => lhs; whnf) (by simp; omega) ?_
        refine RG.addS (by first | exact trivial | exact rfl) (by conv => lhs; whnf) (by conv => lhs; whnf) (by simp; omega) ?_
        have hA1' : [32, 120, 109, 108, 110, 115, 61, 34] ++ spaceOf p ++ [34] = A1 := by rw [← hA1]; simp [spaceMark]
        rw [hA1']
        refine RG.call (by first | exact trivial | exact rfl) rfl (WriteString_ok hB2 (by simp; omega)) (fun d H3 ⟨_, hB3⟩ => ?_) (fun _ _ h => h.elim)
        exact RG.nil ⟨hB3, rfl, rfl, rfl, trivial⟩
      · rw [q1, cond_true] at hA1
        subst hA1
        refine RG.nilS (AC.cond_f rfl (AC.skip ⟨?_, rfl, rfl, rfl, trivial⟩))
        rw [List.append_nil]; exact hB2
    intro fr1 H3 ⟨hB3, hf1⟩
    refine AC.to _ hf1 (AC.seq (AC.reg ?_))
    (first | refine RG.z0 ?_ | refine RG.z1 ?_ | refine RG.z2 ?_ | refine RG.z3 ?_ | refine RG.z4 ?_ | refine RG.z5 ?_ | refine RG.z6 ?_ | refine RG.z7 ?_ | refine RG.z8 ?_ | refine RG.z9 ?_ | refine RG.zA ?_ | refine RG.zB ?_ | refine RG.zC ?_)
    refine RG.ld (by first | exact trivial | exact rfl) (by conv => lhs; whnf) (hB3.look hq1) (d := .str t) rfl ?_
    refine RG.callP (by first | exact trivial | exact rfl) rfl (Escape_ok t (by omega)) ?_
    repeat (first | refine RG.z0 ?_ | refine RG.z1 ?_ | refine RG.z2 ?_ | refine RG.z3 ?_ | refine RG.z4 ?_ | refine RG.z5 ?_ | refine RG.z6 ?_ | refine RG.z7 ?_ | refine RG.z8 ?_ | refine RG.z9 ?_ | refine RG.zA ?_ | refine RG.zB ?_ | refine RG.zC ?_)
    refine RG.nilS ?_
    refine AC.seqI (I := fun fr' H' => BLD H1 b true (bs ++ ([60] ++ n) ++ A1 ++ A2) H' ∧ Agrees fr' [(0, .ptr b 0), (2, .int .i64 pg), (4, .ptr q 0), (6, .str tx)]) (AC.seq (AC.reg ?_)) ?_
    · (first | refine RG.z0 ?_ | refine RG.z1 ?_ | refine RG.z2 ?_ | refine RG.z3 ?_ | refine RG.z4 ?_ | refine RG.z5 ?_ | refine RG.z6 ?_ | refine RG.z7 ?_ | refine RG.z8 ?_ | refine RG.z9 ?_ | refine RG.zA ?_ | refine RG.zB ?_ | refine RG.zC ?_)
      refine RG.ld (by first | exact trivial | exact rfl) (by conv => lhs; whnf) (hB3.look hq1) (d := .bool o) rfl ?_
      cases o
      · rw [cond_false] at hA2 htx
        subst hA2; subst htx
        refine RG.nilS (AC.cond_f rfl (AC.skip ⟨?_, rfl, rfl, rfl, rfl, trivial⟩))
        rw [List.append_nil]; exact hB3
      · rw [cond_true] at hA2 htx
        refine RG.nilS (AC.cond_t rfl (AC.seq (AC.reg ?_)))
        have hA2' : [32, 101, 110, 99, 61, 34, 98, 54, 52, 34] = A2 := by rw [← hA2]; rfl
        (first | refine RG.z0 ?_ | refine RG.z1 ?_ | refine RG.z2 ?_ | refine RG.z3 ?_ | refine RG.z4 ?_ | refine RG.z5 ?_ | refine RG.z6 ?_ | refine RG.z7 ?_ | refine RG.z8 ?_ | refine RG.z9 ?_ | refine RG.zA ?_ | refine RG.zB ?_ | refine RG.zC ?_)
        rw [hA2']
        refine RG.call (by first | exact trivial | exact rfl) rfl (WriteString_ok hB3 (by simp; omega)) (fun d H4 ⟨_, hB4⟩ => ?_) (fun _ _ h => h.elim)
        refine RG.nilS (AC.reg ?_)
        (first | refine RG.z0 ?_ | refine RG.z1 ?_ | refine RG.z2 ?_ | refine RG.z3 ?_ | refine RG.z4 ?_ | refine RG.z5 ?_ | refine RG.z6 ?_ | refine RG.z7 ?_ | refine RG.z8 ?_ | refine RG.z9 ?_ | refine RG.zA ?_ | refine RG.zB ?_ | refine RG.zC ?_)
        refine RG.ld (by first | exact trivial | exact rfl) (by conv => lhs; whnf) (hB4.look hq1) (d := .str t) rfl ?_
        refine RG.callP (by first | exact trivial | exact rfl) rfl (Encode_ok t (by omega)) ?_
        rw [htx]
        repeat (first | refine RG.z0 ?_ | refine RG.z1 ?_ | refine RG.z2 ?_ | refine RG.z3 ?_ | refine RG.z4 ?_ | refine RG.z5 ?_ | refine RG.z6 ?_ | refine RG.z7 ?_ | refine RG.z8 ?_ | refine RG.z9 ?_ | refine RG.zA ?_ | refine RG.zB ?_ | refine RG.zC ?_)
        exact RG.nil ⟨hB4, rfl, rfl, rfl, rfl, trivial⟩
    intro fr2 H4 ⟨hB4, hf2⟩
    refine AC.to _ hf2 ?_
    refine AC.seqI (x := .seq _ _) (I := fun fr' H' => H' = H4 ∧ (tx == [] && Nat.beq ks.length 0) = false ∧ Agrees fr' [(0, .ptr b 0), (4, .ptr q 0), (6, .str tx)]) (AC.seq (AC.reg ?_)) ?_
    · have emp : (tx == [] && Nat.beq ks.length 0) = true → AC Go.Proofs.Tryd.prog G none F15.N (.seq (.reg [⟨(some 43), none, .mv (.t 0)⟩, ⟨(some 44), none, .call 14 [(.t 43), (.c (.str [47, 62]))]⟩]) .ret)
          (Nx (fun fr' H' => H' = H4 ∧ (tx == [] && Nat.beq ks.length 0) = false ∧ Agrees fr' [(0, .ptr b 0), (4, .ptr q 0), (6, .str tx)]) (Fin F15.rs (fun _ H' => BLD H0 b true (bs ++ ([60] ++ n ++ A1 ++ A2 ++ T)) H') (fun _ _ => False))) (frOf [(0, .ptr b 0)]) H4 := by
        intro hE
        rw [hE, cond_true] at hT
        subst hT
        refine AC.seq (AC.reg ?_)
        (first | refine RG.z0 ?_ | refine RG.z1 ?_ | refine RG.z2 ?_ | refine RG.z3 ?_ | refine RG.z4 ?_ | refine RG.z5 ?_ | refine RG.z6 ?_ | refine RG.z7 ?_ | refine RG.z8 ?_ | refine RG.z9 ?_ | refine RG.zA ?_ | refine RG.zB ?_ | refine RG.zC ?_)
        refine RG.call (by first | exact trivial | exact rfl) rfl (WriteString_ok hB4 (by simp; simp at hlen; omega)) (fun d H5 ⟨_, hB5⟩ => ?_) (fun _ _ h => h.elim)
        refine RG.nilS (AC.ret (done (.inl rfl) ?_))
        simpa [List.append_assoc] using hB5
      repeat (first | refine RG.z0 ?_ | refine RG.z1 ?_ | refine RG.z2 ?_ | refine RG.z3 ?_ | refine RG.z4 ?_ | refine RG.z5 ?_ | refine RG.z6 ?_ | refine RG.z7 ?_ | refine RG.z8 ?_ | refine RG.z9 ?_ | refine RG.zA ?_ | refine RG.zB ?_ | refine RG.zC ?_)
      cases q1 : tx == []
      · repeat (first | refine RG.z0 ?_ | refine RG.z1 ?_ | refine RG.z2 ?_ | refine RG.z3 ?_ | refine RG.z4 ?_ | refine RG.z5 ?_ | refine RG.z6 ?_ | refine RG.z7 ?_ | refine RG.z8 ?_ | refine RG.z9 ?_ | refine RG.zA ?_ | refine RG.zB ?_ | refine RG.zC ?_)
        exact RG.nilS (AC.cond_f rfl (AC.skip ⟨rfl, rfl, rfl, rfl, rfl, trivial⟩))
      · (first | refine RG.z0 ?_ | refine RG.z1 ?_ | refine RG.z2 ?_ | refine RG.z3 ?_ | refine RG.z4 ?_ | refine RG.z5 ?_ | refine RG.z6 ?_ | refine RG.z7 ?_ | refine RG.z8 ?_ | refine RG.z9 ?_ | refine RG.zA ?_ | refine RG.zB ?_ | refine RG.zC ?_)
        refine RG.ld (by first | exact trivial | exact rfl) (by conv => lhs; whnf) (hB4.look hq1) (d := .lst (elsC ks) ks.length 5 none) rfl ?_
        (first | refine RG.z0 ?_ | refine RG.z1 ?_ | refine RG.z2 ?_ | refine RG.z3 ?_ | refine RG.z4 ?_ | refine RG.z5 ?_ | refine RG.z6 ?_ | refine RG.z7 ?_ | refine RG.z8 ?_ | refine RG.z9 ?_ | refine RG.zA ?_ | refine RG.zB ?_ | refine RG.zC ?_)
        refine RG.p (d := .bool (Nat.beq ks.length 0)) (by first | exact trivial | exact rfl) (by
          show some (DV.bool (((ks.length : Nat) : Int) == 0)) = _
          congr 2
          rw [Bool.eq_iff_iff, beq_iff_eq]
          constructor
          · intro h; rw [show ks.length = 0 by omega]; rfl
          · intro h; have := Nat.eq_of_beq_eq_true h; omega) ?_
        repeat (first | refine RG.z0 ?_ | refine RG.z1 ?_ | refine RG.z2 ?_ | refine RG.z3 ?_ | refine RG.z4 ?_ | refine RG.z5 ?_ | refine RG.z6 ?_ | refine RG.z7 ?_ | refine RG.z8 ?_ | refine RG.z9 ?_ | refine RG.zA ?_ | refine RG.zB ?_ | refine RG.zC ?_)
        cases q2 : Nat.beq ks.length 0
        · exact RG.nilS (AC.cond_f rfl (AC.skip ⟨rfl, rfl, rfl, rfl, rfl, trivial⟩))
        · have hem := emp (by rw [q1, q2]; rfl)
          rw [q1, q2] at hem
          exact RG.nilS (AC.cond_t rfl (AC.to [(0, .ptr b 0)] ⟨rfl, trivial⟩ hem))
    intro fr3 H5 ⟨hE, hne, hf3⟩
    subst hE
    rw [hne, cond_false] at hT
    have hTl := congrArg List.length hT
    simp only [List.length_append, List.length_cons, List.length_nil] at hTl
    refine AC.to _ hf3 (AC.seq (AC.reg ?_))
    (first | refine RG.z0 ?_ | refine RG.z1 ?_ | refine RG.z2 ?_ | refine RG.z3 ?_ | refine RG.z4 ?_ | refine RG.z5 ?_ | refine RG.z6 ?_ | refine RG.z7 ?_ | refine RG.z8 ?_ | refine RG.z9 ?_ | refine RG.zA ?_ | refine RG.zB ?_ | refine RG.zC ?_)
    (first | refine RG.z0 ?_ | refine RG.z1 ?_ | refine RG.z2 ?_ | refine RG.z3 ?_ | refine RG.z4 ?_ | refine RG.z5 ?_ | refine RG.z6 ?_ | refine RG.z7 ?_ | refine RG.z8 ?_ | refine RG.z9 ?_ | refine RG.zA ?_ | refine RG.zB ?_ | refine RG.zC ?_)
    have htxl : tx.length ≤ 140737488355328 := by omega
    refine RG.addS (a := [62]) (by first | exact trivial | exact rfl) (by conv => lhs; whnf) (by conv => lhs; whnf) (by simp; omega) ?_
    refine RG.call (by first | exact trivial | exact rfl) rfl (WriteString_ok hB4 (by simp; omega)) (fun d H6 ⟨_, hB6⟩ => ?_) (fun _ _ h => h.elim)
    refine RG.nilS (AC.seq (AC.seq (AC.reg ?_)))
    (first | refine RG.z0 ?_ | refine RG.z1 ?_ | refine RG.z2 ?_ | refine RG.z3 ?_ | refine RG.z4 ?_ | refine RG.z5 ?_ | refine RG.z6 ?_ | refine RG.z7 ?_ | refine RG.z8 ?_ | refine RG.z9 ?_ | refine RG.zA ?_ | refine RG.zB ?_ | refine RG.zC ?_)
    refine RG.ld (by first | exact trivial | exact rfl) (by conv => lhs; whnf) (hB6.look hq1) (d := .lst (elsC ks) ks.length 5 none) rfl ?_
    repeat (first | refine RG.z0 ?_ | refine RG.z1 ?_ | refine RG.z2 ?_ | refine RG.z3 ?_ | refine RG.z4 ?_ | refine RG.z5 ?_ | refine RG.z6 ?_ | refine RG.z7 ?_ | refine RG.z8 ?_ | refine RG.z9 ?_ | refine RG.zA ?_ | refine RG.zB ?_ | refine RG.zC ?_)
    refine RG.nilS ?_
    generalize hbs : bs ++ ([60] ++ n) ++ A1 ++ A2 ++ ([62] ++ tx) = bs6 at hB6
    have hbl := congrArg List.length hbs
    simp only [List.length_append, List.length_cons, List.length_nil] at hbl
    refine AC.bloopH (α := Nat) (β := Unit) (fun i => ks.length - i) (fun i => [(0, .ptr b 0), (4, .ptr q 0), (50, .lst (elsC ks) ks.length 5 none), (51, .int .i64 ks.length), (52, .int .i64 i)])
      (fun i H' => i ≤ ks.length ∧ BLD H1 b true (bs6 ++ putsF p (ks.take i)) H') (fun _ => [(0, .ptr b 0), (4, .ptr q 0)]) (fun _ H' => BLD H1 b true (bs6 ++ putsF p ks) H') ?_ ?_ 0 _
      ⟨by omega, by simpa [putsF] using hB6⟩ ⟨rfl, rfl, rfl, rfl, rfl, trivial⟩
    · intro _ He fr hB7 hfr
      refine AC.to _ hfr (AC.reg ?_)
      (first | refine RG.z0 ?_ | refine RG.z1 ?_ | refine RG.z2 ?_ | refine RG.z3 ?_ | refine RG.z4 ?_ | refine RG.z5 ?_ | refine RG.z6 ?_ | refine RG.z7 ?_ | refine RG.z8 ?_ | refine RG.z9 ?_ | refine RG.zA ?_ | refine RG.zB ?_ | refine RG.zC ?_)
      (first | refine RG.z0 ?_ | refine RG.z1 ?_ | refine RG.z2 ?_ | refine RG.z3 ?_ | refine RG.z4 ?_ | refine RG.z5 ?_ | refine RG.z6 ?_ | refine RG.z7 ?_ | refine RG.z8 ?_ | refine RG.z9 ?_ | refine RG.zA ?_ | refine RG.zB ?_ | refine RG.zC ?_)
      refine RG.ld (by first | exact trivial | exact rfl) (by conv => lhs; whnf) (hB7.look hq1) (d := .str n) rfl ?_
      refine RG.addS (a := [60, 47]) (by first | exact trivial | exact rfl) (by conv => lhs; whnf) (by conv => lhs; whnf) (by simp; omega) ?_
      refine RG.addS (by first | exact trivial | exact rfl) (by conv => lhs; whnf) (by conv => lhs; whnf) (by simp; omega) ?_
      refine RG.call (by first | exact trivial | exact rfl) rfl (WriteString_ok hB7 (by simp; omega)) (fun d H8 ⟨_, hB8⟩ => ?_) (fun _ _ h => h.elim)
      refine RG.nil (done (.inr rfl) ?_)
      rw [← hT, ← hbs] at *
      simpa [List.append_assoc] using hB8
    · rintro i H' ⟨h1, hB7⟩ ih2 ex
      refine AC.seq (AC.reg ?_)
      repeat (first | refine RG.z0 ?_ | refine RG.z1 ?_ | refine RG.z2 ?_ | refine RG.z3 ?_ | refine RG.z4 ?_ | refine RG.z5 ?_ | refine RG.z6 ?_ | refine RG.z7 ?_ | refine RG.z8 ?_ | refine RG.z9 ?_ | refine RG.zA ?_ | refine RG.zB ?_ | refine RG.zC ?_)
      cases e3 : decide ((i : Int) < ks.length)
      · have e := of_decide_eq_false e3
        rw [List.take_of_length_le (by omega)] at hB7
        exact RG.nilS (AC.seq (AC.cond_f rfl (AC.exit (ex () _ _ hB7 ⟨rfl, rfl, trivial⟩))))
      · have e := of_decide_eq_true e3
        have hi : i < ks.length := by omega
        have htk : putsF p (ks.take (i + 1)) = putsF p (ks.take i) ++ putF p ks[i] := by
          rw [List.take_succ_eq_append_getElem hi, putsF_append, putsF, putsF, List.append_nil]
        have hle : (putsF p (ks.take (i + 1))).length ≤ (putsF p ks).length := by
          have : putsF p ks = putsF p (ks.take (i + 1)) ++ putsF p (ks.drop (i + 1)) := by rw [← putsF_append, List.take_append_drop]
          rw [this, List.length_append]; omega
        rw [htk, List.length_append] at hle
        have hrow : ((elsC ks).drop (i * 5)).take 5 = elC ks[i] := elsC_at ks i _ (List.getElem?_eq_getElem hi)
        have hrow' : partD true 0 5 ((elsC ks).drop (((i : Nat) : Int).toNat * 5)) = some (.agg (elC ks[i])) := partD_row (i := i) (sz := 5) hrow (by rw [elsC_length]; omega)
        refine RG.nilS (AC.seq (AC.cond_t rfl (AC.skip (AC.seq (AC.block (AC.seq (AC.reg ?_)))))))
        refine RG.p (by first | exact trivial | exact rfl) (evP_iadr (by conv => lhs; whnf) (by conv => lhs; whnf) (by omega)) ?_
        refine RG.p (by first | exact trivial | exact rfl) (evP_ldc (by conv => lhs; whnf) hrow') ?_
        refine RG.alloc (by first | exact trivial | exact rfl) fun z hz => ?_
        refine RG.sto (cs := [.int .i64 0, .str [], .str [], .bool false, .nils]) (ty := elT) (d := .agg (elC ks[i])) (ys := elC ks[i]) (by first | exact trivial | exact rfl) (by conv => lhs; whnf) Hp.upd_same (by conv => lhs; whnf) rfl (elC_length _) (by exact Nat.le_refl _) ?_
        have hsp : spliceL 0 (elC ks[i]) [.int .i64 0, .str [], .str [], .bool false, .nils] = elC ks[i] := by
          have h5 := elC_length ks[i]
          simp only [spliceL, List.take_zero, List.nil_append, Nat.zero_add, h5]
          simp
        rw [hsp, Hp.upd_upd]
        have hB8 := hB7.put (o := some (.cells (elC ks[i]) elT)) hz
        have hzq : z ≠ q := fun e => by rw [e, hB7.look hq1] at hz; cases hz
        have hz1 := hB7.base hz
        refine RG.nil (AC.reg ?_)
        (first | refine RG.z0 ?_ | refine RG.z1 ?_ | refine RG.z2 ?_ | refine RG.z3 ?_ | refine RG.z4 ?_ | refine RG.z5 ?_ | refine RG.z6 ?_ | refine RG.z7 ?_ | refine RG.z8 ?_ | refine RG.z9 ?_ | refine RG.zA ?_ | refine RG.zB ?_ | refine RG.zC ?_)
        refine RG.ld (by first | exact trivial | exact rfl) (by conv => lhs; whnf) Hp.upd_same (d := .agg (elC ks[i])) (by obtain ⟨p', n', t', o', ks', hx⟩ : ∃ p' n' t' o' ks', ks[i] = .mk p' n' t' o' ks' := ⟨_, _, _, _, _, (El.eta ks[i]).symm⟩; rw [hx, elC]; rfl) ?_
        (first | refine RG.z0 ?_ | refine RG.z1 ?_ | refine RG.z2 ?_ | refine RG.z3 ?_ | refine RG.z4 ?_ | refine RG.z5 ?_ | refine RG.z6 ?_ | refine RG.z7 ?_ | refine RG.z8 ?_ | refine RG.z9 ?_ | refine RG.zA ?_ | refine RG.zB ?_ | refine RG.zC ?_)
        refine RG.ld (by first | exact trivial | exact rfl) (by conv => lhs; whnf) (by rw [Hp.upd_ne (Ne.symm hzq)]; exact hB7.look hq1) (d := .int .i64 p) rfl ?_
        have hkd := dps_le ks ks[i] (List.getElem_mem hi)
        refine RG.call (by first | exact trivial | exact rfl) rfl (ih ks[i] p _ _ _ _ (okEs_mem ks _ (List.getElem_mem hi) hcs) (by omega) hB8 (by rw [List.length_append]; omega)) (fun d H8 hB9 => ?_) (fun _ _ h => h.elim)
        obtain ⟨H9, hB10, hsub⟩ := hB9.take hz1
        refine RG.nil (AC.drop hsub (AC.reg ?_))
        repeat (first | refine RG.z0 ?_ | refine RG.z1 ?_ | refine RG.z2 ?_ | refine RG.z3 ?_ | refine RG.z4 ?_ | refine RG.z5 ?_ | refine RG.z6 ?_ | refine RG.z7 ?_ | refine RG.z8 ?_ | refine RG.z9 ?_ | refine RG.zA ?_ | refine RG.zB ?_ | refine RG.zC ?_)
        refine RG.nil (ih2 (i + 1) _ ⟨by omega, ?_⟩ (by omega) _ ⟨rfl, rfl, rfl, rfl, rfl, trivial⟩)
        rw [htk, ← List.append_assoc]; exact hB10
/-! The text of an element that is right is not too long for a machine. -/
mutual
theorem put_len : ∀ (e : El) (pg : Int), okE e → (putF pg e).length ≤ 30000 * nodes e
  | .mk p n t o ks, pg, h => by
    obtain ⟨hp, hn, _, _, htl, _, _⟩ := check1_ok h.1
    have hnl : n.length ≤ 32 := by
      cases n with
      | nil => simp [isName] at hn
      | cons c l => simp only [isName, Bool.and_eq_true, decide_eq_true_eq] at hn; omega
    have hk := puts_len ks p h.2
    have hsl : (spaceOf p).length ≤ 100 := by
      unfold spaceOf
      cases p == 0 <;> cases p == 1 <;> cases p == 2 <;> decide
    have htx : (bif o then encF t else esc t).length ≤ 20000 := by
      have h1 := enc_len t
      have h2 := esc_length t
      cases o
      · simp only [cond_false]; omega
      · simp only [cond_true]; omega
    have h1 : (bif p == pg then [] else [32] ++ spaceMark ++ spaceOf p ++ [34]).length ≤ 200 := by
      cases p == pg
      · simp [spaceMark]; omega
      · simp
    have h2 : (bif o then [32] ++ codeMark ++ b64 ++ [34] else ([] : List UInt8)).length ≤ 20 := by cases o <;> decide
    have h3 : (bif (bif o then encF t else esc t) == [] && Nat.beq ks.length 0 then [47, 62] else [62] ++ (bif o then encF t else esc t) ++ putsF p ks ++ [60, 47] ++ n ++ [62]).length ≤ 20100 + (putsF p ks).length := by
      cases ((bif o then encF t else esc t) == [] && Nat.beq ks.length 0)
      · simp only [cond_false, List.length_append, List.length_cons, List.length_nil]; omega
      · simp only [cond_true, List.length_cons, List.length_nil]; omega
    simp only [putF, List.length_append, nodes, List.length_cons, List.length_nil] at *
    omega
theorem puts_len : ∀ (ks : List El) (pg : Int), okEs ks → (putsF pg ks).length ≤ 30000 * nodess ks
  | [], pg, _ => by simp [putsF, nodess]
  | k :: ks, pg, h => by
    have h1 := put_len k pg h.1
    have h2 := puts_len ks pg h.2
    simp only [putsF, List.length_append, nodess]
    omega
end
mutual
theorem nodes_pre : ∀ (e : El) (d m : Nat), d + dp e ≤ m + 1 → nodes e = (pre m e d).length
  | .mk p n t o ks, d, m, h => by
    simp only [dp] at h
    have hk := nodess_pres ks (d + 1) m (by omega)
    simp only [pre, blt_false (show d ≤ m by omega), cond_false, List.length_cons, nodes, hk]
    omega
theorem nodess_pres : ∀ (ks : List El) (d m : Nat), d + dps ks ≤ m + 1 → nodess ks = (pres m ks d).length
  | [], d, m, _ => rfl
  | k :: ks, d, m, h => by
    simp only [dps] at h
    rw [nodess, nodes_pre k d m (by omega), nodess_pres ks d m (by omega), pres, List.length_append]
end
theorem doc_len {e : El} (h : checkF e = 0) : (putF 0 e).length ≤ 150000000 := by
  obtain ⟨h1, h2⟩ := check_ok h
  have h3 := put_len e 0 h1
  have h4 := nodes_pre e 1 5000 (by omega)
  unfold checkF at h
  obtain ⟨_, h⟩ := bif_zero (by omega) h
  obtain ⟨h5, _⟩ := bif_zero (by omega) h
  simp only [weightF, List.length_take, decide_eq_false_iff_not] at h5
  omega

theorem ldEl (e : El) : partD true 0 5 (elC e) = some (.agg (elC e)) := by
  obtain ⟨p, n, t, o, ks⟩ := e
  rw [elC]; rfl

theorem Write_ok (hG : GOK G) (e : El) (hfit : fits e) : PF Go.Proofs.Tryd.prog G 7 [.agg (elC e)] (.tup [.str (writeF e).1, .int .i64 (writeF e).2]) := by
  intro H
  refine CALL.of cF7 (Nat.le_of_ble_eq_true rfl) ?_
  refine AC.seq (AC.reg ?_)
  refine RG.box (by first | exact trivial | exact rfl) rfl rfl fun q hq => ?_
  repeat (first | refine RG.z0 ?_ | refine RG.z1 ?_ | refine RG.z2 ?_ | refine RG.z3 ?_ | refine RG.z4 ?_ | refine RG.z5 ?_ | refine RG.z6 ?_ | refine RG.z7 ?_ | refine RG.z8 ?_ | refine RG.z9 ?_ | refine RG.zA ?_ | refine RG.zB ?_ | refine RG.zC ?_)
  refine RG.nilS (AC.seq (AC.seq (AC.reg ?_)))
  refine RG.ld (cs := elC e) (ty := elT) (by first | exact trivial | exact rfl) (by conv => lhs; whnf) Hp.upd_same (ldEl e) ?_
  refine RG.callP (by first | exact trivial | exact rfl) rfl (Check_ok hG e hfit) ?_
  repeat (first | refine RG.z0 ?_ | refine RG.z1 ?_ | refine RG.z2 ?_ | refine RG.z3 ?_ | refine RG.z4 ?_ | refine RG.z5 ?_ | refine RG.z6 ?_ | refine RG.z7 ?_ | refine RG.z8 ?_ | refine RG.z9 ?_ | refine RG.zA ?_ | refine RG.zB ?_ | refine RG.zC ?_)
  refine RG.nilS (AC.seq (AC.reg ?_))
  (first | refine RG.z0 ?_ | refine RG.z1 ?_ | refine RG.z2 ?_ | refine RG.z3 ?_ | refine RG.z4 ?_ | refine RG.z5 ?_ | refine RG.z6 ?_ | refine RG.z7 ?_ | refine RG.z8 ?_ | refine RG.z9 ?_ | refine RG.zA ?_ | refine RG.zB ?_ | refine RG.zC ?_)
  refine RG.p (d := .bool (!(checkF e == 0))) (by first | exact trivial | exact rfl) rfl ?_
  cases c0 : checkF e == 0
  · refine RG.nilS (AC.cond_t rfl (AC.seq (AC.reg ?_)))
    repeat (first | refine RG.z0 ?_ | refine RG.z1 ?_ | refine RG.z2 ?_ | refine RG.z3 ?_ | refine RG.z4 ?_ | refine RG.z5 ?_ | refine RG.z6 ?_ | refine RG.z7 ?_ | refine RG.z8 ?_ | refine RG.z9 ?_ | refine RG.zA ?_ | refine RG.zB ?_ | refine RG.zC ?_)
    refine RG.nilS (AC.ret (finD (H' := H) rfl (SubH.fresh hq) ⟨?_, rfl⟩))
    rw [writeF, c0]; rfl
  have hc0 : checkF e = 0 := by simpa using c0
  obtain ⟨hok, hdp⟩ := check_ok hc0
  have hpl := doc_len hc0
  refine RG.nilS (AC.cond_f rfl (AC.skip (AC.seq (AC.reg ?_))))
  refine RG.alloc (by first | exact trivial | exact rfl) fun b hb => ?_
  have hbq : b ≠ q := fun e => by rw [e, Hp.upd_same] at hb; cases hb
  have hB0 : BLD (H.upd q (some (.cells (elC e) elT))) b false [] ((H.upd q (some (.cells (elC e) elT))).upd b (some (.cells [.nilp, .nils] 43))) := .mt false hb
  have hq0 : (H.upd q (some (.cells (elC e) elT))) q = some (.cells (elC e) elT) := Hp.upd_same
  refine RG.nilS (AC.seq (AC.reg ?_))
  refine RG.call (by first | exact trivial | exact rfl) rfl (WriteString_ok (s := headF) hB0 (by decide)) (fun d H2 ⟨_, hB2⟩ => ?_) (fun _ _ h => h.elim)
  refine RG.nilS (AC.seq (AC.reg ?_))
  refine RG.ld (cs := elC e) (ty := elT) (by first | exact trivial | exact rfl) (by conv => lhs; whnf) (hB2.look hq0) (ldEl e) ?_
  refine RG.call (by first | exact trivial | exact rfl) rfl (put_ok 12 e 0 _ _ _ _ hok hdp hB2 (by simp only [List.nil_append]; have : headF.length = 21 := rfl; omega)) (fun d H3 hB3 => ?_) (fun _ _ h => h.elim)
  have hdoc : [] ++ headF ++ putF 0 e = docF e := rfl
  rw [hdoc] at hB3
  have hdl : (docF e).length ≤ 200000000 := by
    rw [docF, List.length_append]
    have : headF.length = 21 := rfl
    omega
  refine RG.nilS (AC.seq (AC.seq (AC.reg ?_)))
  refine RG.callR (by first | exact trivial | exact rfl) rfl (Len_ok hB3) ?_
  repeat (first | refine RG.z0 ?_ | refine RG.z1 ?_ | refine RG.z2 ?_ | refine RG.z3 ?_ | refine RG.z4 ?_ | refine RG.z5 ?_ | refine RG.z6 ?_ | refine RG.z7 ?_ | refine RG.z8 ?_ | refine RG.z9 ?_ | refine RG.zA ?_ | refine RG.zB ?_ | refine RG.zC ?_)
  cases c1 : decide ((((docF e).length : Nat) : Int) > 12000)
  · refine RG.nilS (AC.cond_f rfl (AC.skip (AC.seq (AC.reg ?_))))
    refine RG.callR (by first | exact trivial | exact rfl) rfl (String_ok hB3 (by omega)) ?_
    repeat (first | refine RG.z0 ?_ | refine RG.z1 ?_ | refine RG.z2 ?_ | refine RG.z3 ?_ | refine RG.z4 ?_ | refine RG.z5 ?_ | refine RG.z6 ?_ | refine RG.z7 ?_ | refine RG.z8 ?_ | refine RG.z9 ?_ | refine RG.zA ?_ | refine RG.zB ?_ | refine RG.zC ?_)
    refine RG.nilS (AC.ret (finD (H' := H) rfl (SubH.fresh hq) ⟨?_, rfl⟩))
    rw [writeF, c0, c1]; rfl
  · refine RG.nilS (AC.cond_t rfl (AC.seq (AC.reg ?_)))
    repeat (first | refine RG.z0 ?_ | refine RG.z1 ?_ | refine RG.z2 ?_ | refine RG.z3 ?_ | refine RG.z4 ?_ | refine RG.z5 ?_ | refine RG.z6 ?_ | refine RG.z7 ?_ | refine RG.z8 ?_ | refine RG.z9 ?_ | refine RG.zA ?_ | refine RG.zB ?_ | refine RG.zC ?_)
    refine RG.nilS (AC.ret (finD (H' := H) rfl ((SubH.fresh hq).trans hB3.sub) ⟨?_, rfl⟩))
    rw [writeF, c0, c1]; rfl

theorem Leaf_ok (p : Int) (n t : List UInt8) : PF Go.Proofs.Tryd.prog G 11 [.int .i64 p, .str n, .str t] (.agg (elC (.mk p n t false []))) := by
  intro H
  refine CALL.of cF11 (Nat.le_of_ble_eq_true rfl) ?_
  refine AC.seq (AC.reg ?_)
  refine RG.alloc (by first | exact trivial | exact rfl) fun q hq => ?_
  refine RG.nilS (AC.seq (AC.reg ?_))
  (first | refine RG.z0 ?_ | refine RG.z1 ?_ | refine RG.z2 ?_ | refine RG.z3 ?_ | refine RG.z4 ?_ | refine RG.z5 ?_ | refine RG.z6 ?_ | refine RG.z7 ?_ | refine RG.z8 ?_ | refine RG.z9 ?_ | refine RG.zA ?_ | refine RG.zB ?_ | refine RG.zC ?_)
  (first | refine RG.z0 ?_ | refine RG.z1 ?_ | refine RG.z2 ?_ | refine RG.z3 ?_ | refine RG.z4 ?_ | refine RG.z5 ?_ | refine RG.z6 ?_ | refine RG.z7 ?_ | refine RG.z8 ?_ | refine RG.z9 ?_ | refine RG.zA ?_ | refine RG.zB ?_ | refine RG.zC ?_)
  (first | refine RG.z0 ?_ | refine RG.z1 ?_ | refine RG.z2 ?_ | refine RG.z3 ?_ | refine RG.z4 ?_ | refine RG.z5 ?_ | refine RG.z6 ?_ | refine RG.z7 ?_ | refine RG.z8 ?_ | refine RG.z9 ?_ | refine RG.zA ?_ | refine RG.zB ?_ | refine RG.zC ?_)
  (first | refine RG.z0 ?_ | refine RG.z1 ?_ | refine RG.z2 ?_ | refine RG.z3 ?_ | refine RG.z4 ?_ | refine RG.z5 ?_ | refine RG.z6 ?_ | refine RG.z7 ?_ | refine RG.z8 ?_ | refine RG.z9 ?_ | refine RG.zA ?_ | refine RG.zB ?_ | refine RG.zC ?_)
  refine RG.sto (cs := [.int .i64 0, .str [], .str [], .bool false, .nils]) (ty := elT) (d := .agg [.int .i64 p, .str n, .str t, .bool false, .nils]) (by first | exact trivial | exact rfl) (by conv => lhs; whnf) Hp.upd_same (by exact rfl) rfl rfl (by exact Nat.le_refl _) ?_
  refine RG.nilS (AC.ret ?_)
  refine finL (ds := [.agg [.int .i64 p, .str n, .str t, .bool false, .nils]]) (d := .agg (elC (.mk p n t false []))) (H' := H) ?_ ?_ ?_ ⟨rfl, rfl⟩
  · rw [Hp.upd_upd]
    have hld : ldD (H.upd q (some (.cells [.int .i64 p, .str n, .str t, .bool false, .nils] elT))) true 5 (.ptr q 0) = some (.agg [.int .i64 p, .str n, .str t, .bool false, .nils]) := by
      unfold ldD
      dsimp only
      rw [Hp.upd_same]; rfl
    show (ldD (H.upd q (some (.cells [.int .i64 p, .str n, .str t, .bool false, .nils] elT))) true 5 (.ptr q 0)).bind _ = _
    rw [hld]; rfl
  · have : elC (.mk p n t false []) = [.int .i64 p, .str n, .str t, .bool false, .lst [] 0 5 none] := by rw [elC]; rfl
    rw [this]
    exact (DLes.cons (DLe.refl _) (.cons (DLe.refl _) (.cons (DLe.refl _) (.cons (DLe.refl _) (.cons DLe.nils .nil))))).agg
  · rw [Hp.upd_upd]; exact SubH.fresh hq
end Go.Run.Tryd
/- Letters of six bits, read. -/
namespace Go.Run.Tryd
open Go Go.Run Go.RowKit
/-! cardcase/sixbit.Decode -/
def F48 : FN := ⟨97, (.seq (.reg [⟨(some 2), none, .mv (.c (.str []))⟩,
    ⟨(some 3), none, .mv (.c (.int .i64 0))⟩])
  (.seq (.reg [⟨(some 4), none, .mv (.c .nils)⟩])
  (.seq (.reg [⟨(some 5), none, .mv (.c (.int .u32 0))⟩,
    ⟨(some 6), none, .mv (.c (.int .i64 0))⟩,
    ⟨(some 7), none, .mv (.c (.int .i64 0))⟩])
  (.seq (.reg [⟨(some 8), none, .mv (.c (.bool false))⟩])
  (.seq (.seq (.reg [⟨(some 13), none, .mv (.t 0)⟩,
    ⟨(some 14), none, .s2b 5 (.t 13)⟩,
    ⟨(some 15), none, .len false (.t 14)⟩,
    ⟨(some 16), none, .mv (.c (.int .i64 0))⟩])
  (.block 0 (.loop (.seq (.reg [⟨(some 17), none, .bin .lss (.t 16) (.t 15)⟩])
  (.seq (.cond (.t 17) .skip
  (.exit 0))
  (.seq (.block 1 (.seq (.reg [⟨(some 18), none, .iadr 1 (.t 14) (.t 16)⟩,
    ⟨(some 19), none, .ld false 1 (.t 18)⟩,
    ⟨(some 10), none, .mv (.t 19)⟩])
  (.seq (.seq (.reg [⟨(some 20), none, .mv (.t 10)⟩,
    ⟨(some 21), none, .call 72 [(.t 20)]⟩])
  (.cond (.t 21) (.exit 1)
  .skip))
  (.seq (.reg [⟨(some 22), none, .mv (.t 10)⟩,
    ⟨(some 23), none, .call 73 [(.c (.str [65, 66, 67, 68, 69, 70, 71, 72, 73, 74, 75, 76, 77, 78, 79, 80, 81, 82, 83, 84, 85, 86, 87, 88, 89, 90, 97, 98, 99, 100, 101, 102, 103, 104, 105, 106, 107, 108, 109, 110, 111, 112, 113, 114, 115, 116, 117, 118, 119, 120, 121, 122, 48, 49, 50, 51, 52, 53, 54, 55, 56, 57, 43, 47])), (.t 22)]⟩,
    ⟨(some 11), none, .mv (.t 23)⟩])
  (.seq (.block 2 (.seq (.reg [⟨(some 25), none, .mv (.t 11)⟩,
    ⟨(some 26), none, .bin .lss (.t 25) (.c (.int .i64 0))⟩,
    ⟨(some 27), none, .mv (.t 26)⟩,
    ⟨(some 28), some (27, true), .mv (.t 10)⟩,
    ⟨(some 29), some (27, true), .bin .neq (.t 28) (.c (.int .u8 61))⟩,
    ⟨(some 30), none, .pick (.t 27) (.t 29) (.c (.bool false))⟩,
    ⟨(some 24), none, .mv (.t 30)⟩])
  (.cond (.t 24) (.seq (.reg [⟨(some 2), none, .mv (.c (.str []))⟩,
    ⟨(some 3), none, .mv (.c (.int .i64 3))⟩])
  .ret)
  (.seq (.reg [⟨(some 32), none, .mv (.t 7)⟩,
    ⟨(some 33), none, .bin .gtr (.t 32) (.c (.int .i64 0))⟩,
    ⟨(some 34), none, .mv (.t 33)⟩,
    ⟨(some 35), some (34, true), .mv (.t 6)⟩,
    ⟨(some 36), some (34, true), .bin .eql (.t 35) (.c (.int .i64 0))⟩,
    ⟨(some 37), none, .pick (.t 34) (.t 36) (.c (.bool false))⟩,
    ⟨(some 31), none, .mv (.t 37)⟩])
  (.cond (.t 31) (.seq (.reg [⟨(some 2), none, .mv (.c (.str []))⟩,
    ⟨(some 3), none, .mv (.c (.int .i64 6))⟩])
  .ret)
  (.seq (.seq (.reg [⟨(some 39), none, .mv (.t 10)⟩,
    ⟨(some 40), none, .bin .eql (.t 39) (.c (.int .u8 61))⟩,
    ⟨(some 41), none, .mv (.t 40)⟩,
    ⟨(some 42), some (41, true), .mv (.t 6)⟩,
    ⟨(some 43), some (41, true), .bin .lss (.t 42) (.c (.int .i64 2))⟩,
    ⟨(some 44), none, .pick (.t 41) (.t 43) (.c (.bool false))⟩,
    ⟨(some 38), none, .mv (.t 44)⟩])
  (.cond (.t 38) .skip
  (.reg [⟨(some 45), none, .mv (.t 10)⟩,
    ⟨(some 46), none, .bin .neq (.t 45) (.c (.int .u8 61))⟩,
    ⟨(some 47), none, .mv (.t 46)⟩,
    ⟨(some 48), some (47, true), .mv (.t 7)⟩,
    ⟨(some 49), some (47, true), .bin .gtr (.t 48) (.c (.int .i64 0))⟩,
    ⟨(some 50), none, .pick (.t 47) (.t 49) (.c (.bool false))⟩,
    ⟨(some 38), none, .mv (.t 50)⟩])))
  (.cond (.t 38) (.seq (.reg [⟨(some 2), none, .mv (.c (.str []))⟩,
    ⟨(some 3), none, .mv (.c (.int .i64 3))⟩])
  .ret)
  (.seq (.reg [⟨(some 52), none, .mv (.t 10)⟩,
    ⟨(some 53), none, .bin .eql (.t 52) (.c (.int .u8 61))⟩,
    ⟨(some 51), none, .mv (.t 53)⟩])
  (.cond (.t 51) (.seq (.reg [⟨(some 54), none, .mv (.t 7)⟩,
    ⟨(some 55), none, .bin .add (.t 54) (.c (.int .i64 1))⟩,
    ⟨(some 7), none, .mv (.t 55)⟩])
  (.reg [⟨(some 11), none, .mv (.c (.int .i64 0))⟩]))
  .skip)))))))))
  (.seq (.reg [⟨(some 56), none, .mv (.t 5)⟩,
    ⟨(some 57), none, .bin .shl (.t 56) (.c (.int .u64 6))⟩,
    ⟨(some 58), none, .mv (.t 11)⟩,
    ⟨(some 59), none, .conv .u32 (.t 58)⟩,
    ⟨(some 60), none, .bin .or (.t 57) (.t 59)⟩,
    ⟨(some 5), none, .mv (.t 60)⟩])
  (.seq (.seq (.reg [⟨(some 61), none, .mv (.t 6)⟩,
    ⟨(some 62), none, .bin .add (.t 61) (.c (.int .i64 1))⟩,
    ⟨(some 6), none, .mv (.t 62)⟩])
  (.seq (.reg [⟨(some 63), none, .mv (.t 6)⟩,
    ⟨(some 64), none, .bin .lss (.t 63) (.c (.int .i64 4))⟩])
  (.cond (.t 64) (.exit 1)
  .skip)))
  (.seq (.reg [⟨(some 65), none, .mv (.t 8)⟩,
    ⟨(some 66), none, .mv (.t 65)⟩,
    ⟨(some 67), some (66, false), .mv (.t 5)⟩,
    ⟨(some 68), some (66, false), .mv (.t 7)⟩,
    ⟨(some 69), some (66, false), .bin .mul (.c (.int .i64 8)) (.t 68)⟩,
    ⟨(some 70), some (66, false), .bin .shl (.c (.int .u32 1)) (.t 69)⟩,
    ⟨(some 71), some (66, false), .bin .sub (.t 70) (.c (.int .u32 1))⟩,
    ⟨(some 72), some (66, false), .bin .and (.t 67) (.t 71)⟩,
    ⟨(some 73), some (66, false), .bin .neq (.t 72) (.c (.int .u32 0))⟩,
    ⟨(some 74), none, .pick (.t 66) (.c (.bool true)) (.t 73)⟩,
    ⟨(some 8), none, .mv (.t 74)⟩])
  (.seq (.reg [⟨(some 75), none, .mv (.t 5)⟩,
    ⟨(some 76), none, .bin .shr (.t 75) (.c (.int .u64 16))⟩,
    ⟨(some 77), none, .conv .u8 (.t 76)⟩,
    ⟨(some 78), none, .mv (.t 5)⟩,
    ⟨(some 79), none, .bin .shr (.t 78) (.c (.int .u64 8))⟩,
    ⟨(some 80), none, .conv .u8 (.t 79)⟩,
    ⟨(some 81), none, .mv (.t 5)⟩,
    ⟨(some 82), none, .conv .u8 (.t 81)⟩,
    ⟨(some 83), none, .bld [(.int .u8 0), (.int .u8 0), (.int .u8 0)] [(0, 1, (.t 77)), (1, 1, (.t 80)), (2, 1, (.t 82))]⟩,
    ⟨(some 12), none, .alloc [(.int .u8 0), (.int .u8 0), (.int .u8 0)] 84⟩,
    ⟨none, none, .st 3 (.t 12) (.t 83)⟩])
  (.seq (.reg [⟨(some 84), none, .mv (.t 4)⟩,
    ⟨(some 85), none, .mv (.t 7)⟩,
    ⟨(some 86), none, .bin .sub (.c (.int .i64 3)) (.t 85)⟩,
    ⟨(some 87), none, .slcA 3 1 (.t 12) none (some (.t 86))⟩,
    ⟨(some 88), none, .app 5 1 1 (.t 84) (.t 87)⟩,
    ⟨(some 4), none, .mv (.t 88)⟩])
  (.reg [⟨(some 5), none, .mv (.c (.int .u32 0))⟩,
    ⟨(some 6), none, .mv (.c (.int .i64 0))⟩])))))))))))
  (.reg [⟨(some 89), none, .bin .add (.t 16) (.c (.int .i64 1))⟩,
    ⟨(some 16), none, .mv (.t 89)⟩])))))))
  (.seq (.block 3 (.seq (.reg [⟨(some 91), none, .mv (.t 6)⟩,
    ⟨(some 92), none, .bin .neq (.t 91) (.c (.int .i64 0))⟩,
    ⟨(some 90), none, .mv (.t 92)⟩])
  (.cond (.t 90) (.seq (.reg [⟨(some 2), none, .mv (.c (.str []))⟩,
    ⟨(some 3), none, .mv (.c (.int .i64 1))⟩])
  .ret)
  (.seq (.reg [⟨(some 94), none, .mv (.t 8)⟩,
    ⟨(some 93), none, .mv (.t 94)⟩])
  (.cond (.t 93) (.seq (.reg [⟨(some 2), none, .mv (.c (.str []))⟩,
    ⟨(some 3), none, .mv (.c (.int .i64 3))⟩])
  .ret)
  .skip)))))
  (.seq (.reg [⟨(some 95), none, .mv (.t 4)⟩,
    ⟨(some 96), none, .b2s (.t 95)⟩,
    ⟨(some 2), none, .mv (.t 96)⟩,
    ⟨(some 3), none, .mv (.c (.int .i64 0))⟩])
  .ret))))))), [.tmp 2, .tmp 3]⟩
theorem cF48 : cFn Go.Proofs.Tryd.prog 48 = some F48 := by kernel_rfl
variable {G : Gl}

/-- A row of bytes of the call's own, beside the rest. -/
inductive BUF (H0 : Hp) : List UInt8 → DV → Hp → Prop
  | nil : BUF H0 [] .nils H0
  | on (g : Nat) (bs : List UInt8) : H0 g = none → bs ≠ [] → BUF H0 bs (.lst (bs.map B8) bs.length 1 (some (g, 0))) (H0.upd g (some (.front bs.length 1 5)))

theorem BUF.sub {H0 H : Hp} {bs : List UInt8} {d : DV} (h : BUF H0 bs d H) : SubH H0 H := by
  cases h with
  | nil => exact SubH.refl _
  | on g bs h1 h2 => exact SubH.fresh h1

theorem BUF.put {H0 H : Hp} {q : Nat} {bs : List UInt8} {d : DV} {o : Option DO} (h : BUF H0 bs d H) (hq : H q = none) : BUF (H0.upd q o) bs d (H.upd q o) := by
  cases h with
  | nil => exact .nil
  | on g bs h1 h2 =>
    have hqg : q ≠ g := fun e => by rw [e, Hp.upd_same] at hq; cases hq
    rw [Hp.upd_comm (Ne.symm hqg)]
    exact .on g bs (by rw [Hp.upd_ne (Ne.symm hqg)]; exact h1) h2

theorem BUF.take {H0 H : Hp} {q : Nat} {bs : List UInt8} {d : DV} {o : DO} (h : BUF (H0.upd q (some o)) bs d H) (hq : H0 q = none) : ∃ H', BUF H0 bs d H' ∧ SubH H' H := by
  cases h with
  | nil => exact ⟨_, .nil, SubH.fresh hq⟩
  | on g bs h1 h2 =>
    have hgq : g ≠ q := fun e => by rw [e, Hp.upd_same] at h1; cases h1
    rw [Hp.upd_ne hgq] at h1
    refine ⟨_, .on g bs h1 h2, ?_⟩
    rw [Hp.upd_comm (Ne.symm hgq)]
    exact SubH.fresh (by rw [Hp.upd_ne (Ne.symm hgq)]; exact hq)

theorem BUF.base {H0 H : Hp} {q : Nat} {bs : List UInt8} {d : DV} (h : BUF H0 bs d H) (hq : H q = none) : H0 q = none := by
  cases e : H0 q with
  | none => rfl
  | some o => rw [h.sub q o e] at hq; cases hq

theorem BUF.app {H0 H : Hp} {bs ys : List UInt8} {d : DV} {N : Nat} {x y : X} {dst : Option Nat} {l : List Ins} {Q : EX → Fr → Hp → Prop} {fr : Fr} (h : BUF H0 bs d H) (hlen : bs.length + ys.length ≤ 140737488355328) (hys : ys ≠ [])
    (hx : XV G fr x = d) (hy : srcD H 1 (XV G fr y) = some (ys.map B8, ys.length)) (k : ∀ d' H', BUF H0 (bs ++ ys) d' H' → RG Go.Proofs.Tryd.prog G none N l Q (fr.put dst d') H') :
    RG Go.Proofs.Tryd.prog G none N (⟨dst, none, .app 5 1 1 x y⟩ :: l) Q fr H := by
  have hpos : 0 < ys.length := List.length_pos_iff.2 hys
  cases h with
  | nil =>
    refine RG.st (ST.app_new (.inl hx) hy hpos (by simp at hlen; omega) fun g hg => ?_)
    exact k _ _ (.on g ys hg hys)
  | on g _ h1 h2 =>
    refine RG.st (ST.app_own hx Hp.upd_same hy (by omega) fun g' hg' => ?_)
    have hg2 : H0 g' = none := by
      rcases hg' with rfl | hg'
      · exact h1
      · by_cases e : g' = g
        · rw [e]; exact h1
        · rw [Hp.upd_ne e] at hg'; exact hg'
    rw [Hp.upd_upd, Hp.upd_id h1, ← List.map_append, ← List.length_append]
    exact k _ _ (.on g' (bs ++ ys) hg2 (by simp [h2]))

theorem shl6 (w : Nat) : shI .shl .u32 (w : Int) 6 = some (.int .u32 ((w * 64 % 4294967296 : Nat) : Int)) := by
  show some (DV.int .u32 (IntKind.u32.wrap ((w : Int) * 2 ^ 6))) = _
  rw [IntKind.wrap_u32]
  congr 2
theorem u8_conv (n : Nat) : convD .u8 (.int .u32 (n : Int)) = some (B8 (UInt8.ofNat n)) := by
  show some (DV.int .u8 (IntKind.u8.wrap (n : Int))) = _
  rw [IntKind.wrap_u8, B8, UInt8.toNat_ofNat']
  congr 2
theorem mask_u32 (w g : Nat) (hw : w < 4294967296) (hg : g ≤ 2) : w &&& (2 ^ (8 * g) - 1) = w % 2 ^ (8 * g) := Nat.and_two_pow_sub_one_eq_mod w (8 * g)

theorem at64_lt (c : UInt8) (h : ¬ at64 c < 0) : (at64 c).toNat < 64 := by
  have key : ∀ (l : List UInt8), Lib.indexByte l c < l.length ∨ Lib.indexByte l c = -1 := by
    intro l
    induction l with
    | nil => right; rfl
    | cons b l ih =>
      unfold Lib.indexByte
      split
      · left; simp
      · split
        · right; rfl
        · rename_i h1
          left
          have : Lib.indexByte l c ≠ -1 := by simpa using h1
          simp only [List.length_cons]
          rcases ih with ih | ih
          · omega
          · exact absurd ih this
  rcases key letters64 with h1 | h1
  · have h2 : letters64.length = 64 := rfl
    unfold at64 at h ⊢
    omega
  · unfold at64 at h; omega

def decX (c : CC) : CC := ccSnd (ccSnd (ccSnd (ccSnd c)))
def decRest (c : CC) : CC := ccSnd (decX c)
def decLoop (c : CC) : CC := ccIn (ccIn (ccSnd (ccFst (decX c))))
def decTail (c : CC) : CC := ccSnd (ccSnd (ccSnd (ccSnd (ccIn (ccFst (ccSnd (ccSnd (decLoop c))))))))

structure DS where
  i : Nat
  b : List UInt8
  d : DV
  w : Nat
  n : Nat
  g : Nat
  odd : Bool

def DS.L (s : List UInt8) (a : DS) : List (Nat × DV) := [(4, a.d), (5, .int .u32 a.w), (6, .int .i64 a.n), (7, .int .i64 a.g), (8, .bool a.odd), (14, .lst (s.map B8) s.length 1 none), (15, .int .i64 s.length), (16, .int .i64 a.i)]
structure DS.ok (H : Hp) (s : List UInt8) (a : DS) (H' : Hp) : Prop where
  buf : BUF H a.b a.d H'
  le : a.i ≤ s.length
  eq : decF s = decGo (s.drop a.i) a.b a.w a.n a.g a.odd
  w : a.w < 4294967296
  n : a.n < 4
  g : a.g ≤ 2
  n1 : a.n = 1 → a.g = 0
  n2 : a.n = 2 → a.g = 0
  n3 : a.n = 3 → a.g ≤ 1
  len : a.b.length ≤ 3 * a.i

theorem Decode_ok (s : List UInt8) (hs : s.length ≤ 10000000000000) : PF Go.Proofs.Tryd.prog G 48 [.str s] (.tup [.str (decF s).1, .int .i64 (decF s).2]) := by
  intro H
  refine CALL.of cF48 (Nat.le_of_ble_eq_true rfl) ?_
  refine AC.seq (AC.reg ?_)
  repeat (first | refine RG.z0 ?_ | refine RG.z1 ?_ | refine RG.z2 ?_ | refine RG.z3 ?_ | refine RG.z4 ?_ | refine RG.z5 ?_ | refine RG.z6 ?_ | refine RG.z7 ?_ | refine RG.z8 ?_ | refine RG.z9 ?_ | refine RG.zA ?_ | refine RG.zB ?_ | refine RG.zC ?_)
  refine RG.nilS (AC.seq (AC.reg ?_))
  repeat (first | refine RG.z0 ?_ | refine RG.z1 ?_ | refine RG.z2 ?_ | refine RG.z3 ?_ | refine RG.z4 ?_ | refine RG.z5 ?_ | refine RG.z6 ?_ | refine RG.z7 ?_ | refine RG.z8 ?_ | refine RG.z9 ?_ | refine RG.zA ?_ | refine RG.zB ?_ | refine RG.zC ?_)
  refine RG.nilS (AC.seq (AC.reg ?_))
  repeat (first | refine RG.z0 ?_ | refine RG.z1 ?_ | refine RG.z2 ?_ | refine RG.z3 ?_ | refine RG.z4 ?_ | refine RG.z5 ?_ | refine RG.z6 ?_ | refine RG.z7 ?_ | refine RG.z8 ?_ | refine RG.z9 ?_ | refine RG.zA ?_ | refine RG.zB ?_ | refine RG.zC ?_)
  refine RG.nilS (AC.seq (AC.reg ?_))
  repeat (first | refine RG.z0 ?_ | refine RG.z1 ?_ | refine RG.z2 ?_ | refine RG.z3 ?_ | refine RG.z4 ?_ | refine RG.z5 ?_ | refine RG.z6 ?_ | refine RG.z7 ?_ | refine RG.z8 ?_ | refine RG.z9 ?_ | refine RG.zA ?_ | refine RG.zB ?_ | refine RG.zC ?_)
  refine RG.nilS (AC.seq (AC.seq (AC.reg ?_)))
  (first | refine RG.z0 ?_ | refine RG.z1 ?_ | refine RG.z2 ?_ | refine RG.z3 ?_ | refine RG.z4 ?_ | refine RG.z5 ?_ | refine RG.z6 ?_ | refine RG.z7 ?_ | refine RG.z8 ?_ | refine RG.z9 ?_ | refine RG.zA ?_ | refine RG.zB ?_ | refine RG.zC ?_)
  refine RG.s (by first | exact trivial | exact rfl) (ST.s2b rfl ?_)
  repeat (first | refine RG.z0 ?_ | refine RG.z1 ?_ | refine RG.z2 ?_ | refine RG.z3 ?_ | refine RG.z4 ?_ | refine RG.z5 ?_ | refine RG.z6 ?_ | refine RG.z7 ?_ | refine RG.z8 ?_ | refine RG.z9 ?_ | refine RG.zA ?_ | refine RG.zB ?_ | refine RG.zC ?_)
  refine RG.nilS ?_
  have bad : ∀ {v : List UInt8 × Int}, decF s = v → ∀ {fr : Fr} {H' : Hp}, SubH H H' → fr 2 = .str v.1 → fr 3 = .int .i64 v.2 → Fin F48.rs (fun d' H' => d' = .tup [.str (decF s).1, .int .i64 (decF s).2] ∧ H' = H) (fun _ _ => False) .ret fr H' := by
    intro v hv fr H' hsub h2 h3
    refine finD (H' := H) (ds := [.str v.1, .int .i64 v.2]) ?_ hsub ⟨by rw [hv]; rfl, rfl⟩
    show some [fr 2, fr 3] = _
    rw [h2, h3]
  refine AC.bloopH (α := DS) (β := DS) (fun a => s.length - a.i) (DS.L s) (DS.ok H s) (fun a => [(4, a.d), (6, .int .i64 a.n), (8, .bool a.odd)]) (fun a H' => DS.ok H s a H' ∧ a.i = s.length) ?_ ?_ ⟨0, [], .nils, 0, 0, 0, false⟩ _
    ⟨.nil, Nat.zero_le _, rfl, by simp, by simp, by simp, by simp, by simp, by simp, by simp⟩ ⟨rfl, rfl, rfl, rfl, rfl, rfl, rfl, rfl, trivial⟩
  · rintro ⟨ai, ab, ad, aw, an, ag, ao⟩ He fr ⟨hok, hi⟩ hfr
    have heq := hok.eq
    have hsub := hok.buf.sub
    have hb := hok.buf
    dsimp only at hi heq hfr hb
    rw [hi, List.drop_length, decGo] at heq
    refine AC.to _ hfr (AC.seq (AC.block (AC.seq (AC.reg ?_))))
    (first | refine RG.z0 ?_ | refine RG.z1 ?_ | refine RG.z2 ?_ | refine RG.z3 ?_ | refine RG.z4 ?_ | refine RG.z5 ?_ | refine RG.z6 ?_ | refine RG.z7 ?_ | refine RG.z8 ?_ | refine RG.z9 ?_ | refine RG.zA ?_ | refine RG.zB ?_ | refine RG.zC ?_)
    refine RG.p (d := .bool (!(an == 0))) (by first | exact trivial | exact rfl) (by
      show some (DV.bool ((an : Int) != 0)) = _
      congr 2
      rw [bne]; congr 1
      rw [Bool.eq_iff_iff, beq_iff_eq, beq_iff_eq]; omega) ?_
    (first | refine RG.z0 ?_ | refine RG.z1 ?_ | refine RG.z2 ?_ | refine RG.z3 ?_ | refine RG.z4 ?_ | refine RG.z5 ?_ | refine RG.z6 ?_ | refine RG.z7 ?_ | refine RG.z8 ?_ | refine RG.z9 ?_ | refine RG.zA ?_ | refine RG.zB ?_ | refine RG.zC ?_)
    cases e1 : an == 0
    · rw [e1] at heq
      refine RG.nilS (AC.cond_t rfl (AC.seq (AC.reg ?_)))
      repeat (first | refine RG.z0 ?_ | refine RG.z1 ?_ | refine RG.z2 ?_ | refine RG.z3 ?_ | refine RG.z4 ?_ | refine RG.z5 ?_ | refine RG.z6 ?_ | refine RG.z7 ?_ | refine RG.z8 ?_ | refine RG.z9 ?_ | refine RG.zA ?_ | refine RG.zB ?_ | refine RG.zC ?_)
      exact RG.nilS (AC.ret (bad heq hsub rfl rfl))
    rw [e1] at heq
    refine RG.nilS (AC.cond_f rfl (AC.seq (AC.reg ?_)))
    repeat (first | refine RG.z0 ?_ | refine RG.z1 ?_ | refine RG.z2 ?_ | refine RG.z3 ?_ | refine RG.z4 ?_ | refine RG.z5 ?_ | refine RG.z6 ?_ | refine RG.z7 ?_ | refine RG.z8 ?_ | refine RG.z9 ?_ | refine RG.zA ?_ | refine RG.zB ?_ | refine RG.zC ?_)
    cases e2 : ao
    · rw [e2] at heq
      refine RG.nilS (AC.cond_f rfl (AC.skip ?_))
      cases hb with
      | nil =>
        refine AC.seq (AC.reg ?_)
        (first | refine RG.z0 ?_ | refine RG.z1 ?_ | refine RG.z2 ?_ | refine RG.z3 ?_ | refine RG.z4 ?_ | refine RG.z5 ?_ | refine RG.z6 ?_ | refine RG.z7 ?_ | refine RG.z8 ?_ | refine RG.z9 ?_ | refine RG.zA ?_ | refine RG.zB ?_ | refine RG.zC ?_)
        refine RG.st (ST.b2s_nil rfl ?_)
        repeat (first | refine RG.z0 ?_ | refine RG.z1 ?_ | refine RG.z2 ?_ | refine RG.z3 ?_ | refine RG.z4 ?_ | refine RG.z5 ?_ | refine RG.z6 ?_ | refine RG.z7 ?_ | refine RG.z8 ?_ | refine RG.z9 ?_ | refine RG.zA ?_ | refine RG.zB ?_ | refine RG.zC ?_)
        exact RG.nilS (AC.ret (bad heq hsub rfl rfl))
      | on g bs h1 h2 =>
        refine AC.seq (AC.reg ?_)
        (first | refine RG.z0 ?_ | refine RG.z1 ?_ | refine RG.z2 ?_ | refine RG.z3 ?_ | refine RG.z4 ?_ | refine RG.z5 ?_ | refine RG.z6 ?_ | refine RG.z7 ?_ | refine RG.z8 ?_ | refine RG.z9 ?_ | refine RG.zA ?_ | refine RG.zB ?_ | refine RG.zC ?_)
        refine RG.st (ST.b2s rfl ?_)
        repeat (first | refine RG.z0 ?_ | refine RG.z1 ?_ | refine RG.z2 ?_ | refine RG.z3 ?_ | refine RG.z4 ?_ | refine RG.z5 ?_ | refine RG.z6 ?_ | refine RG.z7 ?_ | refine RG.z8 ?_ | refine RG.z9 ?_ | refine RG.zA ?_ | refine RG.zB ?_ | refine RG.zC ?_)
        exact RG.nilS (AC.ret (bad heq hsub rfl rfl))
    · rw [e2] at heq
      refine RG.nilS (AC.cond_t rfl (AC.seq (AC.reg ?_)))
      repeat (first | refine RG.z0 ?_ | refine RG.z1 ?_ | refine RG.z2 ?_ | refine RG.z3 ?_ | refine RG.z4 ?_ | refine RG.z5 ?_ | refine RG.z6 ?_ | refine RG.z7 ?_ | refine RG.z8 ?_ | refine RG.z9 ?_ | refine RG.zA ?_ | refine RG.zB ?_ | refine RG.zC ?_)
      exact RG.nilS (AC.ret (bad heq hsub rfl rfl))
  · rintro ⟨i, b, d, w, n, g, odd⟩ H' hok ih ex
    have heq := hok.eq
    have hbuf := hok.buf
    have hsub := hok.buf.sub
    have hw := hok.w; have hn := hok.n; have hg := hok.g; have hn1 := hok.n1; have hn2 := hok.n2; have hn3 := hok.n3; have hlen := hok.len; have hle := hok.le
    dsimp only at heq hbuf hw hn hg hn1 hn2 hn3 hlen hle ih
    rw [show DS.L s ⟨i, b, d, w, n, g, odd⟩ = [(4, d), (5, .int .u32 (w : Int)), (6, .int .i64 (n : Int)), (7, .int .i64 (g : Int)), (8, .bool odd), (14, .lst (s.map B8) s.length 1 none), (15, .int .i64 (s.length : Int)), (16, .int .i64 (i : Int))] from rfl]
    refine AC.seq (AC.reg ?_)
    repeat (first | refine RG.z0 ?_ | refine RG.z1 ?_ | refine RG.z2 ?_ | refine RG.z3 ?_ | refine RG.z4 ?_ | refine RG.z5 ?_ | refine RG.z6 ?_ | refine RG.z7 ?_ | refine RG.z8 ?_ | refine RG.z9 ?_ | refine RG.zA ?_ | refine RG.zB ?_ | refine RG.zC ?_)
    cases e1 : decide ((i : Int) < s.length)
    · have e := of_decide_eq_false e1
      exact RG.nilS (AC.seq (AC.cond_f rfl (AC.exit (ex ⟨i, b, d, w, n, g, odd⟩ _ _ ⟨hok, by dsimp only; omega⟩ ⟨rfl, rfl, rfl, trivial⟩))))
    have e := of_decide_eq_true e1
    have hi : i < s.length := by omega
    rw [List.drop_eq_getElem_cons hi] at heq
    refine RG.nilS (AC.seq (AC.cond_t rfl (AC.skip (AC.seq (AC.block (AC.seq (AC.reg ?_)))))))
    refine RG.p (by first | exact trivial | exact rfl) (evP_iadr (by conv => lhs; whnf) (by conv => lhs; whnf) (by omega)) ?_
    refine RG.p (by first | exact trivial | exact rfl) (evP_ldc (by conv => lhs; whnf) (partD_one (d := B8 s[i]) (by simp [hi]))) ?_
    repeat (first | refine RG.z0 ?_ | refine RG.z1 ?_ | refine RG.z2 ?_ | refine RG.z3 ?_ | refine RG.z4 ?_ | refine RG.z5 ?_ | refine RG.z6 ?_ | refine RG.z7 ?_ | refine RG.z8 ?_ | refine RG.z9 ?_ | refine RG.zA ?_ | refine RG.zB ?_ | refine RG.zC ?_)
    generalize s[i] = c at heq
    have next : ∀ (b' : List UInt8) (d' : DV) (w' n' g' : Nat) (odd' : Bool) (H2 : Hp) (fr : Fr), DS.ok H s ⟨i + 1, b', d', w', n', g', odd'⟩ H2 → Agrees fr [(4, d'), (5, .int .u32 w'), (6, .int .i64 n'), (7, .int .i64 g'), (8, .bool odd'), (14, .lst (s.map B8) s.length 1 none), (15, .int .i64 s.length), (16, .int .i64 i)] →
        AC Go.Proofs.Tryd.prog G none F48.N (.reg [⟨(some 89), none, .bin .add (.t 16) (.c (.int .i64 1))⟩, ⟨(some 16), none, .mv (.t 89)⟩]) (Sq Go.Proofs.Tryd.prog G none F48.N (.loop (decLoop F48.c)) (Bk 0 (Sq Go.Proofs.Tryd.prog G none F48.N (decRest F48.c) (Fin F48.rs (fun d' H' => d' = .tup [.str (decF s).1, .int .i64 (decF s).2] ∧ H' = H) (fun _ _ => False))))) fr H2 := by
      intro b' d' w' n' g' odd' H2 fr hok2 hfr
      refine AC.to _ hfr (AC.reg ?_)
      repeat (first | refine RG.z0 ?_ | refine RG.z1 ?_ | refine RG.z2 ?_ | refine RG.z3 ?_ | refine RG.z4 ?_ | refine RG.z5 ?_ | refine RG.z6 ?_ | refine RG.z7 ?_ | refine RG.z8 ?_ | refine RG.z9 ?_ | refine RG.zA ?_ | refine RG.zB ?_ | refine RG.zC ?_)
      exact RG.nil (ih ⟨i + 1, b', d', w', n', g', odd'⟩ _ hok2 (by dsimp only; omega) _ ⟨rfl, rfl, rfl, rfl, rfl, rfl, rfl, rfl, trivial⟩)
    rw [decGo] at heq
    refine RG.nilS (AC.seq (AC.seq (AC.reg ?_)))
    (first | refine RG.z0 ?_ | refine RG.z1 ?_ | refine RG.z2 ?_ | refine RG.z3 ?_ | refine RG.z4 ?_ | refine RG.z5 ?_ | refine RG.z6 ?_ | refine RG.z7 ?_ | refine RG.z8 ?_ | refine RG.z9 ?_ | refine RG.zA ?_ | refine RG.zB ?_ | refine RG.zC ?_)
    refine RG.callP (by first | exact trivial | exact rfl) rfl (passed_ok c) ?_
    cases c0 : isWs c
    case true =>
      rw [c0, cond_true] at heq
      refine RG.nilS (AC.cond_t rfl (AC.exit ?_))
      exact next b d w n g odd H' _ ⟨hbuf, by dsimp only; omega, heq, hw, hn, hg, hn1, hn2, hn3, by dsimp only; omega⟩ ⟨rfl, rfl, rfl, rfl, rfl, rfl, rfl, rfl, trivial⟩
    rw [c0, cond_false] at heq
    refine RG.nilS (AC.cond_f rfl (AC.skip (AC.seq (AC.reg ?_))))
    (first | refine RG.z0 ?_ | refine RG.z1 ?_ | refine RG.z2 ?_ | refine RG.z3 ?_ | refine RG.z4 ?_ | refine RG.z5 ?_ | refine RG.z6 ?_ | refine RG.z7 ?_ | refine RG.z8 ?_ | refine RG.z9 ?_ | refine RG.zA ?_ | refine RG.zB ?_ | refine RG.zC ?_)
    refine RG.callP (d := .int .i64 (at64 c)) (by first | exact trivial | exact rfl) rfl (indexByte_ok letters64 c) ?_
    repeat (first | refine RG.z0 ?_ | refine RG.z1 ?_ | refine RG.z2 ?_ | refine RG.z3 ?_ | refine RG.z4 ?_ | refine RG.z5 ?_ | refine RG.z6 ?_ | refine RG.z7 ?_ | refine RG.z8 ?_ | refine RG.z9 ?_ | refine RG.zA ?_ | refine RG.zB ?_ | refine RG.zC ?_)
    have q61 : ((c.toNat : Int) == 61) = (c == 61) := u8eq c 61
    have q61n : ((c.toNat : Int) != 61) = !(c == 61) := by rw [bne, q61]
    generalize hLL : ([(4, d), (5, .int .u32 (w : Int)), (6, .int .i64 (n : Int)), (7, .int .i64 (g : Int)), (8, .bool odd), (10, B8 c), (11, .int .i64 (at64 c)), (14, .lst (s.map B8) s.length 1 none), (15, .int .i64 (s.length : Int)), (16, .int .i64 (i : Int))] : List (Nat × DV)) = LL
    refine RG.nilS (AC.seq (AC.block (AC.seqA (l := (24, .bool (decide (at64 c < 0) && !(c == 61))) :: LL) (H' := H') (AC.reg ?_) ?_)))
    · subst hLL
      repeat (first | refine RG.z0 ?_ | refine RG.z1 ?_ | refine RG.z2 ?_ | refine RG.z3 ?_ | refine RG.z4 ?_ | refine RG.z5 ?_ | refine RG.z6 ?_ | refine RG.z7 ?_ | refine RG.z8 ?_ | refine RG.z9 ?_ | refine RG.zA ?_ | refine RG.zB ?_ | refine RG.zC ?_)
      cases c1 : decide (at64 c < 0)
      · repeat (first | refine RG.z0 ?_ | refine RG.z1 ?_ | refine RG.z2 ?_ | refine RG.z3 ?_ | refine RG.z4 ?_ | refine RG.z5 ?_ | refine RG.z6 ?_ | refine RG.z7 ?_ | refine RG.z8 ?_ | refine RG.z9 ?_ | refine RG.zA ?_ | refine RG.zB ?_ | refine RG.zC ?_)
        exact RG.nil ⟨rfl, rfl, rfl, rfl, rfl, rfl, rfl, rfl, rfl, rfl, rfl, rfl, trivial⟩
      · repeat (first | refine RG.z0 ?_ | refine RG.z1 ?_ | refine RG.z2 ?_ | refine RG.z3 ?_ | refine RG.z4 ?_ | refine RG.z5 ?_ | refine RG.z6 ?_ | refine RG.z7 ?_ | refine RG.z8 ?_ | refine RG.z9 ?_ | refine RG.zA ?_ | refine RG.zB ?_ | refine RG.zC ?_)
        rw [q61n]
        exact RG.nil ⟨rfl, rfl, rfl, rfl, rfl, rfl, rfl, rfl, rfl, rfl, rfl, rfl, trivial⟩
    cases c1 : (decide (at64 c < 0) && !(c == 61))
    case true =>
      rw [c1, cond_true] at heq
      refine AC.cond_t rfl (AC.seq (AC.reg ?_))
      repeat (first | refine RG.z0 ?_ | refine RG.z1 ?_ | refine RG.z2 ?_ | refine RG.z3 ?_ | refine RG.z4 ?_ | refine RG.z5 ?_ | refine RG.z6 ?_ | refine RG.z7 ?_ | refine RG.z8 ?_ | refine RG.z9 ?_ | refine RG.zA ?_ | refine RG.zB ?_ | refine RG.zC ?_)
      exact RG.nilS (AC.ret (bad heq hsub rfl rfl))
    rw [c1, cond_false] at heq
    refine AC.cond_f rfl (AC.seqA (l := (31, .bool (decide (0 < g) && n == 0)) :: LL) (H' := H') (AC.reg ?_) ?_)
    · subst hLL
      (first | refine RG.z0 ?_ | refine RG.z1 ?_ | refine RG.z2 ?_ | refine RG.z3 ?_ | refine RG.z4 ?_ | refine RG.z5 ?_ | refine RG.z6 ?_ | refine RG.z7 ?_ | refine RG.z8 ?_ | refine RG.z9 ?_ | refine RG.zA ?_ | refine RG.zB ?_ | refine RG.zC ?_)
      refine RG.p (d := .bool (decide (0 < g))) (by first | exact trivial | exact rfl) (by
        show some (DV.bool (decide ((g : Int) > 0))) = _
        congr 2
        rw [decide_eq_decide]; omega) ?_
      cases c2 : decide (0 < g)
      · repeat (first | refine RG.z0 ?_ | refine RG.z1 ?_ | refine RG.z2 ?_ | refine RG.z3 ?_ | refine RG.z4 ?_ | refine RG.z5 ?_ | refine RG.z6 ?_ | refine RG.z7 ?_ | refine RG.z8 ?_ | refine RG.z9 ?_ | refine RG.zA ?_ | refine RG.zB ?_ | refine RG.zC ?_)
        exact RG.nil ⟨rfl, rfl, rfl, rfl, rfl, rfl, rfl, rfl, rfl, rfl, rfl, rfl, trivial⟩
      · (first | refine RG.z0 ?_ | refine RG.z1 ?_ | refine RG.z2 ?_ | refine RG.z3 ?_ | refine RG.z4 ?_ | refine RG.z5 ?_ | refine RG.z6 ?_ | refine RG.z7 ?_ | refine RG.z8 ?_ | refine RG.z9 ?_ | refine RG.zA ?_ | refine RG.zB ?_ | refine RG.zC ?_)
        (first | refine RG.z0 ?_ | refine RG.z1 ?_ | refine RG.z2 ?_ | refine RG.z3 ?_ | refine RG.z4 ?_ | refine RG.z5 ?_ | refine RG.z6 ?_ | refine RG.z7 ?_ | refine RG.z8 ?_ | refine RG.z9 ?_ | refine RG.zA ?_ | refine RG.zB ?_ | refine RG.zC ?_)
        refine RG.p (d := .bool (n == 0)) (by first | exact trivial | exact rfl) (by
          show some (DV.bool ((n : Int) == 0)) = _
          congr 2
          rw [Bool.eq_iff_iff]; simp) ?_
        repeat (first | refine RG.z0 ?_ | refine RG.z1 ?_ | refine RG.z2 ?_ | refine RG.z3 ?_ | refine RG.z4 ?_ | refine RG.z5 ?_ | refine RG.z6 ?_ | refine RG.z7 ?_ | refine RG.z8 ?_ | refine RG.z9 ?_ | refine RG.zA ?_ | refine RG.zB ?_ | refine RG.zC ?_)
        exact RG.nil ⟨rfl, rfl, rfl, rfl, rfl, rfl, rfl, rfl, rfl, rfl, rfl, rfl, trivial⟩
    cases c2 : (decide (0 < g) && n == 0)
    case true =>
      rw [c2, cond_true] at heq
      refine AC.cond_t rfl (AC.seq (AC.reg ?_))
      repeat (first | refine RG.z0 ?_ | refine RG.z1 ?_ | refine RG.z2 ?_ | refine RG.z3 ?_ | refine RG.z4 ?_ | refine RG.z5 ?_ | refine RG.z6 ?_ | refine RG.z7 ?_ | refine RG.z8 ?_ | refine RG.z9 ?_ | refine RG.zA ?_ | refine RG.zB ?_ | refine RG.zC ?_)
      exact RG.nilS (AC.ret (bad heq hsub rfl rfl))
    rw [c2, cond_false] at heq
    refine AC.cond_f rfl (AC.seqA (l := (38, .bool ((c == 61 && decide (n < 2)) || (!(c == 61) && decide (0 < g)))) :: LL) (H' := H') (AC.seq (AC.reg ?_)) ?_)
    · subst hLL
      (first | refine RG.z0 ?_ | refine RG.z1 ?_ | refine RG.z2 ?_ | refine RG.z3 ?_ | refine RG.z4 ?_ | refine RG.z5 ?_ | refine RG.z6 ?_ | refine RG.z7 ?_ | refine RG.z8 ?_ | refine RG.z9 ?_ | refine RG.zA ?_ | refine RG.zB ?_ | refine RG.zC ?_)
      refine RG.p (d := .bool (c == 61)) (by first | exact trivial | exact rfl) (by show some (DV.bool ((c.toNat : Int) == 61)) = _; rw [q61]) ?_
      cases c3 : c == 61
      · repeat (first | refine RG.z0 ?_ | refine RG.z1 ?_ | refine RG.z2 ?_ | refine RG.z3 ?_ | refine RG.z4 ?_ | refine RG.z5 ?_ | refine RG.z6 ?_ | refine RG.z7 ?_ | refine RG.z8 ?_ | refine RG.z9 ?_ | refine RG.zA ?_ | refine RG.zB ?_ | refine RG.zC ?_)
        refine RG.nilS (AC.cond_f rfl (AC.reg ?_))
        (first | refine RG.z0 ?_ | refine RG.z1 ?_ | refine RG.z2 ?_ | refine RG.z3 ?_ | refine RG.z4 ?_ | refine RG.z5 ?_ | refine RG.z6 ?_ | refine RG.z7 ?_ | refine RG.z8 ?_ | refine RG.z9 ?_ | refine RG.zA ?_ | refine RG.zB ?_ | refine RG.zC ?_)
        refine RG.p (d := .bool true) (by first | exact trivial | exact rfl) (by show some (DV.bool ((c.toNat : Int) != 61)) = _; rw [q61n, c3]; rfl) ?_
        (first | refine RG.z0 ?_ | refine RG.z1 ?_ | refine RG.z2 ?_ | refine RG.z3 ?_ | refine RG.z4 ?_ | refine RG.z5 ?_ | refine RG.z6 ?_ | refine RG.z7 ?_ | refine RG.z8 ?_ | refine RG.z9 ?_ | refine RG.zA ?_ | refine RG.zB ?_ | refine RG.zC ?_)
        (first | refine RG.z0 ?_ | refine RG.z1 ?_ | refine RG.z2 ?_ | refine RG.z3 ?_ | refine RG.z4 ?_ | refine RG.z5 ?_ | refine RG.z6 ?_ | refine RG.z7 ?_ | refine RG.z8 ?_ | refine RG.z9 ?_ | refine RG.zA ?_ | refine RG.zB ?_ | refine RG.zC ?_)
        refine RG.p (d := .bool (decide (0 < g))) (by first | exact trivial | exact rfl) (by
          show some (DV.bool (decide ((g : Int) > 0))) = _
          congr 2
          rw [decide_eq_decide]; omega) ?_
        repeat (first | refine RG.z0 ?_ | refine RG.z1 ?_ | refine RG.z2 ?_ | refine RG.z3 ?_ | refine RG.z4 ?_ | refine RG.z5 ?_ | refine RG.z6 ?_ | refine RG.z7 ?_ | refine RG.z8 ?_ | refine RG.z9 ?_ | refine RG.zA ?_ | refine RG.zB ?_ | refine RG.zC ?_)
        exact RG.nil ⟨rfl, rfl, rfl, rfl, rfl, rfl, rfl, rfl, rfl, rfl, rfl, rfl, trivial⟩
      · (first | refine RG.z0 ?_ | refine RG.z1 ?_ | refine RG.z2 ?_ | refine RG.z3 ?_ | refine RG.z4 ?_ | refine RG.z5 ?_ | refine RG.z6 ?_ | refine RG.z7 ?_ | refine RG.z8 ?_ | refine RG.z9 ?_ | refine RG.zA ?_ | refine RG.zB ?_ | refine RG.zC ?_)
        (first | refine RG.z0 ?_ | refine RG.z1 ?_ | refine RG.z2 ?_ | refine RG.z3 ?_ | refine RG.z4 ?_ | refine RG.z5 ?_ | refine RG.z6 ?_ | refine RG.z7 ?_ | refine RG.z8 ?_ | refine RG.z9 ?_ | refine RG.zA ?_ | refine RG.zB ?_ | refine RG.zC ?_)
        refine RG.p (d := .bool (decide (n < 2))) (by first | exact trivial | exact rfl) (by
          show some (DV.bool (decide ((n : Int) < 2))) = _
          congr 2
          rw [decide_eq_decide]; omega) ?_
        cases c4 : decide (n < 2)
        · repeat (first | refine RG.z0 ?_ | refine RG.z1 ?_ | refine RG.z2 ?_ | refine RG.z3 ?_ | refine RG.z4 ?_ | refine RG.z5 ?_ | refine RG.z6 ?_ | refine RG.z7 ?_ | refine RG.z8 ?_ | refine RG.z9 ?_ | refine RG.zA ?_ | refine RG.zB ?_ | refine RG.zC ?_)
          refine RG.nilS (AC.cond_f rfl (AC.reg ?_))
          (first | refine RG.z0 ?_ | refine RG.z1 ?_ | refine RG.z2 ?_ | refine RG.z3 ?_ | refine RG.z4 ?_ | refine RG.z5 ?_ | refine RG.z6 ?_ | refine RG.z7 ?_ | refine RG.z8 ?_ | refine RG.z9 ?_ | refine RG.zA ?_ | refine RG.zB ?_ | refine RG.zC ?_)
          refine RG.p (d := .bool false) (by first | exact trivial | exact rfl) (by show some (DV.bool ((c.toNat : Int) != 61)) = _; rw [q61n, c3]; rfl) ?_
          repeat (first | refine RG.z0 ?_ | refine RG.z1 ?_ | refine RG.z2 ?_ | refine RG.z3 ?_ | refine RG.z4 ?_ | refine RG.z5 ?_ | refine RG.z6 ?_ | refine RG.z7 ?_ | refine RG.z8 ?_ | refine RG.z9 ?_ | refine RG.zA ?_ | refine RG.zB ?_ | refine RG.zC ?_)
          exact RG.nil ⟨rfl, rfl, rfl, rfl, rfl, rfl, rfl, rfl, rfl, rfl, rfl, rfl, trivial⟩
        · repeat (first | refine RG.z0 ?_ | refine RG.z1 ?_ | refine RG.z2 ?_ | refine RG.z3 ?_ | refine RG.z4 ?_ | refine RG.z5 ?_ | refine RG.z6 ?_ | refine RG.z7 ?_ | refine RG.z8 ?_ | refine RG.z9 ?_ | refine RG.zA ?_ | refine RG.zB ?_ | refine RG.zC ?_)
          exact RG.nilS (AC.cond_t rfl (AC.skip ⟨rfl, rfl, rfl, rfl, rfl, rfl, rfl, rfl, rfl, rfl, rfl, rfl, trivial⟩))
    cases c3 : ((c == 61 && decide (n < 2)) || (!(c == 61) && decide (0 < g)))
    case true =>
      rw [c3, cond_true] at heq
      refine AC.cond_t rfl (AC.seq (AC.reg ?_))
      repeat (first | refine RG.z0 ?_ | refine RG.z1 ?_ | refine RG.z2 ?_ | refine RG.z3 ?_ | refine RG.z4 ?_ | refine RG.z5 ?_ | refine RG.z6 ?_ | refine RG.z7 ?_ | refine RG.z8 ?_ | refine RG.z9 ?_ | refine RG.zA ?_ | refine RG.zB ?_ | refine RG.zC ?_)
      exact RG.nilS (AC.ret (bad heq hsub rfl rfl))
    rw [c3, cond_false] at heq
    dsimp only at heq
    generalize hg' : (bif c == 61 then g + 1 else g) = g' at heq
    generalize ha' : (bif c == 61 then 0 else (at64 c).toNat) = a' at heq
    have hal : a' < 64 := by
      rw [← ha']
      cases q : c == 61
      · have hne : ¬ at64 c < 0 := by
          intro h
          rw [q, decide_eq_true h] at c1
          simp at c1
        exact at64_lt c hne
      · simp
    have hgl : g' ≤ 2 ∧ (n + 1 = 1 → g' = 0) ∧ (n + 1 = 2 → g' = 0) ∧ (n + 1 = 3 → g' ≤ 1) := by
      rw [← hg']
      cases q : c == 61
      · rw [q] at c3
        have : g = 0 := by
          simp only [Bool.false_and, Bool.not_false, Bool.true_and, Bool.false_or, decide_eq_false_iff_not] at c3
          omega
        simp only [cond_false]
        omega
      · rw [q] at c3
        have : ¬ n < 2 := by
          simp only [Bool.true_and, Bool.not_true, Bool.false_and, Bool.or_false, decide_eq_false_iff_not] at c3
          exact c3
        simp only [cond_true]
        by_cases h2 : n = 2
        · have := hn2 h2; omega
        · have := hn3 (by omega); omega
    refine AC.cond_f rfl ?_
    have hmid : ∀ fr : Fr, Agrees fr [(4, d), (5, .int .u32 (w : Int)), (6, .int .i64 (n : Int)), (7, .int .i64 (g' : Int)), (8, .bool odd), (11, .int .i64 (a' : Int)), (14, .lst (s.map B8) s.length 1 none), (15, .int .i64 (s.length : Int)), (16, .int .i64 (i : Int))] →
        AC Go.Proofs.Tryd.prog G none F48.N (decTail F48.c) (Bk 1 (Sq Go.Proofs.Tryd.prog G none F48.N (.reg [⟨(some 89), none, .bin .add (.t 16) (.c (.int .i64 1))⟩, ⟨(some 16), none, .mv (.t 89)⟩]) (Sq Go.Proofs.Tryd.prog G none F48.N (.loop (decLoop F48.c)) (Bk 0 (Sq Go.Proofs.Tryd.prog G none F48.N (decRest F48.c) (Fin F48.rs (fun d' H' => d' = .tup [.str (decF s).1, .int .i64 (decF s).2] ∧ H' = H) (fun _ _ => False))))))) fr H' := by
      intro fr hfr
      refine AC.to _ hfr (AC.seq (AC.reg ?_))
      (first | refine RG.z0 ?_ | refine RG.z1 ?_ | refine RG.z2 ?_ | refine RG.z3 ?_ | refine RG.z4 ?_ | refine RG.z5 ?_ | refine RG.z6 ?_ | refine RG.z7 ?_ | refine RG.z8 ?_ | refine RG.z9 ?_ | refine RG.zA ?_ | refine RG.zB ?_ | refine RG.zC ?_)
      refine RG.p (d := .int .u32 ((w * 64 % 4294967296 : Nat) : Int)) (by first | exact trivial | exact rfl) (shl6 w) ?_
      (first | refine RG.z0 ?_ | refine RG.z1 ?_ | refine RG.z2 ?_ | refine RG.z3 ?_ | refine RG.z4 ?_ | refine RG.z5 ?_ | refine RG.z6 ?_ | refine RG.z7 ?_ | refine RG.z8 ?_ | refine RG.z9 ?_ | refine RG.zA ?_ | refine RG.zB ?_ | refine RG.zC ?_)
      refine RG.p (d := .int .u32 (a' : Int)) (by first | exact trivial | exact rfl) (by
        show some (DV.int .u32 (IntKind.u32.wrap (a' : Int))) = _
        rw [u32_wrap _ (by omega)]) ?_
      have hwl : w * 64 % 4294967296 < 4294967296 := Nat.mod_lt _ (by omega)
      have hw' : w * 64 % 4294967296 ||| a' < 4294967296 := Nat.or_lt_two_pow (n := 32) hwl (by omega)
      refine RG.p (d := .int .u32 ((w * 64 % 4294967296 ||| a' : Nat) : Int)) (by first | exact trivial | exact rfl) (or_u32 _ _ hwl (by omega)) ?_
      generalize w * 64 % 4294967296 ||| a' = w' at heq hw'
      repeat (first | refine RG.z0 ?_ | refine RG.z1 ?_ | refine RG.z2 ?_ | refine RG.z3 ?_ | refine RG.z4 ?_ | refine RG.z5 ?_ | refine RG.z6 ?_ | refine RG.z7 ?_ | refine RG.z8 ?_ | refine RG.z9 ?_ | refine RG.zA ?_ | refine RG.zB ?_ | refine RG.zC ?_)
      refine RG.nilS (AC.seq (AC.seq (AC.reg ?_)))
      repeat (first | refine RG.z0 ?_ | refine RG.z1 ?_ | refine RG.z2 ?_ | refine RG.z3 ?_ | refine RG.z4 ?_ | refine RG.z5 ?_ | refine RG.z6 ?_ | refine RG.z7 ?_ | refine RG.z8 ?_ | refine RG.z9 ?_ | refine RG.zA ?_ | refine RG.zB ?_ | refine RG.zC ?_)
      refine RG.nilS (AC.seq (AC.reg ?_))
      (first | refine RG.z0 ?_ | refine RG.z1 ?_ | refine RG.z2 ?_ | refine RG.z3 ?_ | refine RG.z4 ?_ | refine RG.z5 ?_ | refine RG.z6 ?_ | refine RG.z7 ?_ | refine RG.z8 ?_ | refine RG.z9 ?_ | refine RG.zA ?_ | refine RG.zB ?_ | refine RG.zC ?_)
      refine RG.p (d := .bool (decide (n + 1 < 4))) (by first | exact trivial | exact rfl) (by
        show some (DV.bool (decide (((n : Int) + 1) < 4))) = _
        congr 2
        rw [decide_eq_decide]; omega) ?_
      cases c4 : decide (n + 1 < 4)
      case true =>
        have hn4 := of_decide_eq_true c4
        rw [c4, cond_true] at heq
        refine RG.nilS (AC.cond_t rfl (AC.exit ?_))
        exact next b d w' (n + 1) g' odd H' _ ⟨hbuf, by dsimp only; omega, heq, hw', hn4, hgl.1, fun h => hgl.2.1 h, fun h => hgl.2.2.1 h, fun h => hgl.2.2.2 h, by dsimp only; omega⟩ ⟨rfl, rfl, rfl, rfl, rfl, rfl, rfl, rfl, trivial⟩
      rw [c4, cond_false] at heq
      have hn4 := of_decide_eq_false c4
      have hn3' : n = 3 := by omega
      refine RG.nilS (AC.cond_f rfl (AC.skip ?_))
      have hM : w' % 2 ^ (8 * g') < 4294967296 := Nat.lt_of_le_of_lt (Nat.mod_le _ _) hw'
      refine AC.seqA (l := [(4, d), (5, .int .u32 (w' : Int)), (7, .int .i64 (g' : Int)), (8, .bool (odd || !(w' % 2 ^ (8 * g') == 0))), (14, .lst (s.map B8) s.length 1 none), (15, .int .i64 (s.length : Int)), (16, .int .i64 (i : Int))]) (H' := H') (AC.reg ?_) ?_
      · cases odd
        · (first | refine RG.z0 ?_ | refine RG.z1 ?_ | refine RG.z2 ?_ | refine RG.z3 ?_ | refine RG.z4 ?_ | refine RG.z5 ?_ | refine RG.z6 ?_ | refine RG.z7 ?_ | refine RG.z8 ?_ | refine RG.z9 ?_ | refine RG.zA ?_ | refine RG.zB ?_ | refine RG.zC ?_)
          (first | refine RG.z0 ?_ | refine RG.z1 ?_ | refine RG.z2 ?_ | refine RG.z3 ?_ | refine RG.z4 ?_ | refine RG.z5 ?_ | refine RG.z6 ?_ | refine RG.z7 ?_ | refine RG.z8 ?_ | refine RG.z9 ?_ | refine RG.zA ?_ | refine RG.zB ?_ | refine RG.zC ?_)
          (first | refine RG.z0 ?_ | refine RG.z1 ?_ | refine RG.z2 ?_ | refine RG.z3 ?_ | refine RG.z4 ?_ | refine RG.z5 ?_ | refine RG.z6 ?_ | refine RG.z7 ?_ | refine RG.z8 ?_ | refine RG.z9 ?_ | refine RG.zA ?_ | refine RG.zB ?_ | refine RG.zC ?_)
          (first | refine RG.z0 ?_ | refine RG.z1 ?_ | refine RG.z2 ?_ | refine RG.z3 ?_ | refine RG.z4 ?_ | refine RG.z5 ?_ | refine RG.z6 ?_ | refine RG.z7 ?_ | refine RG.z8 ?_ | refine RG.z9 ?_ | refine RG.zA ?_ | refine RG.zB ?_ | refine RG.zC ?_)
          refine RG.p (d := .int .i64 ((8 * g' : Nat) : Int)) (by first | exact trivial | exact rfl) (by
            show some (DV.int .i64 (IntKind.i64.wrap (8 * (g' : Int)))) = _
            rw [IntWalk.i64_in _ (by omega)]; congr 2) ?_
          have hp2 : 1 * 2 ^ (8 * g') < 4294967296 := by
            have : 2 ^ (8 * g') ≤ 2 ^ 16 := Nat.pow_le_pow_right (by omega) (by omega)
            omega
          have hp1 : 1 ≤ 2 ^ (8 * g') := Nat.one_le_two_pow
          refine RG.p (d := .int .u32 ((1 * 2 ^ (8 * g') : Nat) : Int)) (by first | exact trivial | exact rfl) (shl_u32 1 (8 * g') (by omega) hp2) ?_
          refine RG.p (d := .int .u32 ((2 ^ (8 * g') - 1 : Nat) : Int)) (by first | exact trivial | exact rfl) (by
            show some (DV.int .u32 (IntKind.u32.wrap (((1 * 2 ^ (8 * g') : Nat) : Int) - 1))) = _
            have : ((1 * 2 ^ (8 * g') : Nat) : Int) - 1 = ((2 ^ (8 * g') - 1 : Nat) : Int) := by omega
            rw [this, u32_wrap _ (by omega)]) ?_
          refine RG.p (d := .int .u32 ((w' % 2 ^ (8 * g') : Nat) : Int)) (by first | exact trivial | exact rfl) (by
            rw [← mask_u32 w' g' hw' hgl.1]
            exact and_u32 w' (2 ^ (8 * g') - 1) hw' (by omega)) ?_
          refine RG.p (d := .bool (!(w' % 2 ^ (8 * g') == 0))) (by first | exact trivial | exact rfl) (by
            show some (DV.bool (((w' % 2 ^ (8 * g') : Nat) : Int) != 0)) = _
            generalize w' % 2 ^ (8 * g') = z
            congr 2
            rw [bne]; congr 1
            rw [Bool.eq_iff_iff, beq_iff_eq, beq_iff_eq]; omega) ?_
          repeat (first | refine RG.z0 ?_ | refine RG.z1 ?_ | refine RG.z2 ?_ | refine RG.z3 ?_ | refine RG.z4 ?_ | refine RG.z5 ?_ | refine RG.z6 ?_ | refine RG.z7 ?_ | refine RG.z8 ?_ | refine RG.z9 ?_ | refine RG.zA ?_ | refine RG.zB ?_ | refine RG.zC ?_)
          exact RG.nil ⟨rfl, rfl, rfl, rfl, rfl, rfl, rfl, rfl, trivial⟩
        · repeat (first | refine RG.z0 ?_ | refine RG.z1 ?_ | refine RG.z2 ?_ | refine RG.z3 ?_ | refine RG.z4 ?_ | refine RG.z5 ?_ | refine RG.z6 ?_ | refine RG.z7 ?_ | refine RG.z8 ?_ | refine RG.z9 ?_ | refine RG.zA ?_ | refine RG.zB ?_ | refine RG.zC ?_)
          exact RG.nil ⟨rfl, rfl, rfl, rfl, rfl, rfl, rfl, rfl, trivial⟩
      refine AC.seq (AC.reg ?_)
      (first | refine RG.z0 ?_ | refine RG.z1 ?_ | refine RG.z2 ?_ | refine RG.z3 ?_ | refine RG.z4 ?_ | refine RG.z5 ?_ | refine RG.z6 ?_ | refine RG.z7 ?_ | refine RG.z8 ?_ | refine RG.z9 ?_ | refine RG.zA ?_ | refine RG.zB ?_ | refine RG.zC ?_)
      refine RG.p (d := .int .u32 ((w' / 65536 : Nat) : Int)) (by first | exact trivial | exact rfl) (shr_u32 w' 16 (by omega)) ?_
      refine RG.p (d := B8 (UInt8.ofNat (w' / 65536))) (by first | exact trivial | exact rfl) (u8_conv _) ?_
      (first | refine RG.z0 ?_ | refine RG.z1 ?_ | refine RG.z2 ?_ | refine RG.z3 ?_ | refine RG.z4 ?_ | refine RG.z5 ?_ | refine RG.z6 ?_ | refine RG.z7 ?_ | refine RG.z8 ?_ | refine RG.z9 ?_ | refine RG.zA ?_ | refine RG.zB ?_ | refine RG.zC ?_)
      refine RG.p (d := .int .u32 ((w' / 256 : Nat) : Int)) (by first | exact trivial | exact rfl) (shr_u32 w' 8 (by omega)) ?_
      refine RG.p (d := B8 (UInt8.ofNat (w' / 256))) (by first | exact trivial | exact rfl) (u8_conv _) ?_
      (first | refine RG.z0 ?_ | refine RG.z1 ?_ | refine RG.z2 ?_ | refine RG.z3 ?_ | refine RG.z4 ?_ | refine RG.z5 ?_ | refine RG.z6 ?_ | refine RG.z7 ?_ | refine RG.z8 ?_ | refine RG.z9 ?_ | refine RG.zA ?_ | refine RG.zB ?_ | refine RG.zC ?_)
      refine RG.p (d := B8 (UInt8.ofNat w')) (by first | exact trivial | exact rfl) (u8_conv _) ?_
      refine RG.p (d := .agg ((bytes3 w').map B8)) (by first | exact trivial | exact rfl) rfl ?_
      refine RG.alloc (by first | exact trivial | exact rfl) fun q hq => ?_
      refine RG.sto (cs := [.int .u8 0, .int .u8 0, .int .u8 0]) (ty := 84) (d := .agg ((bytes3 w').map B8)) (ys := (bytes3 w').map B8) (by first | exact trivial | exact rfl) (by conv => lhs; whnf) Hp.upd_same (by conv => lhs; whnf) rfl rfl (by exact Nat.le_refl _) ?_
      have hsp : spliceL 0 ((bytes3 w').map B8) [.int .u8 0, .int .u8 0, .int .u8 0] = (bytes3 w').map B8 := rfl
      rw [hsp, Hp.upd_upd]
      have hb2 := hbuf.put (o := some (.cells ((bytes3 w').map B8) 84)) hq
      have hq0 := hbuf.base hq
      refine RG.nilS (AC.seq (AC.reg ?_))
      (first | refine RG.z0 ?_ | refine RG.z1 ?_ | refine RG.z2 ?_ | refine RG.z3 ?_ | refine RG.z4 ?_ | refine RG.z5 ?_ | refine RG.z6 ?_ | refine RG.z7 ?_ | refine RG.z8 ?_ | refine RG.z9 ?_ | refine RG.zA ?_ | refine RG.zB ?_ | refine RG.zC ?_)
      (first | refine RG.z0 ?_ | refine RG.z1 ?_ | refine RG.z2 ?_ | refine RG.z3 ?_ | refine RG.z4 ?_ | refine RG.z5 ?_ | refine RG.z6 ?_ | refine RG.z7 ?_ | refine RG.z8 ?_ | refine RG.z9 ?_ | refine RG.zA ?_ | refine RG.zB ?_ | refine RG.zC ?_)
      refine RG.p (d := .int .i64 ((3 - g' : Nat) : Int)) (by first | exact trivial | exact rfl) (by
        show some (DV.int .i64 (IntKind.i64.wrap (3 - (g' : Int)))) = _
        rw [IntWalk.i64_in _ (by omega)]; congr 2; omega) ?_
      refine RG.p (d := .win q 0 (3 - g') 3) (by first | exact trivial | exact rfl) (by
        show slcAD 3 1 none (some (.int .i64 ((3 - g' : Nat) : Int))) (.ptr q 0) = _
        have h1 : (0 : Int) ≤ ((3 - g' : Nat) : Int) ∧ ((3 - g' : Nat) : Int) ≤ ((3 : Nat) : Int) := by omega
        simp only [slcAD, bndD, h1, and_self, if_true, Int.toNat_natCast, Option.bind_some]
        rfl) ?_
      have htk : ((bytes3 w').take (3 - g')).length = 3 - g' := by
        rw [List.length_take, show (bytes3 w').length = 3 from rfl]; omega
      refine hb2.app (ys := (bytes3 w').take (3 - g')) (by omega) (by intro h; rw [h] at htk; simp at htk; omega) rfl (by
        show srcD _ 1 (.win q 0 (3 - g') 3) = _
        have hl : 0 + (3 - g') ≤ ((bytes3 w').map B8).length := by
          rw [List.length_map, show (bytes3 w').length = 3 from rfl]; omega
        have hq3 : (H'.upd q (some (.cells ((bytes3 w').map B8) 84))) q = some (.cells ((bytes3 w').map B8) 84) := Hp.upd_same
        simp only [srcD, hq3, Nat.mul_one, if_pos hl, List.drop_zero, htk, List.map_take]) (fun d' H2 hb3 => ?_)
      obtain ⟨H3, hb4, hsub4⟩ := hb3.take hq0
      refine RG.drop hsub4 ?_
      repeat (first | refine RG.z0 ?_ | refine RG.z1 ?_ | refine RG.z2 ?_ | refine RG.z3 ?_ | refine RG.z4 ?_ | refine RG.z5 ?_ | refine RG.z6 ?_ | refine RG.z7 ?_ | refine RG.z8 ?_ | refine RG.z9 ?_ | refine RG.zA ?_ | refine RG.zB ?_ | refine RG.zC ?_)
      refine RG.nilS (AC.reg ?_)
      repeat (first | refine RG.z0 ?_ | refine RG.z1 ?_ | refine RG.z2 ?_ | refine RG.z3 ?_ | refine RG.z4 ?_ | refine RG.z5 ?_ | refine RG.z6 ?_ | refine RG.z7 ?_ | refine RG.z8 ?_ | refine RG.z9 ?_ | refine RG.zA ?_ | refine RG.zB ?_ | refine RG.zC ?_)
      refine RG.nil ?_
      exact next _ d' 0 0 g' _ H3 _ ⟨hb4, by dsimp only; omega, heq, by simp, by simp, hgl.1, by simp, by simp, by simp, by dsimp only; rw [List.length_append]; omega⟩ ⟨rfl, rfl, rfl, rfl, rfl, rfl, rfl, rfl, trivial⟩
    subst hLL
    refine AC.seq (AC.reg ?_)
    (first | refine RG.z0 ?_ | refine RG.z1 ?_ | refine RG.z2 ?_ | refine RG.z3 ?_ | refine RG.z4 ?_ | refine RG.z5 ?_ | refine RG.z6 ?_ | refine RG.z7 ?_ | refine RG.z8 ?_ | refine RG.z9 ?_ | refine RG.zA ?_ | refine RG.zB ?_ | refine RG.zC ?_)
    refine RG.p (d := .bool (c == 61)) (by first | exact trivial | exact rfl) (by show some (DV.bool ((c.toNat : Int) == 61)) = _; rw [q61]) ?_
    repeat (first | refine RG.z0 ?_ | refine RG.z1 ?_ | refine RG.z2 ?_ | refine RG.z3 ?_ | refine RG.z4 ?_ | refine RG.z5 ?_ | refine RG.z6 ?_ | refine RG.z7 ?_ | refine RG.z8 ?_ | refine RG.z9 ?_ | refine RG.zA ?_ | refine RG.zB ?_ | refine RG.zC ?_)
    cases q : c == 61
    · rw [q, cond_false] at hg' ha'
      have hne : ¬ at64 c < 0 := by
        intro h
        rw [q, decide_eq_true h] at c1
        simp at c1
      have haa : at64 c = (a' : Int) := by rw [← ha']; omega
      refine RG.nilS (AC.cond_f rfl (AC.skip ?_))
      exact hmid _ ⟨rfl, rfl, rfl, by rw [← hg']; rfl, rfl, by rw [← haa]; rfl, rfl, rfl, rfl, trivial⟩
    · rw [q, cond_true] at hg' ha'
      refine RG.nilS (AC.cond_t rfl (AC.seq (AC.reg ?_)))
      repeat (first | refine RG.z0 ?_ | refine RG.z1 ?_ | refine RG.z2 ?_ | refine RG.z3 ?_ | refine RG.z4 ?_ | refine RG.z5 ?_ | refine RG.z6 ?_ | refine RG.z7 ?_ | refine RG.z8 ?_ | refine RG.z9 ?_ | refine RG.zA ?_ | refine RG.zB ?_ | refine RG.zC ?_)
      refine RG.nilS (AC.reg ?_)
      repeat (first | refine RG.z0 ?_ | refine RG.z1 ?_ | refine RG.z2 ?_ | refine RG.z3 ?_ | refine RG.z4 ?_ | refine RG.z5 ?_ | refine RG.z6 ?_ | refine RG.z7 ?_ | refine RG.z8 ?_ | refine RG.z9 ?_ | refine RG.zA ?_ | refine RG.zB ?_ | refine RG.zC ?_)
      refine RG.nil ?_
      exact hmid _ ⟨rfl, rfl, rfl, by rw [← hg']; rfl, rfl, by rw [← ha']; rfl, rfl, rfl, rfl, trivial⟩
end Go.Run.Tryd
