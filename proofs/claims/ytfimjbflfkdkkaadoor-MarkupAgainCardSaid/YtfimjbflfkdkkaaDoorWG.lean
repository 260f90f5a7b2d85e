/- Escapes, trims, names, entities. -/
import Derived.Test.YtfimjbflfkdkkaaDoorWF
import Derived.Test.YtfimjbflfkdkkaaDoorWE
/- Contracts of the library, as pure functions; a builder that escapes. -/
namespace Go.Run.Tryd
open Go Go.Run Go.RowKit
/-! cardcase/markup.Escape -/
def F36 : FN := ⟨27, (.seq (.reg [⟨(some 2), none, .mv (.c (.str []))⟩])
  (.seq (.reg [⟨(some 3), none, .alloc [.nilp, .nils] 43⟩])
  (.seq (.seq (.reg [⟨(some 6), none, .mv (.t 0)⟩,
    ⟨(some 7), none, .s2b 5 (.t 6)⟩,
    ⟨(some 8), none, .len false (.t 7)⟩,
    ⟨(some 9), none, .mv (.c (.int .i64 0))⟩])
  (.block 0 (.loop (.seq (.reg [⟨(some 10), none, .bin .lss (.t 9) (.t 8)⟩])
  (.seq (.cond (.t 10) .skip
  (.exit 0))
  (.seq (.block 1 (.seq (.reg [⟨(some 11), none, .iadr 1 (.t 7) (.t 9)⟩,
    ⟨(some 12), none, .ld false 1 (.t 11)⟩,
    ⟨(some 5), none, .mv (.t 12)⟩])
  (.seq (.reg [⟨(some 13), none, .mv (.t 5)⟩])
  (.block 2 (.seq (.reg [⟨(some 17), none, .bin .eql (.t 13) (.c (.int .u8 38))⟩,
    ⟨(some 16), none, .mv (.t 17)⟩])
  (.cond (.t 16) (.reg [⟨(some 18), none, .call 14 [(.t 3), (.c (.str [38, 97, 109, 112, 59]))]⟩])
  (.seq (.reg [⟨(some 20), none, .bin .eql (.t 13) (.c (.int .u8 60))⟩,
    ⟨(some 19), none, .mv (.t 20)⟩])
  (.cond (.t 19) (.reg [⟨(some 21), none, .call 14 [(.t 3), (.c (.str [38, 108, 116, 59]))]⟩])
  (.seq (.reg [⟨(some 23), none, .bin .eql (.t 13) (.c (.int .u8 62))⟩,
    ⟨(some 22), none, .mv (.t 23)⟩])
  (.cond (.t 22) (.reg [⟨(some 24), none, .call 14 [(.t 3), (.c (.str [38, 103, 116, 59]))]⟩])
  (.reg [⟨(some 14), none, .mv (.t 5)⟩,
    ⟨(some 15), none, .call 56 [(.t 3), (.t 14)]⟩])))))))))))
  (.reg [⟨(some 25), none, .bin .add (.t 9) (.c (.int .i64 1))⟩,
    ⟨(some 9), none, .mv (.t 25)⟩])))))))
  (.seq (.reg [⟨(some 26), none, .call 17 [(.t 3)]⟩,
    ⟨(some 2), none, .mv (.t 26)⟩])
  .ret)))), [.tmp 2]⟩
theorem cF36 : cFn Go.Proofs.Tryd.prog 36 = some F36 := by kernel_rfl
variable {G : Gl}

theorem containsRune_ok (s : List UInt8) (x : Int) (h0 : 0 ≤ x) (h1 : x < 128) : PF Go.Proofs.Tryd.prog G 83 [.str s, .int .i32 x] (.bool (decide (0 ≤ Lib.indexByte s x.toNat.toUInt8))) := by
  refine PF.ofBelow Go.Proofs.Tryd.func83 (by rfl) (by rfl) fun w H Z vs hr hsz hv => ?_
  obtain ⟨v, v2, rfl, k1, k2⟩ := args2 hsz hv
  obtain ⟨q, rfl, hq⟩ := k1.str_inv
  have e := k2.int_inv
  subst e
  exact (Go.Proofs.Tryd.strings_ContainsRune_ascii q x w h0 h1).mono fun e w' ⟨he, hw⟩ => ⟨_, he, fun _ _ _ => hq ▸ .bool _, hw ▸ Below.refl _ _⟩

theorem validRune_ok (x : Int) : PF Go.Proofs.Tryd.prog G 84 [.int .i32 x] (.bool (Lib.validRune x)) := by
  refine PF.ofBelow Go.Proofs.Tryd.func84 (by rfl) (by rfl) fun w H Z vs hr hsz hv => ?_
  obtain ⟨v, rfl, k1⟩ := args1 hsz hv
  have e := k1.int_inv
  subst e
  exact (Go.Proofs.Tryd.utf8_ValidRune x w).mono fun e w' ⟨he, hw⟩ => ⟨_, he, fun _ _ _ => .bool _, hw ▸ Below.refl _ _⟩

theorem indexByte_ok (s : List UInt8) (c : UInt8) : PF Go.Proofs.Tryd.prog G 73 [.str s, .int .u8 c.toNat] (.int .i64 (Lib.indexByte s c)) := by
  refine PF.ofBelow Go.Proofs.Tryd.func73 (by rfl) (by rfl) fun w H Z vs hr hsz hv => ?_
  obtain ⟨v, v2, rfl, k1, k2⟩ := args2 hsz hv
  obtain ⟨q, rfl, hq⟩ := k1.str_inv
  have e := k2.int_inv
  subst e
  refine (Go.Proofs.Tryd.strings_IndexByte q c.toNat w).mono fun e w' ⟨he, hw⟩ => ⟨_, he, fun _ _ _ => ?_, hw ▸ Below.refl _ _⟩
  have hc : ((c.toNat : Int)).toNat.toUInt8 = c := by simp
  rw [hq, hc]
  exact .int _ _

/-- A text as it stands between marks. -/
def esc : List UInt8 → List UInt8
  | [] => []
  | c :: l => (bif c == 38 then [38, 97, 109, 112, 59] else bif c == 60 then [38, 108, 116, 59] else bif c == 62 then [38, 103, 116, 59] else [c]) ++ esc l

theorem esc_length : ∀ (l : List UInt8), (esc l).length ≤ 5 * l.length
  | [] => Nat.le_refl _
  | c :: l => by
    have := esc_length l
    simp only [esc, List.length_append, List.length_cons]
    cases c == 38 <;> cases c == 60 <;> cases c == 62 <;> simp <;> omega

theorem u8eq (c d : UInt8) : ((c.toNat : Int) == (d.toNat : Int)) = (c == d) := by
  rw [Bool.eq_iff_iff]
  simp only [beq_iff_eq]
  constructor
  · intro h; exact UInt8.toNat.inj (by omega)
  · intro h; rw [h]

theorem Escape_ok (s : List UInt8) (hs : s.length ≤ 17592186044416) : PF Go.Proofs.Tryd.prog G 36 [.str s] (.str (esc s)) := by
  intro H
  refine CALL.of cF36 (Nat.le_of_ble_eq_true rfl) ?_
  refine AC.seq (AC.reg ?_)
  repeat (first | refine RG.z0 ?_ | refine RG.z1 ?_ | refine RG.z2 ?_ | refine RG.z3 ?_ | refine RG.z4 ?_ | refine RG.z5 ?_ | refine RG.z6 ?_ | refine RG.z7 ?_ | refine RG.z8 ?_ | refine RG.z9 ?_ | refine RG.zA ?_ | refine RG.zB ?_ | refine RG.zC ?_)
  refine RG.nilS (AC.seq (AC.reg ?_))
  refine RG.alloc (by first | exact trivial | exact rfl) fun b hb => ?_
  refine RG.nilS (AC.seq (AC.seq (AC.reg ?_)))
  repeat (first | refine RG.z0 ?_ | refine RG.z1 ?_ | refine RG.z2 ?_ | refine RG.z3 ?_ | refine RG.z4 ?_ | refine RG.z5 ?_ | refine RG.z6 ?_ | refine RG.z7 ?_ | refine RG.z8 ?_ | refine RG.z9 ?_ | refine RG.zA ?_ | refine RG.zB ?_ | refine RG.zC ?_)
  refine RG.s (by first | exact trivial | exact rfl) (ST.s2b rfl ?_)
  repeat (first | refine RG.z0 ?_ | refine RG.z1 ?_ | refine RG.z2 ?_ | refine RG.z3 ?_ | refine RG.z4 ?_ | refine RG.z5 ?_ | refine RG.z6 ?_ | refine RG.z7 ?_ | refine RG.z8 ?_ | refine RG.z9 ?_ | refine RG.zA ?_ | refine RG.zB ?_ | refine RG.zC ?_)
  refine RG.nilS ?_
  refine AC.bloopH (α := Nat) (β := Bool) (fun n => s.length - n) (fun n => [(3, .ptr b 0), (7, .lst (s.map B8) s.length 1 none), (8, .int .i64 s.length), (9, .int .i64 n)]) (fun n H' => n ≤ s.length ∧ ∃ u, BLD H b u (esc (s.take n)) H') (fun _ => [(3, .ptr b 0)]) (fun u H' => BLD H b u (esc s) H') ?_ ?_ 0 _
    ⟨Nat.zero_le _, false, .mt false hb⟩ ⟨rfl, rfl, rfl, rfl, trivial⟩
  · intro u He fr hB hfr
    refine AC.to _ hfr (AC.seq (AC.reg ?_))
    have hl := esc_length s
    refine RG.callR (by first | exact trivial | exact rfl) rfl (String_ok hB (by omega)) ?_
    repeat (first | refine RG.z0 ?_ | refine RG.z1 ?_ | refine RG.z2 ?_ | refine RG.z3 ?_ | refine RG.z4 ?_ | refine RG.z5 ?_ | refine RG.z6 ?_ | refine RG.z7 ?_ | refine RG.z8 ?_ | refine RG.z9 ?_ | refine RG.zA ?_ | refine RG.zB ?_ | refine RG.zC ?_)
    exact RG.nilS (AC.ret (fin rfl ⟨rfl, rfl⟩))
  · intro n H' ⟨h1, u, h2⟩ ih ex
    refine AC.seq (AC.reg ?_)
    repeat (first | refine RG.z0 ?_ | refine RG.z1 ?_ | refine RG.z2 ?_ | refine RG.z3 ?_ | refine RG.z4 ?_ | refine RG.z5 ?_ | refine RG.z6 ?_ | refine RG.z7 ?_ | refine RG.z8 ?_ | refine RG.z9 ?_ | refine RG.zA ?_ | refine RG.zB ?_ | refine RG.zC ?_)
    cases e1 : decide ((n : Int) < s.length)
    · have e := of_decide_eq_false e1
      have ht : s.take n = s := List.take_of_length_le (by omega)
      rw [ht] at h2
      exact RG.nilS (AC.seq (AC.cond_f rfl (AC.exit (ex u _ _ h2 ⟨rfl, trivial⟩))))
    · have e := of_decide_eq_true e1
      have hn : n < s.length := by omega
      refine RG.nilS (AC.seq (AC.cond_t rfl (AC.skip (AC.seq (AC.block (AC.seq (AC.reg ?_)))))))
      refine RG.p (by first | exact trivial | exact rfl) (evP_iadr (by conv => lhs; whnf) (by conv => lhs; whnf) (by omega)) ?_
      refine RG.p (by first | exact trivial | exact rfl) (evP_ldc (by conv => lhs; whnf) (partD_one (d := B8 s[n]) (by simp [hn]))) ?_
      repeat (first | refine RG.z0 ?_ | refine RG.z1 ?_ | refine RG.z2 ?_ | refine RG.z3 ?_ | refine RG.z4 ?_ | refine RG.z5 ?_ | refine RG.z6 ?_ | refine RG.z7 ?_ | refine RG.z8 ?_ | refine RG.z9 ?_ | refine RG.zA ?_ | refine RG.zB ?_ | refine RG.zC ?_)
      have hl := esc_length (s.take n)
      have hlt : (s.take n).length ≤ s.length := by simp; omega
      have hesc : esc (s.take (n + 1)) = esc (s.take n) ++ esc [s[n]] := by
        rw [List.take_succ_eq_append_getElem hn]
        generalize s.take n = l
        induction l with
        | nil => simp [esc]
        | cons c l ih => simp only [List.cons_append, esc, ih, List.append_assoc]
      have q1 : ((s[n].toNat : Int) == 38) = (s[n] == 38) := u8eq _ 38
      have q2 : ((s[n].toNat : Int) == 60) = (s[n] == 60) := u8eq _ 60
      have q3 : ((s[n].toNat : Int) == 62) = (s[n] == 62) := u8eq _ 62
      refine RG.nilS (AC.seq (AC.reg ?_))
      repeat (first | refine RG.z0 ?_ | refine RG.z1 ?_ | refine RG.z2 ?_ | refine RG.z3 ?_ | refine RG.z4 ?_ | refine RG.z5 ?_ | refine RG.z6 ?_ | refine RG.z7 ?_ | refine RG.z8 ?_ | refine RG.z9 ?_ | refine RG.zA ?_ | refine RG.zB ?_ | refine RG.zC ?_)
      refine RG.nilS ?_
      refine AC.mono (Q := fun e fr H2 => e = .normal ∧ BLD H b true (esc (s.take n) ++ esc [s[n]]) H2 ∧ Agrees fr [(3, .ptr b 0), (7, .lst (s.map B8) s.length 1 none), (8, .int .i64 s.length), (9, .int .i64 n)]) ?_ ?_
      · refine AC.block (AC.seq (AC.reg ?_))
        repeat (first | refine RG.z0 ?_ | refine RG.z1 ?_ | refine RG.z2 ?_ | refine RG.z3 ?_ | refine RG.z4 ?_ | refine RG.z5 ?_ | refine RG.z6 ?_ | refine RG.z7 ?_ | refine RG.z8 ?_ | refine RG.z9 ?_ | refine RG.zA ?_ | refine RG.zB ?_ | refine RG.zC ?_)
        rw [q1]
        cases c1 : s[n] == 38
        · refine RG.nilS (AC.cond_f rfl (AC.seq (AC.reg ?_)))
          repeat (first | refine RG.z0 ?_ | refine RG.z1 ?_ | refine RG.z2 ?_ | refine RG.z3 ?_ | refine RG.z4 ?_ | refine RG.z5 ?_ | refine RG.z6 ?_ | refine RG.z7 ?_ | refine RG.z8 ?_ | refine RG.z9 ?_ | refine RG.zA ?_ | refine RG.zB ?_ | refine RG.zC ?_)
          rw [q2]
          cases c2 : s[n] == 60
          · refine RG.nilS (AC.cond_f rfl (AC.seq (AC.reg ?_)))
            repeat (first | refine RG.z0 ?_ | refine RG.z1 ?_ | refine RG.z2 ?_ | refine RG.z3 ?_ | refine RG.z4 ?_ | refine RG.z5 ?_ | refine RG.z6 ?_ | refine RG.z7 ?_ | refine RG.z8 ?_ | refine RG.z9 ?_ | refine RG.zA ?_ | refine RG.zB ?_ | refine RG.zC ?_)
            rw [q3]
            cases c3 : s[n] == 62
            · refine RG.nilS (AC.cond_f rfl (AC.reg ?_))
              repeat (first | refine RG.z0 ?_ | refine RG.z1 ?_ | refine RG.z2 ?_ | refine RG.z3 ?_ | refine RG.z4 ?_ | refine RG.z5 ?_ | refine RG.z6 ?_ | refine RG.z7 ?_ | refine RG.z8 ?_ | refine RG.z9 ?_ | refine RG.zA ?_ | refine RG.zB ?_ | refine RG.zC ?_)
              refine RG.call (by first | exact trivial | exact rfl) rfl (WriteByte_ok (c := s[n]) h2 (by omega)) (fun d H2 ⟨g1, g2⟩ => ?_) (fun _ _ h => h.elim)
              exact RG.nil ⟨rfl, by simpa [esc, c1, c2, c3] using g2, rfl, rfl, rfl, rfl, trivial⟩
            · refine RG.nilS (AC.cond_t rfl (AC.reg ?_))
              refine RG.call (by first | exact trivial | exact rfl) rfl (WriteString_ok h2 (by simp; omega)) (fun d H2 ⟨g1, g2⟩ => ?_) (fun _ _ h => h.elim)
              exact RG.nil ⟨rfl, by simpa [esc, c1, c2, c3] using g2, rfl, rfl, rfl, rfl, trivial⟩
          · refine RG.nilS (AC.cond_t rfl (AC.reg ?_))
            refine RG.call (by first | exact trivial | exact rfl) rfl (WriteString_ok h2 (by simp; omega)) (fun d H2 ⟨g1, g2⟩ => ?_) (fun _ _ h => h.elim)
            exact RG.nil ⟨rfl, by simpa [esc, c1, c2] using g2, rfl, rfl, rfl, rfl, trivial⟩
        · refine RG.nilS (AC.cond_t rfl (AC.reg ?_))
          refine RG.call (by first | exact trivial | exact rfl) rfl (WriteString_ok h2 (by simp; omega)) (fun d H2 ⟨g1, g2⟩ => ?_) (fun _ _ h => h.elim)
          exact RG.nil ⟨rfl, by simpa [esc, c1] using g2, rfl, rfl, rfl, rfl, trivial⟩
      · rintro e fr H2 ⟨rfl, hB, hfr⟩
        refine AC.to _ hfr (AC.reg ?_)
        repeat (first | refine RG.z0 ?_ | refine RG.z1 ?_ | refine RG.z2 ?_ | refine RG.z3 ?_ | refine RG.z4 ?_ | refine RG.z5 ?_ | refine RG.z6 ?_ | refine RG.z7 ?_ | refine RG.z8 ?_ | refine RG.z9 ?_ | refine RG.zA ?_ | refine RG.zB ?_ | refine RG.zC ?_)
        exact RG.nil (ih (n + 1) _ ⟨by omega, true, hesc ▸ hB⟩ (by omega) _ ⟨rfl, rfl, rfl, rfl, trivial⟩)
end Go.Run.Tryd
/- strings.Trim. -/
namespace Go.Run.Tryd
open Go Go.Run
/-! strings.trimRightASCII -/
def F70 : FN := ⟨22, (.seq (.reg [⟨(some 4), none, .mv (.c (.str []))⟩])
  (.seq (.block 0 (.loop (.seq (.seq (.reg [⟨(some 5), none, .mv (.t 0)⟩,
    ⟨(some 6), none, .len true (.t 5)⟩,
    ⟨(some 7), none, .bin .gtr (.t 6) (.c (.int .i64 0))⟩])
  (.cond (.t 7) .skip
  (.exit 0)))
  (.block 1 (.seq (.seq (.reg [⟨(some 8), none, .mv (.t 1)⟩,
    ⟨(some 9), none, .mv (.t 0)⟩,
    ⟨(some 10), none, .mv (.t 0)⟩,
    ⟨(some 11), none, .len true (.t 10)⟩,
    ⟨(some 12), none, .bin .sub (.t 11) (.c (.int .i64 1))⟩,
    ⟨(some 13), none, .idx (.t 9) (.t 12)⟩,
    ⟨(some 14), none, .call 81 [(.t 8), (.t 13)]⟩,
    ⟨(some 15), none, .un .not (.t 14)⟩])
  (.cond (.t 15) (.exit 0)
  .skip))
  (.reg [⟨(some 16), none, .mv (.t 0)⟩,
    ⟨(some 17), none, .mv (.t 0)⟩,
    ⟨(some 18), none, .len true (.t 17)⟩,
    ⟨(some 19), none, .bin .sub (.t 18) (.c (.int .i64 1))⟩,
    ⟨(some 20), none, .slcS (.t 16) none (some (.t 19))⟩,
    ⟨(some 0), none, .mv (.t 20)⟩]))))))
  (.seq (.reg [⟨(some 21), none, .mv (.t 0)⟩,
    ⟨(some 4), none, .mv (.t 21)⟩])
  .ret))), [.tmp 4]⟩
theorem cF70 : cFn Go.Proofs.Tryd.prog 70 = some F70 := by kernel_rfl
/-! strings.Trim -/
def F47 : FN := ⟨43, (.seq (.reg [⟨(some 4), none, .mv (.c (.str []))⟩])
  (.seq (.seq (.reg [⟨(some 7), none, .mv (.t 0)⟩,
    ⟨(some 8), none, .bin .eql (.t 7) (.c (.str []))⟩,
    ⟨(some 9), none, .mv (.t 8)⟩,
    ⟨(some 10), some (9, false), .mv (.t 1)⟩,
    ⟨(some 11), some (9, false), .bin .eql (.t 10) (.c (.str []))⟩,
    ⟨(some 12), none, .pick (.t 9) (.c (.bool true)) (.t 11)⟩])
  (.cond (.t 12) (.seq (.reg [⟨(some 13), none, .mv (.t 0)⟩,
    ⟨(some 4), none, .mv (.t 13)⟩])
  .ret)
  .skip))
  (.seq (.seq (.reg [⟨(some 14), none, .mv (.t 1)⟩,
    ⟨(some 15), none, .len true (.t 14)⟩,
    ⟨(some 16), none, .bin .eql (.t 15) (.c (.int .i64 1))⟩,
    ⟨(some 17), none, .mv (.t 16)⟩,
    ⟨(some 18), some (17, true), .mv (.t 1)⟩,
    ⟨(some 19), some (17, true), .idx (.t 18) (.c (.int .i64 0))⟩,
    ⟨(some 20), some (17, true), .bin .lss (.t 19) (.c (.int .u8 128))⟩,
    ⟨(some 21), none, .pick (.t 17) (.t 20) (.c (.bool false))⟩])
  (.cond (.t 21) (.seq (.draw [⟨(some 22), none, .mv (.t 0)⟩,
    ⟨(some 23), none, .mv (.t 1)⟩,
    ⟨(some 24), none, .idx (.t 23) (.c (.int .i64 0))⟩,
    ⟨(some 25), none, .call 69 [(.t 22), (.t 24)]⟩,
    ⟨(some 26), none, .mv (.t 1)⟩,
    ⟨(some 27), none, .idx (.t 26) (.c (.int .i64 0))⟩,
    ⟨(some 28), none, .call 61 [(.t 25), (.t 27)]⟩,
    ⟨(some 4), none, .mv (.t 28)⟩] [[], [], [1], [0, 2], [], [4], [3, 5, 3], [6, 6, 0, 1, 2, 3, 4, 5, 6]])
  .ret)
  .skip))
  (.seq (.seq (.reg [⟨(some 30), none, .mv (.t 1)⟩,
    ⟨(some 31), none, .call 62 [(.t 30)]⟩,
    ⟨(some 29), none, .mv (.t 31)⟩,
    ⟨(some 32), none, .ext (.t 29) 0⟩,
    ⟨(some 33), none, .ext (.t 29) 1⟩,
    ⟨(some 5), none, .alloc [(.bool false), (.bool false), (.bool false), (.bool false), (.bool false), (.bool false), (.bool false), (.bool false), (.bool false), (.bool false), (.bool false), (.bool false), (.bool false), (.bool false), (.bool false), (.bool false), (.bool false), (.bool false), (.bool false), (.bool false), (.bool false), (.bool false), (.bool false), (.bool false), (.bool false), (.bool false), (.bool false), (.bool false), (.bool false), (.bool false), (.bool false), (.bool false), (.bool false), (.bool false), (.bool false), (.bool false), (.bool false), (.bool false), (.bool false), (.bool false), (.bool false), (.bool false), (.bool false), (.bool false), (.bool false), (.bool false), (.bool false), (.bool false), (.bool false), (.bool false), (.bool false), (.bool false), (.bool false), (.bool false), (.bool false), (.bool false), (.bool false), (.bool false), (.bool false), (.bool false), (.bool false), (.bool false), (.bool false), (.bool false), (.bool false), (.bool false), (.bool false), (.bool false), (.bool false), (.bool false), (.bool false), (.bool false), (.bool false), (.bool false), (.bool false), (.bool false), (.bool false), (.bool false), (.bool false), (.bool false), (.bool false), (.bool false), (.bool false), (.bool false), (.bool false), (.bool false), (.bool false), (.bool false), (.bool false), (.bool false), (.bool false), (.bool false), (.bool false), (.bool false), (.bool false), (.bool false), (.bool false), (.bool false), (.bool false), (.bool false), (.bool false), (.bool false), (.bool false), (.bool false), (.bool false), (.bool false), (.bool false), (.bool false), (.bool false), (.bool false), (.bool false), (.bool false), (.bool false), (.bool false), (.bool false), (.bool false), (.bool false), (.bool false), (.bool false), (.bool false), (.bool false), (.bool false), (.bool false), (.bool false), (.bool false), (.bool false), (.bool false), (.bool false), (.bool false), (.bool false), (.bool false), (.bool false), (.bool false), (.bool false), (.bool false), (.bool false), (.bool false), (.bool false), (.bool false), (.bool false), (.bool false), (.bool false), (.bool false), (.bool false), (.bool false), (.bool false), (.bool false), (.bool false), (.bool false), (.bool false), (.bool false), (.bool false), (.bool false), (.bool false), (.bool false), (.bool false), (.bool false), (.bool false), (.bool false), (.bool false), (.bool false), (.bool false), (.bool false), (.bool false), (.bool false), (.bool false), (.bool false), (.bool false), (.bool false), (.bool false), (.bool false), (.bool false), (.bool false), (.bool false), (.bool false), (.bool false), (.bool false), (.bool false), (.bool false), (.bool false), (.bool false), (.bool false), (.bool false), (.bool false), (.bool false), (.bool false), (.bool false), (.bool false), (.bool false), (.bool false), (.bool false), (.bool false), (.bool false), (.bool false), (.bool false), (.bool false), (.bool false), (.bool false), (.bool false), (.bool false), (.bool false), (.bool false), (.bool false), (.bool false), (.bool false), (.bool false), (.bool false), (.bool false), (.bool false), (.bool false), (.bool false), (.bool false), (.bool false), (.bool false), (.bool false), (.bool false), (.bool false), (.bool false), (.bool false), (.bool false), (.bool false), (.bool false), (.bool false), (.bool false), (.bool false), (.bool false), (.bool false), (.bool false), (.bool false), (.bool false), (.bool false), (.bool false), (.bool false), (.bool false), (.bool false), (.bool false), (.bool false), (.bool false), (.bool false), (.bool false), (.bool false), (.bool false), (.bool false), (.bool false), (.bool false), (.bool false), (.bool false), (.bool false), (.bool false), (.bool false), (.bool false), (.bool false), (.bool false), (.bool false), (.bool false), (.bool false)] 94⟩,
    ⟨none, none, .st 256 (.t 5) (.t 32)⟩,
    ⟨(some 6), none, .mv (.t 33)⟩])
  (.seq (.reg [⟨(some 34), none, .mv (.t 6)⟩])
  (.cond (.t 34) (.seq (.reg [⟨(some 35), none, .mv (.t 0)⟩,
    ⟨(some 36), none, .call 70 [(.t 35), (.t 5)]⟩,
    ⟨(some 37), none, .call 63 [(.t 36), (.t 5)]⟩,
    ⟨(some 4), none, .mv (.t 37)⟩])
  .ret)
  .skip)))
  (.seq (.reg [⟨(some 38), none, .mv (.t 0)⟩,
    ⟨(some 39), none, .mv (.t 1)⟩,
    ⟨(some 40), none, .call 71 [(.t 38), (.t 39)]⟩,
    ⟨(some 41), none, .mv (.t 1)⟩,
    ⟨(some 42), none, .call 64 [(.t 40), (.t 41)]⟩,
    ⟨(some 4), none, .mv (.t 42)⟩])
  .ret))))), [.tmp 4]⟩
theorem cF47 : cFn Go.Proofs.Tryd.prog 47 = some F47 := by kernel_rfl
variable {G : Gl}

def trimR (p : UInt8 → Bool) (l : List UInt8) : List UInt8 := (l.reverse.dropWhile p).reverse

theorem nil_or_snoc (l : List UInt8) : l = [] ∨ ∃ l' c, l = l' ++ [c] := by
  rcases List.eq_nil_or_concat l with h | ⟨l', c, h⟩
  · exact .inl h
  · exact .inr ⟨l', c, by rw [h, List.concat_eq_append]⟩

theorem trimR_snoc (p : UInt8 → Bool) (l : List UInt8) (c : UInt8) : trimR p (l ++ [c]) = bif p c then trimR p l else l ++ [c] := by
  unfold trimR
  rw [List.reverse_append, List.reverse_singleton, List.singleton_append, List.dropWhile_cons]
  cases p c <;> simp

theorem trimRightASCII_ok {b : Nat} {p : UInt8 → Bool} {ty : TypeId} {H : Hp} (hb : H b = some (.cells (setOf p) ty)) (s : List UInt8) (hs : s.length ≤ 9223372036854775807) :
    CALL Go.Proofs.Tryd.prog G 70 [.str s, .ptr b 0] H (fun d H' => d = .str (trimR p s) ∧ H' = H) (fun _ _ => False) := by
  refine CALL.of cF70 (Nat.le_of_ble_eq_true rfl) ?_
  refine AC.seq (AC.reg ?_)
  repeat (first | refine RG.z0 ?_ | refine RG.z1 ?_ | refine RG.z2 ?_ | refine RG.z3 ?_ | refine RG.z4 ?_ | refine RG.z5 ?_ | refine RG.z6 ?_ | refine RG.z7 ?_ | refine RG.z8 ?_ | refine RG.z9 ?_ | refine RG.zA ?_ | refine RG.zB ?_ | refine RG.zC ?_)
  refine RG.nilS (AC.seq ?_)
  refine AC.bloop (α := List UInt8) (fun l => l.length) (fun l => [(0, .str l), (1, .ptr b 0)]) (fun _ => H) (fun l => trimR p l = trimR p s ∧ l.length ≤ 9223372036854775807) [(0, .str (trimR p s))] H ?_ ?_ s ⟨rfl, hs⟩ ⟨rfl, rfl, trivial⟩
  · intro fr hfr
    refine AC.to _ hfr (AC.seq (AC.reg ?_))
    repeat (first | refine RG.z0 ?_ | refine RG.z1 ?_ | refine RG.z2 ?_ | refine RG.z3 ?_ | refine RG.z4 ?_ | refine RG.z5 ?_ | refine RG.z6 ?_ | refine RG.z7 ?_ | refine RG.z8 ?_ | refine RG.z9 ?_ | refine RG.zA ?_ | refine RG.zB ?_ | refine RG.zC ?_)
    exact RG.nilS (AC.ret (fin rfl ⟨rfl, rfl⟩))
  · intro l ⟨hl, hlen⟩ ih ex
    refine AC.seq (AC.seq (AC.reg ?_))
    repeat (first | refine RG.z0 ?_ | refine RG.z1 ?_ | refine RG.z2 ?_ | refine RG.z3 ?_ | refine RG.z4 ?_ | refine RG.z5 ?_ | refine RG.z6 ?_ | refine RG.z7 ?_ | refine RG.z8 ?_ | refine RG.z9 ?_ | refine RG.zA ?_ | refine RG.zB ?_ | refine RG.zC ?_)
    rcases nil_or_snoc l with rfl | ⟨l', c, rfl⟩
    · exact RG.nilS (AC.cond_f rfl (AC.exit (ex _ ⟨congrArg DV.str hl, trivial⟩)))
    · have hll : (l' ++ [c]).length = l'.length + 1 := by simp
      have h0 : decide (((l' ++ [c]).length : Int) > 0) = true := by simp
      refine RG.nilS (AC.cond_t (by show DV.bool _ = _; rw [h0]) (AC.skip (AC.block (AC.seq (AC.seq (AC.reg ?_))))))
      (first | refine RG.z0 ?_ | refine RG.z1 ?_ | refine RG.z2 ?_ | refine RG.z3 ?_ | refine RG.z4 ?_ | refine RG.z5 ?_ | refine RG.z6 ?_ | refine RG.z7 ?_ | refine RG.z8 ?_ | refine RG.z9 ?_ | refine RG.zA ?_ | refine RG.zB ?_ | refine RG.zC ?_)
      (first | refine RG.z0 ?_ | refine RG.z1 ?_ | refine RG.z2 ?_ | refine RG.z3 ?_ | refine RG.z4 ?_ | refine RG.z5 ?_ | refine RG.z6 ?_ | refine RG.z7 ?_ | refine RG.z8 ?_ | refine RG.z9 ?_ | refine RG.zA ?_ | refine RG.zB ?_ | refine RG.zC ?_)
      (first | refine RG.z0 ?_ | refine RG.z1 ?_ | refine RG.z2 ?_ | refine RG.z3 ?_ | refine RG.z4 ?_ | refine RG.z5 ?_ | refine RG.z6 ?_ | refine RG.z7 ?_ | refine RG.z8 ?_ | refine RG.z9 ?_ | refine RG.zA ?_ | refine RG.zB ?_ | refine RG.zC ?_)
      (first | refine RG.z0 ?_ | refine RG.z1 ?_ | refine RG.z2 ?_ | refine RG.z3 ?_ | refine RG.z4 ?_ | refine RG.z5 ?_ | refine RG.z6 ?_ | refine RG.z7 ?_ | refine RG.z8 ?_ | refine RG.z9 ?_ | refine RG.zA ?_ | refine RG.zB ?_ | refine RG.zC ?_)
      refine RG.subI (by first | exact trivial | exact rfl) (by conv => lhs; whnf) (by conv => lhs; whnf) (by omega) ?_
      refine RG.at (by first | exact trivial | exact rfl) (by conv => lhs; whnf) (by conv => lhs; whnf) (by omega) (b := c) (by
        have : (((l' ++ [c]).length : Int) - 1).toNat = l'.length := by omega
        rw [this]; simp) ?_
      refine RG.callR (by first | exact trivial | exact rfl) rfl (contains_ok hb) ?_
      repeat (first | refine RG.z0 ?_ | refine RG.z1 ?_ | refine RG.z2 ?_ | refine RG.z3 ?_ | refine RG.z4 ?_ | refine RG.z5 ?_ | refine RG.z6 ?_ | refine RG.z7 ?_ | refine RG.z8 ?_ | refine RG.z9 ?_ | refine RG.zA ?_ | refine RG.zB ?_ | refine RG.zC ?_)
      rw [trimR_snoc] at hl
      cases hp : p c
      · rw [hp] at hl
        refine RG.nilS (AC.cond_t rfl (AC.exit ?_))
        exact ex _ ⟨congrArg DV.str hl, trivial⟩
      · rw [hp] at hl
        refine RG.nilS (AC.cond_f rfl (AC.skip (AC.reg ?_)))
        (first | refine RG.z0 ?_ | refine RG.z1 ?_ | refine RG.z2 ?_ | refine RG.z3 ?_ | refine RG.z4 ?_ | refine RG.z5 ?_ | refine RG.z6 ?_ | refine RG.z7 ?_ | refine RG.z8 ?_ | refine RG.z9 ?_ | refine RG.zA ?_ | refine RG.zB ?_ | refine RG.zC ?_)
        (first | refine RG.z0 ?_ | refine RG.z1 ?_ | refine RG.z2 ?_ | refine RG.z3 ?_ | refine RG.z4 ?_ | refine RG.z5 ?_ | refine RG.z6 ?_ | refine RG.z7 ?_ | refine RG.z8 ?_ | refine RG.z9 ?_ | refine RG.zA ?_ | refine RG.zB ?_ | refine RG.zC ?_)
        (first | refine RG.z0 ?_ | refine RG.z1 ?_ | refine RG.z2 ?_ | refine RG.z3 ?_ | refine RG.z4 ?_ | refine RG.z5 ?_ | refine RG.z6 ?_ | refine RG.z7 ?_ | refine RG.z8 ?_ | refine RG.z9 ?_ | refine RG.zA ?_ | refine RG.zB ?_ | refine RG.zC ?_)
        refine RG.subI (by first | exact trivial | exact rfl) (by conv => lhs; whnf) (by conv => lhs; whnf) (by omega) ?_
        refine RG.upto (by first | exact trivial | exact rfl) (by conv => lhs; whnf) (by conv => lhs; whnf) (by omega) ?_
        repeat (first | refine RG.z0 ?_ | refine RG.z1 ?_ | refine RG.z2 ?_ | refine RG.z3 ?_ | refine RG.z4 ?_ | refine RG.z5 ?_ | refine RG.z6 ?_ | refine RG.z7 ?_ | refine RG.z8 ?_ | refine RG.z9 ?_ | refine RG.zA ?_ | refine RG.zB ?_ | refine RG.zC ?_)
        refine RG.nil ?_
        have ht : (l' ++ [c]).take (((l' ++ [c]).length : Int) - 1).toNat = l' := by
          have : (((l' ++ [c]).length : Int) - 1).toNat = l'.length := by omega
          rw [this]; simp
        refine ih l' ⟨hl, by omega⟩ (by simp) _ ⟨congrArg DV.str ht, rfl, trivial⟩

theorem trimR_length (p : UInt8 → Bool) (l : List UInt8) : (trimR p l).length ≤ l.length := by
  unfold trimR
  have := (List.dropWhile_sublist p (l := l.reverse)).length_le
  simpa using this

theorem trim_ok (s cs : List UInt8) (h2 : 2 ≤ cs.length) (ha : ∀ c ∈ cs, c < 128) (hs : cs.length ≤ 4611686018427387904) (hsl : s.length ≤ 9223372036854775807) : PF Go.Proofs.Tryd.prog G 47 [.str s, .str cs] (.str ((trimR cs.contains s).dropWhile cs.contains)) := by
  intro H
  refine CALL.of cF47 (Nat.le_of_ble_eq_true rfl) ?_
  have hcs : (cs == []) = false := by cases cs with
    | nil => simp at h2
    | cons => rfl
  have hl1 : ((cs.length : Int) == 1) = false := by simp; omega
  refine AC.seq (AC.reg ?_)
  repeat (first | refine RG.z0 ?_ | refine RG.z1 ?_ | refine RG.z2 ?_ | refine RG.z3 ?_ | refine RG.z4 ?_ | refine RG.z5 ?_ | refine RG.z6 ?_ | refine RG.z7 ?_ | refine RG.z8 ?_ | refine RG.z9 ?_ | refine RG.zA ?_ | refine RG.zB ?_ | refine RG.zC ?_)
  refine RG.nilS (AC.seq (AC.seq (AC.reg ?_)))
  repeat (first | refine RG.z0 ?_ | refine RG.z1 ?_ | refine RG.z2 ?_ | refine RG.z3 ?_ | refine RG.z4 ?_ | refine RG.z5 ?_ | refine RG.z6 ?_ | refine RG.z7 ?_ | refine RG.z8 ?_ | refine RG.z9 ?_ | refine RG.zA ?_ | refine RG.zB ?_ | refine RG.zC ?_)
  cases e : s == []
  · repeat (first | refine RG.z0 ?_ | refine RG.z1 ?_ | refine RG.z2 ?_ | refine RG.z3 ?_ | refine RG.z4 ?_ | refine RG.z5 ?_ | refine RG.z6 ?_ | refine RG.z7 ?_ | refine RG.z8 ?_ | refine RG.z9 ?_ | refine RG.zA ?_ | refine RG.zB ?_ | refine RG.zC ?_)
    rw [hcs]
    refine RG.nilS (AC.cond_f rfl (AC.skip (AC.seq (AC.seq (AC.reg ?_)))))
    repeat (first | refine RG.z0 ?_ | refine RG.z1 ?_ | refine RG.z2 ?_ | refine RG.z3 ?_ | refine RG.z4 ?_ | refine RG.z5 ?_ | refine RG.z6 ?_ | refine RG.z7 ?_ | refine RG.z8 ?_ | refine RG.z9 ?_ | refine RG.zA ?_ | refine RG.zB ?_ | refine RG.zC ?_)
    rw [hl1]
    repeat (first | refine RG.z0 ?_ | refine RG.z1 ?_ | refine RG.z2 ?_ | refine RG.z3 ?_ | refine RG.z4 ?_ | refine RG.z5 ?_ | refine RG.z6 ?_ | refine RG.z7 ?_ | refine RG.z8 ?_ | refine RG.z9 ?_ | refine RG.zA ?_ | refine RG.zB ?_ | refine RG.zC ?_)
    refine RG.nilS (AC.cond_f rfl (AC.skip (AC.seq (AC.seq (AC.reg ?_)))))
    repeat (first | refine RG.z0 ?_ | refine RG.z1 ?_ | refine RG.z2 ?_ | refine RG.z3 ?_ | refine RG.z4 ?_ | refine RG.z5 ?_ | refine RG.z6 ?_ | refine RG.z7 ?_ | refine RG.z8 ?_ | refine RG.z9 ?_ | refine RG.zA ?_ | refine RG.zB ?_ | refine RG.zC ?_)
    refine RG.callP (by first | exact trivial | exact rfl) rfl (makeSet_ok cs ha hs) ?_
    repeat (first | refine RG.z0 ?_ | refine RG.z1 ?_ | refine RG.z2 ?_ | refine RG.z3 ?_ | refine RG.z4 ?_ | refine RG.z5 ?_ | refine RG.z6 ?_ | refine RG.z7 ?_ | refine RG.z8 ?_ | refine RG.z9 ?_ | refine RG.zA ?_ | refine RG.zB ?_ | refine RG.zC ?_)
    refine RG.alloc (by first | exact trivial | exact rfl) fun b hb => ?_
    refine RG.sto (by first | exact trivial | exact rfl) rfl Hp.upd_same rfl rfl (setOf_length _) (Nat.le_of_ble_eq_true (by kernel_rfl)) ?_
    have hsp : ∀ zs : List DV, zs.length = 256 → spliceL 0 (setOf cs.contains) zs = setOf cs.contains := fun zs hz => by
      simp only [spliceL, List.take_zero, List.nil_append, Nat.zero_add, setOf_length]
      rw [List.drop_of_length_le (by omega), List.append_nil]
    rw [Hp.upd_upd, hsp _ (by kernel_rfl)]
    repeat (first | refine RG.z0 ?_ | refine RG.z1 ?_ | refine RG.z2 ?_ | refine RG.z3 ?_ | refine RG.z4 ?_ | refine RG.z5 ?_ | refine RG.z6 ?_ | refine RG.z7 ?_ | refine RG.z8 ?_ | refine RG.z9 ?_ | refine RG.zA ?_ | refine RG.zB ?_ | refine RG.zC ?_)
    refine RG.nilS (AC.seq (AC.reg ?_))
    repeat (first | refine RG.z0 ?_ | refine RG.z1 ?_ | refine RG.z2 ?_ | refine RG.z3 ?_ | refine RG.z4 ?_ | refine RG.z5 ?_ | refine RG.z6 ?_ | refine RG.z7 ?_ | refine RG.z8 ?_ | refine RG.z9 ?_ | refine RG.zA ?_ | refine RG.zB ?_ | refine RG.zC ?_)
    refine RG.nilS (AC.cond_t rfl (AC.seq (AC.reg ?_)))
    repeat (first | refine RG.z0 ?_ | refine RG.z1 ?_ | refine RG.z2 ?_ | refine RG.z3 ?_ | refine RG.z4 ?_ | refine RG.z5 ?_ | refine RG.z6 ?_ | refine RG.z7 ?_ | refine RG.z8 ?_ | refine RG.z9 ?_ | refine RG.zA ?_ | refine RG.zB ?_ | refine RG.zC ?_)
    refine RG.callR (by first | exact trivial | exact rfl) rfl (trimRightASCII_ok Hp.upd_same s hsl) ?_
    refine RG.callR (by first | exact trivial | exact rfl) rfl (trimLeftASCII_ok Hp.upd_same _) ?_
    repeat (first | refine RG.z0 ?_ | refine RG.z1 ?_ | refine RG.z2 ?_ | refine RG.z3 ?_ | refine RG.z4 ?_ | refine RG.z5 ?_ | refine RG.z6 ?_ | refine RG.z7 ?_ | refine RG.z8 ?_ | refine RG.z9 ?_ | refine RG.zA ?_ | refine RG.zB ?_ | refine RG.zC ?_)
    exact RG.nilS (AC.ret (finD (H' := H) rfl (SubH.fresh hb) ⟨rfl, rfl⟩))
  · have : s = [] := by simpa using e
    subst this
    repeat (first | refine RG.z0 ?_ | refine RG.z1 ?_ | refine RG.z2 ?_ | refine RG.z3 ?_ | refine RG.z4 ?_ | refine RG.z5 ?_ | refine RG.z6 ?_ | refine RG.z7 ?_ | refine RG.z8 ?_ | refine RG.z9 ?_ | refine RG.zA ?_ | refine RG.zB ?_ | refine RG.zC ?_)
    refine RG.nilS (AC.cond_t rfl (AC.seq (AC.reg ?_)))
    repeat (first | refine RG.z0 ?_ | refine RG.z1 ?_ | refine RG.z2 ?_ | refine RG.z3 ?_ | refine RG.z4 ?_ | refine RG.z5 ?_ | refine RG.z6 ?_ | refine RG.z7 ?_ | refine RG.z8 ?_ | refine RG.z9 ?_ | refine RG.zA ?_ | refine RG.zB ?_ | refine RG.zC ?_)
    exact RG.nilS (AC.ret (fin rfl ⟨rfl, rfl⟩))
end Go.Run.Tryd
/- Tests of a byte. -/
namespace Go.Run.Tryd
open Go Go.Run
/-! cardcase/tree.letter -/
def F75 : FN := ⟨17, (.seq (.reg [⟨(some 2), none, .mv (.c (.bool false))⟩])
  (.seq (.reg [⟨(some 3), none, .mv (.t 0)⟩,
    ⟨(some 4), none, .bin .geq (.t 3) (.c (.int .u8 65))⟩,
    ⟨(some 5), none, .mv (.t 4)⟩,
    ⟨(some 6), some (5, true), .mv (.t 0)⟩,
    ⟨(some 7), some (5, true), .bin .leq (.t 6) (.c (.int .u8 90))⟩,
    ⟨(some 8), none, .pick (.t 5) (.t 7) (.c (.bool false))⟩,
    ⟨(some 9), none, .mv (.t 8)⟩,
    ⟨(some 10), some (9, false), .mv (.t 0)⟩,
    ⟨(some 11), some (9, false), .bin .geq (.t 10) (.c (.int .u8 97))⟩,
    ⟨(some 12), some (9, false), .mv (.t 11)⟩,
    ⟨(some 13), some (12, true), .mv (.t 0)⟩,
    ⟨(some 14), some (12, true), .bin .leq (.t 13) (.c (.int .u8 122))⟩,
    ⟨(some 15), some (9, false), .pick (.t 12) (.t 14) (.c (.bool false))⟩,
    ⟨(some 16), none, .pick (.t 9) (.c (.bool true)) (.t 15)⟩,
    ⟨(some 2), none, .mv (.t 16)⟩])
  .ret)), [.tmp 2]⟩
theorem cF75 : cFn Go.Proofs.Tryd.prog 75 = some F75 := by kernel_rfl
/-! cardcase/cardcaseref13.letter -/
def F49 : FN := ⟨17, (.seq (.reg [⟨(some 2), none, .mv (.c (.bool false))⟩])
  (.seq (.reg [⟨(some 3), none, .mv (.t 0)⟩,
    ⟨(some 4), none, .bin .geq (.t 3) (.c (.int .u8 65))⟩,
    ⟨(some 5), none, .mv (.t 4)⟩,
    ⟨(some 6), some (5, true), .mv (.t 0)⟩,
    ⟨(some 7), some (5, true), .bin .leq (.t 6) (.c (.int .u8 90))⟩,
    ⟨(some 8), none, .pick (.t 5) (.t 7) (.c (.bool false))⟩,
    ⟨(some 9), none, .mv (.t 8)⟩,
    ⟨(some 10), some (9, false), .mv (.t 0)⟩,
    ⟨(some 11), some (9, false), .bin .geq (.t 10) (.c (.int .u8 97))⟩,
    ⟨(some 12), some (9, false), .mv (.t 11)⟩,
    ⟨(some 13), some (12, true), .mv (.t 0)⟩,
    ⟨(some 14), some (12, true), .bin .leq (.t 13) (.c (.int .u8 122))⟩,
    ⟨(some 15), some (9, false), .pick (.t 12) (.t 14) (.c (.bool false))⟩,
    ⟨(some 16), none, .pick (.t 9) (.c (.bool true)) (.t 15)⟩,
    ⟨(some 2), none, .mv (.t 16)⟩])
  .ret)), [.tmp 2]⟩
theorem cF49 : cFn Go.Proofs.Tryd.prog 49 = some F49 := by kernel_rfl
/-! cardcase/sixbit.passed -/
def F72 : FN := ⟨17, (.seq (.reg [⟨(some 2), none, .mv (.c (.bool false))⟩])
  (.seq (.reg [⟨(some 3), none, .mv (.t 0)⟩,
    ⟨(some 4), none, .bin .eql (.t 3) (.c (.int .u8 32))⟩,
    ⟨(some 5), none, .mv (.t 4)⟩,
    ⟨(some 6), some (5, false), .mv (.t 0)⟩,
    ⟨(some 7), some (5, false), .bin .eql (.t 6) (.c (.int .u8 9))⟩,
    ⟨(some 8), none, .pick (.t 5) (.c (.bool true)) (.t 7)⟩,
    ⟨(some 9), none, .mv (.t 8)⟩,
    ⟨(some 10), some (9, false), .mv (.t 0)⟩,
    ⟨(some 11), some (9, false), .bin .eql (.t 10) (.c (.int .u8 13))⟩,
    ⟨(some 12), none, .pick (.t 9) (.c (.bool true)) (.t 11)⟩,
    ⟨(some 13), none, .mv (.t 12)⟩,
    ⟨(some 14), some (13, false), .mv (.t 0)⟩,
    ⟨(some 15), some (13, false), .bin .eql (.t 14) (.c (.int .u8 10))⟩,
    ⟨(some 16), none, .pick (.t 13) (.c (.bool true)) (.t 15)⟩,
    ⟨(some 2), none, .mv (.t 16)⟩])
  .ret)), [.tmp 2]⟩
theorem cF72 : cFn Go.Proofs.Tryd.prog 72 = some F72 := by kernel_rfl
/-! cardcase/tree.shown$1 -/
def F78 : FN := ⟨13, (.seq (.reg [⟨(some 2), none, .mv (.c (.bool false))⟩])
  (.seq (.reg [⟨(some 3), none, .mv (.t 0)⟩,
    ⟨(some 4), none, .bin .lss (.t 3) (.c (.int .u8 32))⟩,
    ⟨(some 5), none, .mv (.t 4)⟩,
    ⟨(some 6), some (5, true), .mv (.t 0)⟩,
    ⟨(some 7), some (5, true), .bin .neq (.t 6) (.c (.int .u8 9))⟩,
    ⟨(some 8), none, .pick (.t 5) (.t 7) (.c (.bool false))⟩,
    ⟨(some 9), none, .mv (.t 8)⟩,
    ⟨(some 10), some (9, true), .mv (.t 0)⟩,
    ⟨(some 11), some (9, true), .bin .neq (.t 10) (.c (.int .u8 10))⟩,
    ⟨(some 12), none, .pick (.t 9) (.t 11) (.c (.bool false))⟩,
    ⟨(some 2), none, .mv (.t 12)⟩])
  .ret)), [.tmp 2]⟩
theorem cF78 : cFn Go.Proofs.Tryd.prog 78 = some F78 := by kernel_rfl
/-! cardcase/tree.named$1 -/
def F77 : FN := ⟨14, (.seq (.reg [⟨(some 2), none, .mv (.c (.bool false))⟩])
  (.seq (.reg [⟨(some 3), none, .mv (.t 0)⟩,
    ⟨(some 4), none, .call 75 [(.t 3)]⟩,
    ⟨(some 5), none, .un .not (.t 4)⟩,
    ⟨(some 6), none, .mv (.t 5)⟩,
    ⟨(some 7), some (6, true), .mv (.t 0)⟩,
    ⟨(some 8), some (6, true), .bin .lss (.t 7) (.c (.int .u8 48))⟩,
    ⟨(some 9), some (6, true), .mv (.t 8)⟩,
    ⟨(some 10), some (9, false), .mv (.t 0)⟩,
    ⟨(some 11), some (9, false), .bin .gtr (.t 10) (.c (.int .u8 57))⟩,
    ⟨(some 12), some (6, true), .pick (.t 9) (.c (.bool true)) (.t 11)⟩,
    ⟨(some 13), none, .pick (.t 6) (.t 12) (.c (.bool false))⟩,
    ⟨(some 2), none, .mv (.t 13)⟩])
  .ret)), [.tmp 2]⟩
theorem cF77 : cFn Go.Proofs.Tryd.prog 77 = some F77 := by kernel_rfl
variable {G : Gl}

theorem treeLetter_ok (c : UInt8) : PF Go.Proofs.Tryd.prog G 75 [.int .u8 c.toNat] (.bool (isLetter c)) := PF.byteTest (n := 20) cF75 (by decide) rfl (by kernel_rfl) c
theorem refLetter_ok (c : UInt8) : PF Go.Proofs.Tryd.prog G 49 [.int .u8 c.toNat] (.bool (isLetter c)) := PF.byteTest (n := 20) cF49 (by decide) rfl (by kernel_rfl) c
theorem passed_ok (c : UInt8) : PF Go.Proofs.Tryd.prog G 72 [.int .u8 c.toNat] (.bool (isWs c)) := PF.byteTest (n := 20) cF72 (by decide) rfl (by kernel_rfl) c

/-- A byte that no text may hold as it is. -/
def isCtl (c : UInt8) : Bool := c < 32 && !(c == 9) && !(c == 10)
theorem shownC_ok (c : UInt8) : PF Go.Proofs.Tryd.prog G 78 [.int .u8 c.toNat] (.bool (isCtl c)) := PF.byteTest (n := 20) cF78 (by decide) rfl (by kernel_rfl) c

theorem namedC_ok (c : UInt8) : PF Go.Proofs.Tryd.prog G 77 [.int .u8 c.toNat] (.bool (!isNameC c)) := by
  intro H
  refine CALL.of cF77 (Nat.le_of_ble_eq_true rfl) ?_
  refine AC.seq (AC.reg ?_)
  repeat (first | refine RG.z0 ?_ | refine RG.z1 ?_ | refine RG.z2 ?_ | refine RG.z3 ?_ | refine RG.z4 ?_ | refine RG.z5 ?_ | refine RG.z6 ?_ | refine RG.z7 ?_ | refine RG.z8 ?_ | refine RG.z9 ?_ | refine RG.zA ?_ | refine RG.zB ?_ | refine RG.zC ?_)
  refine RG.nilS (AC.seq (AC.reg ?_))
  repeat (first | refine RG.z0 ?_ | refine RG.z1 ?_ | refine RG.z2 ?_ | refine RG.z3 ?_ | refine RG.z4 ?_ | refine RG.z5 ?_ | refine RG.z6 ?_ | refine RG.z7 ?_ | refine RG.z8 ?_ | refine RG.z9 ?_ | refine RG.zA ?_ | refine RG.zB ?_ | refine RG.zC ?_)
  refine RG.callP (by first | exact trivial | exact rfl) rfl (treeLetter_ok c) ?_
  repeat (first | refine RG.z0 ?_ | refine RG.z1 ?_ | refine RG.z2 ?_ | refine RG.z3 ?_ | refine RG.z4 ?_ | refine RG.z5 ?_ | refine RG.z6 ?_ | refine RG.z7 ?_ | refine RG.z8 ?_ | refine RG.z9 ?_ | refine RG.zA ?_ | refine RG.zB ?_ | refine RG.zC ?_)
  have hd : isDigit c = (!(decide ((c.toNat : Int) < 48)) && !(decide ((c.toNat : Int) > 57))) := by
    unfold isDigit
    rw [Bool.eq_iff_iff]
    simp only [Bool.and_eq_true, decide_eq_true_eq, Bool.not_eq_true', decide_eq_false_iff_not, UInt8.le_iff_toNat_le]
    have e1 : (48 : UInt8).toNat = 48 := rfl
    have e2 : (57 : UInt8).toNat = 57 := rfl
    rw [e1, e2]
    omega
  cases hl : isLetter c
  · repeat (first | refine RG.z0 ?_ | refine RG.z1 ?_ | refine RG.z2 ?_ | refine RG.z3 ?_ | refine RG.z4 ?_ | refine RG.z5 ?_ | refine RG.z6 ?_ | refine RG.z7 ?_ | refine RG.z8 ?_ | refine RG.z9 ?_ | refine RG.zA ?_ | refine RG.zB ?_ | refine RG.zC ?_)
    cases d1 : decide ((c.toNat : Int) < 48)
    · repeat (first | refine RG.z0 ?_ | refine RG.z1 ?_ | refine RG.z2 ?_ | refine RG.z3 ?_ | refine RG.z4 ?_ | refine RG.z5 ?_ | refine RG.z6 ?_ | refine RG.z7 ?_ | refine RG.z8 ?_ | refine RG.z9 ?_ | refine RG.zA ?_ | refine RG.zB ?_ | refine RG.zC ?_)
      exact RG.nilS (AC.ret (fin rfl ⟨by
        show DV.bool (decide ((c.toNat : Int) > 57)) = _
        rw [isNameC, hl, hd, d1]; simp, rfl⟩))
    · repeat (first | refine RG.z0 ?_ | refine RG.z1 ?_ | refine RG.z2 ?_ | refine RG.z3 ?_ | refine RG.z4 ?_ | refine RG.z5 ?_ | refine RG.z6 ?_ | refine RG.z7 ?_ | refine RG.z8 ?_ | refine RG.z9 ?_ | refine RG.zA ?_ | refine RG.zB ?_ | refine RG.zC ?_)
      exact RG.nilS (AC.ret (fin rfl ⟨by
        show DV.bool true = _
        rw [isNameC, hl, hd, d1]; simp, rfl⟩))
  · repeat (first | refine RG.z0 ?_ | refine RG.z1 ?_ | refine RG.z2 ?_ | refine RG.z3 ?_ | refine RG.z4 ?_ | refine RG.z5 ?_ | refine RG.z6 ?_ | refine RG.z7 ?_ | refine RG.z8 ?_ | refine RG.z9 ?_ | refine RG.zA ?_ | refine RG.zB ?_ | refine RG.zC ?_)
    exact RG.nilS (AC.ret (fin rfl ⟨by
      show DV.bool false = _
      rw [isNameC, hl]; simp, rfl⟩))
end Go.Run.Tryd
/- slices.ContainsFunc over bytes. -/
namespace Go.Run.Tryd
open Go Go.Run
/-! slices.IndexFunc[[]byte,byte] -/
def F88 : FN := ⟨19, (.seq (.reg [⟨(some 4), none, .mv (.c (.int .i64 0))⟩])
  (.seq (.seq (.reg [⟨(some 6), none, .mv (.t 0)⟩,
    ⟨(some 7), none, .len false (.t 6)⟩,
    ⟨(some 8), none, .mv (.c (.int .i64 0))⟩])
  (.block 0 (.loop (.seq (.reg [⟨(some 9), none, .bin .lss (.t 8) (.t 7)⟩])
  (.seq (.cond (.t 9) .skip
  (.exit 0))
  (.seq (.block 1 (.seq (.reg [⟨(some 10), none, .mv (.t 8)⟩,
    ⟨(some 5), none, .mv (.t 10)⟩])
  (.seq (.reg [⟨(some 11), none, .mv (.t 1)⟩,
    ⟨(some 12), none, .mv (.t 0)⟩,
    ⟨(some 13), none, .mv (.t 5)⟩,
    ⟨(some 14), none, .iadr 1 (.t 12) (.t 13)⟩,
    ⟨(some 15), none, .ld false 1 (.t 14)⟩,
    ⟨(some 16), none, .calv (.t 11) [(.t 15)]⟩])
  (.cond (.t 16) (.seq (.reg [⟨(some 17), none, .mv (.t 5)⟩,
    ⟨(some 4), none, .mv (.t 17)⟩])
  .ret)
  .skip))))
  (.reg [⟨(some 18), none, .bin .add (.t 8) (.c (.int .i64 1))⟩,
    ⟨(some 8), none, .mv (.t 18)⟩])))))))
  (.seq (.reg [⟨(some 4), none, .mv (.c (.int .i64 (-1)))⟩])
  .ret))), [.tmp 4]⟩
theorem cF88 : cFn Go.Proofs.Tryd.prog 88 = some F88 := by kernel_rfl
/-! slices.ContainsFunc[[]byte,byte] -/
def F76 : FN := ⟨9, (.seq (.reg [⟨(some 4), none, .mv (.c (.bool false))⟩])
  (.seq (.reg [⟨(some 5), none, .mv (.t 0)⟩,
    ⟨(some 6), none, .mv (.t 1)⟩,
    ⟨(some 7), none, .call 88 [(.t 5), (.t 6)]⟩,
    ⟨(some 8), none, .bin .geq (.t 7) (.c (.int .i64 0))⟩,
    ⟨(some 4), none, .mv (.t 8)⟩])
  .ret)), [.tmp 4]⟩
theorem cF76 : cFn Go.Proofs.Tryd.prog 76 = some F76 := by kernel_rfl
variable {G : Gl}

/-- The first byte that is so. -/
def idxF (p : UInt8 → Bool) : List UInt8 → Nat → Int
  | [], _ => -1
  | c :: l, n => bif p c then (n : Int) else idxF p l (n + 1)

theorem indexFunc_ok {f : Nat} {p : UInt8 → Bool} (hp : ∀ c : UInt8, PF Go.Proofs.Tryd.prog G f [.int .u8 c.toNat] (.bool (p c))) (s : List UInt8) (hs : s.length ≤ 4611686018427387904) (tag : Option (Nat × Nat)) :
    PF Go.Proofs.Tryd.prog G 88 [.lst (s.map B8) s.length 1 tag, .func (.func f) [] []] (.int .i64 (idxF p s 0)) := by
  intro H
  refine CALL.of cF88 (Nat.le_of_ble_eq_true rfl) ?_
  refine AC.seq (AC.reg ?_)
  repeat (first | refine RG.z0 ?_ | refine RG.z1 ?_ | refine RG.z2 ?_ | refine RG.z3 ?_ | refine RG.z4 ?_ | refine RG.z5 ?_ | refine RG.z6 ?_ | refine RG.z7 ?_ | refine RG.z8 ?_ | refine RG.z9 ?_ | refine RG.zA ?_ | refine RG.zB ?_ | refine RG.zC ?_)
  refine RG.nilS (AC.seq (AC.seq (AC.reg ?_)))
  repeat (first | refine RG.z0 ?_ | refine RG.z1 ?_ | refine RG.z2 ?_ | refine RG.z3 ?_ | refine RG.z4 ?_ | refine RG.z5 ?_ | refine RG.z6 ?_ | refine RG.z7 ?_ | refine RG.z8 ?_ | refine RG.z9 ?_ | refine RG.zA ?_ | refine RG.zB ?_ | refine RG.zC ?_)
  refine RG.nilS ?_
  refine AC.bloopH (α := Nat) (β := Unit) (fun n => s.length - n) (fun n => [(0, .lst (s.map B8) s.length 1 tag), (1, .func (.func f) [] []), (7, .int .i64 s.length), (8, .int .i64 n)]) (fun n H' => H' = H ∧ n ≤ s.length ∧ idxF p s 0 = idxF p (s.drop n) n) (fun _ => []) (fun _ H' => H' = H ∧ idxF p s 0 = -1) ?_ ?_ 0 H ⟨rfl, Nat.zero_le _, rfl⟩ ⟨rfl, rfl, rfl, rfl, trivial⟩
  · intro _ He fr ⟨h1, h2⟩ hfr
    subst h1
    refine AC.to _ hfr (AC.seq (AC.reg ?_))
    repeat (first | refine RG.z0 ?_ | refine RG.z1 ?_ | refine RG.z2 ?_ | refine RG.z3 ?_ | refine RG.z4 ?_ | refine RG.z5 ?_ | refine RG.z6 ?_ | refine RG.z7 ?_ | refine RG.z8 ?_ | refine RG.z9 ?_ | refine RG.zA ?_ | refine RG.zB ?_ | refine RG.zC ?_)
    exact RG.nilS (AC.ret (fin rfl ⟨by rw [h2]; rfl, rfl⟩))
  · intro n H' ⟨h1, h2, h3⟩ ih ex
    subst h1
    refine AC.seq (AC.reg ?_)
    repeat (first | refine RG.z0 ?_ | refine RG.z1 ?_ | refine RG.z2 ?_ | refine RG.z3 ?_ | refine RG.z4 ?_ | refine RG.z5 ?_ | refine RG.z6 ?_ | refine RG.z7 ?_ | refine RG.z8 ?_ | refine RG.z9 ?_ | refine RG.zA ?_ | refine RG.zB ?_ | refine RG.zC ?_)
    cases e1 : decide ((n : Int) < s.length)
    · have e := of_decide_eq_false e1
      have : s.drop n = [] := List.drop_eq_nil_of_le (by omega)
      rw [this] at h3
      exact RG.nilS (AC.seq (AC.cond_f rfl (AC.exit (ex () _ _ ⟨rfl, h3⟩ trivial))))
    · have e := of_decide_eq_true e1
      have hn : n < s.length := by omega
      rw [List.drop_eq_getElem_cons hn] at h3
      refine RG.nilS (AC.seq (AC.cond_t rfl (AC.skip (AC.seq (AC.block (AC.seq (AC.reg ?_)))))))
      repeat (first | refine RG.z0 ?_ | refine RG.z1 ?_ | refine RG.z2 ?_ | refine RG.z3 ?_ | refine RG.z4 ?_ | refine RG.z5 ?_ | refine RG.z6 ?_ | refine RG.z7 ?_ | refine RG.z8 ?_ | refine RG.z9 ?_ | refine RG.zA ?_ | refine RG.zB ?_ | refine RG.zC ?_)
      refine RG.nilS (AC.seq (AC.reg ?_))
      (first | refine RG.z0 ?_ | refine RG.z1 ?_ | refine RG.z2 ?_ | refine RG.z3 ?_ | refine RG.z4 ?_ | refine RG.z5 ?_ | refine RG.z6 ?_ | refine RG.z7 ?_ | refine RG.z8 ?_ | refine RG.z9 ?_ | refine RG.zA ?_ | refine RG.zB ?_ | refine RG.zC ?_)
      (first | refine RG.z0 ?_ | refine RG.z1 ?_ | refine RG.z2 ?_ | refine RG.z3 ?_ | refine RG.z4 ?_ | refine RG.z5 ?_ | refine RG.z6 ?_ | refine RG.z7 ?_ | refine RG.z8 ?_ | refine RG.z9 ?_ | refine RG.zA ?_ | refine RG.zB ?_ | refine RG.zC ?_)
      (first | refine RG.z0 ?_ | refine RG.z1 ?_ | refine RG.z2 ?_ | refine RG.z3 ?_ | refine RG.z4 ?_ | refine RG.z5 ?_ | refine RG.z6 ?_ | refine RG.z7 ?_ | refine RG.z8 ?_ | refine RG.z9 ?_ | refine RG.zA ?_ | refine RG.zB ?_ | refine RG.zC ?_)
      refine RG.p (by first | exact trivial | exact rfl) (evP_iadr (by conv => lhs; whnf) (by conv => lhs; whnf) (by omega)) ?_
      refine RG.p (by first | exact trivial | exact rfl) (evP_ldc (by conv => lhs; whnf) (partD_one (d := B8 s[n]) (by simp [hn]))) ?_
      refine RG.calvP (by first | exact trivial | exact rfl) rfl rfl (hp s[n]) ?_
      simp only [idxF] at h3
      cases c1 : p s[n]
      · rw [c1] at h3
        refine RG.nilS (AC.cond_f rfl (AC.skip (AC.reg ?_)))
        repeat (first | refine RG.z0 ?_ | refine RG.z1 ?_ | refine RG.z2 ?_ | refine RG.z3 ?_ | refine RG.z4 ?_ | refine RG.z5 ?_ | refine RG.z6 ?_ | refine RG.z7 ?_ | refine RG.z8 ?_ | refine RG.z9 ?_ | refine RG.zA ?_ | refine RG.zB ?_ | refine RG.zC ?_)
        exact RG.nil (ih (n + 1) _ ⟨rfl, by omega, h3⟩ (by omega) _ ⟨rfl, rfl, rfl, rfl, trivial⟩)
      · rw [c1] at h3
        refine RG.nilS (AC.cond_t rfl (AC.seq (AC.reg ?_)))
        repeat (first | refine RG.z0 ?_ | refine RG.z1 ?_ | refine RG.z2 ?_ | refine RG.z3 ?_ | refine RG.z4 ?_ | refine RG.z5 ?_ | refine RG.z6 ?_ | refine RG.z7 ?_ | refine RG.z8 ?_ | refine RG.z9 ?_ | refine RG.zA ?_ | refine RG.zB ?_ | refine RG.zC ?_)
        exact RG.nilS (AC.ret (fin rfl ⟨by rw [h3]; rfl, rfl⟩))

theorem idxF_any (p : UInt8 → Bool) : ∀ (l : List UInt8) (n : Nat), decide (idxF p l n ≥ 0) = l.any p
  | [], n => rfl
  | c :: l, n => by
    have ih := idxF_any p l (n + 1)
    have e : idxF p (c :: l) n = bif p c then (n : Int) else idxF p l (n + 1) := rfl
    rw [List.any_cons, e]
    cases h : p c with
    | false => rw [cond_false, ih, Bool.false_or]
    | true => rw [cond_true, Bool.true_or]; simp

theorem containsFunc_ok {f : Nat} {p : UInt8 → Bool} (hp : ∀ c : UInt8, PF Go.Proofs.Tryd.prog G f [.int .u8 c.toNat] (.bool (p c))) (s : List UInt8) (hs : s.length ≤ 4611686018427387904) (tag : Option (Nat × Nat)) :
    PF Go.Proofs.Tryd.prog G 76 [.lst (s.map B8) s.length 1 tag, .func (.func f) [] []] (.bool (s.any p)) := by
  intro H
  refine CALL.of cF76 (Nat.le_of_ble_eq_true rfl) ?_
  refine AC.seq (AC.reg ?_)
  repeat (first | refine RG.z0 ?_ | refine RG.z1 ?_ | refine RG.z2 ?_ | refine RG.z3 ?_ | refine RG.z4 ?_ | refine RG.z5 ?_ | refine RG.z6 ?_ | refine RG.z7 ?_ | refine RG.z8 ?_ | refine RG.z9 ?_ | refine RG.zA ?_ | refine RG.zB ?_ | refine RG.zC ?_)
  refine RG.nilS (AC.seq (AC.reg ?_))
  repeat (first | refine RG.z0 ?_ | refine RG.z1 ?_ | refine RG.z2 ?_ | refine RG.z3 ?_ | refine RG.z4 ?_ | refine RG.z5 ?_ | refine RG.z6 ?_ | refine RG.z7 ?_ | refine RG.z8 ?_ | refine RG.z9 ?_ | refine RG.zA ?_ | refine RG.zB ?_ | refine RG.zC ?_)
  refine RG.callP (by first | exact trivial | exact rfl) rfl (indexFunc_ok hp s hs tag) ?_
  repeat (first | refine RG.z0 ?_ | refine RG.z1 ?_ | refine RG.z2 ?_ | refine RG.z3 ?_ | refine RG.z4 ?_ | refine RG.z5 ?_ | refine RG.z6 ?_ | refine RG.z7 ?_ | refine RG.z8 ?_ | refine RG.z9 ?_ | refine RG.zA ?_ | refine RG.zB ?_ | refine RG.zC ?_)
  exact RG.nilS (AC.ret (fin rfl ⟨congrArg DV.bool (idxF_any p s 0), rfl⟩))
end Go.Run.Tryd
/- tree.named. -/
namespace Go.Run.Tryd
open Go Go.Run
/-! cardcase/tree.named -/
def F53 : FN := ⟨21, (.seq (.reg [⟨(some 2), none, .mv (.c (.bool false))⟩])
  (.seq (.reg [⟨(some 3), none, .mv (.t 0)⟩,
    ⟨(some 4), none, .bin .neq (.t 3) (.c (.str []))⟩,
    ⟨(some 5), none, .mv (.t 4)⟩,
    ⟨(some 6), some (5, true), .mv (.t 0)⟩,
    ⟨(some 7), some (5, true), .len true (.t 6)⟩,
    ⟨(some 8), some (5, true), .bin .leq (.t 7) (.c (.int .i64 32))⟩,
    ⟨(some 9), none, .pick (.t 5) (.t 8) (.c (.bool false))⟩,
    ⟨(some 10), none, .mv (.t 9)⟩,
    ⟨(some 11), some (10, true), .mv (.t 0)⟩,
    ⟨(some 12), some (10, true), .idx (.t 11) (.c (.int .i64 0))⟩,
    ⟨(some 13), some (10, true), .call 75 [(.t 12)]⟩,
    ⟨(some 14), none, .pick (.t 10) (.t 13) (.c (.bool false))⟩,
    ⟨(some 15), none, .mv (.t 14)⟩,
    ⟨(some 16), some (15, true), .mv (.t 0)⟩,
    ⟨(some 17), some (15, true), .s2b 5 (.t 16)⟩,
    ⟨(some 18), some (15, true), .call 76 [(.t 17), (.c (.func (.func 77) [] []))]⟩,
    ⟨(some 19), some (15, true), .un .not (.t 18)⟩,
    ⟨(some 20), none, .pick (.t 15) (.t 19) (.c (.bool false))⟩,
    ⟨(some 2), none, .mv (.t 20)⟩])
  .ret)), [.tmp 2]⟩
theorem cF53 : cFn Go.Proofs.Tryd.prog 53 = some F53 := by kernel_rfl
variable {G : Gl}

/-- Is a text an element's name? -/
def isName : List UInt8 → Bool
  | [] => false
  | c :: l => decide ((((c :: l).length : Nat) : Int) ≤ 32) && (isLetter c && !((c :: l).any fun c => !isNameC c))

theorem named_ok (s : List UInt8) : PF Go.Proofs.Tryd.prog G 53 [.str s] (.bool (isName s)) := by
  intro H
  refine CALL.of cF53 (Nat.le_of_ble_eq_true rfl) ?_
  refine AC.seq (AC.reg ?_)
  repeat (first | refine RG.z0 ?_ | refine RG.z1 ?_ | refine RG.z2 ?_ | refine RG.z3 ?_ | refine RG.z4 ?_ | refine RG.z5 ?_ | refine RG.z6 ?_ | refine RG.z7 ?_ | refine RG.z8 ?_ | refine RG.z9 ?_ | refine RG.zA ?_ | refine RG.zB ?_ | refine RG.zC ?_)
  refine RG.nilS (AC.seq (AC.reg ?_))
  cases s with
  | nil =>
    repeat (first | refine RG.z0 ?_ | refine RG.z1 ?_ | refine RG.z2 ?_ | refine RG.z3 ?_ | refine RG.z4 ?_ | refine RG.z5 ?_ | refine RG.z6 ?_ | refine RG.z7 ?_ | refine RG.z8 ?_ | refine RG.z9 ?_ | refine RG.zA ?_ | refine RG.zB ?_ | refine RG.zC ?_)
    exact RG.nilS (AC.ret (fin rfl ⟨rfl, rfl⟩))
  | cons c l =>
    have e0 : (!((c :: l) == ([] : List UInt8))) = true := rfl
    repeat (first | refine RG.z0 ?_ | refine RG.z1 ?_ | refine RG.z2 ?_ | refine RG.z3 ?_ | refine RG.z4 ?_ | refine RG.z5 ?_ | refine RG.z6 ?_ | refine RG.z7 ?_ | refine RG.z8 ?_ | refine RG.z9 ?_ | refine RG.zA ?_ | refine RG.zB ?_ | refine RG.zC ?_)
    cases e1 : decide ((((c :: l).length : Nat) : Int) ≤ 32)
    · repeat (first | refine RG.z0 ?_ | refine RG.z1 ?_ | refine RG.z2 ?_ | refine RG.z3 ?_ | refine RG.z4 ?_ | refine RG.z5 ?_ | refine RG.z6 ?_ | refine RG.z7 ?_ | refine RG.z8 ?_ | refine RG.z9 ?_ | refine RG.zA ?_ | refine RG.zB ?_ | refine RG.zC ?_)
      exact RG.nilS (AC.ret (fin rfl ⟨by show DV.bool false = _; rw [isName, e1]; rfl, rfl⟩))
    · repeat (first | refine RG.z0 ?_ | refine RG.z1 ?_ | refine RG.z2 ?_ | refine RG.z3 ?_ | refine RG.z4 ?_ | refine RG.z5 ?_ | refine RG.z6 ?_ | refine RG.z7 ?_ | refine RG.z8 ?_ | refine RG.z9 ?_ | refine RG.zA ?_ | refine RG.zB ?_ | refine RG.zC ?_)
      refine RG.callP (by first | exact trivial | exact rfl) rfl (treeLetter_ok c) ?_
      repeat (first | refine RG.z0 ?_ | refine RG.z1 ?_ | refine RG.z2 ?_ | refine RG.z3 ?_ | refine RG.z4 ?_ | refine RG.z5 ?_ | refine RG.z6 ?_ | refine RG.z7 ?_ | refine RG.z8 ?_ | refine RG.z9 ?_ | refine RG.zA ?_ | refine RG.zB ?_ | refine RG.zC ?_)
      cases e2 : isLetter c
      · repeat (first | refine RG.z0 ?_ | refine RG.z1 ?_ | refine RG.z2 ?_ | refine RG.z3 ?_ | refine RG.z4 ?_ | refine RG.z5 ?_ | refine RG.z6 ?_ | refine RG.z7 ?_ | refine RG.z8 ?_ | refine RG.z9 ?_ | refine RG.zA ?_ | refine RG.zB ?_ | refine RG.zC ?_)
        exact RG.nilS (AC.ret (fin rfl ⟨by show DV.bool false = _; rw [isName, e1, e2]; rfl, rfl⟩))
      · repeat (first | refine RG.z0 ?_ | refine RG.z1 ?_ | refine RG.z2 ?_ | refine RG.z3 ?_ | refine RG.z4 ?_ | refine RG.z5 ?_ | refine RG.z6 ?_ | refine RG.z7 ?_ | refine RG.z8 ?_ | refine RG.z9 ?_ | refine RG.zA ?_ | refine RG.zB ?_ | refine RG.zC ?_)
        refine RG.s (by first | exact trivial | exact rfl) (ST.s2b rfl ?_)
        have hlen := of_decide_eq_true e1
        refine RG.callP (by first | exact trivial | exact rfl) rfl (containsFunc_ok namedC_ok (c :: l) (by omega) none) ?_
        repeat (first | refine RG.z0 ?_ | refine RG.z1 ?_ | refine RG.z2 ?_ | refine RG.z3 ?_ | refine RG.z4 ?_ | refine RG.z5 ?_ | refine RG.z6 ?_ | refine RG.z7 ?_ | refine RG.z8 ?_ | refine RG.z9 ?_ | refine RG.zA ?_ | refine RG.zB ?_ | refine RG.zC ?_)
        exact RG.nilS (AC.ret (fin rfl ⟨by rw [isName, e1, e2]; rfl, rfl⟩))
end Go.Run.Tryd
/- A reader's entity. -/
namespace Go.Run.Tryd
open Go Go.Run Go.RowKit
/-! (*cardcase/markup.reader).entity -/
def F68 : FN := ⟨80, (.seq (.reg [⟨(some 2), none, .mv (.c (.str []))⟩])
  (.seq (.reg [⟨(some 11), none, .mv (.t 0)⟩,
    ⟨(some 12), none, .nilc (.t 11)⟩,
    ⟨(some 13), none, .fadr 1 (.t 12)⟩,
    ⟨(some 14), none, .ld false 1 (.t 13)⟩,
    ⟨(some 3), none, .mv (.t 14)⟩])
  (.seq (.seq (.reg [⟨(some 15), none, .bld [(.str []), (.str [])] [(0, 1, (.c (.str [38, 97, 109, 112, 59]))), (1, 1, (.c (.str [38])))]⟩,
    ⟨(some 16), none, .bld [(.str []), (.str [])] [(0, 1, (.c (.str [38, 108, 116, 59]))), (1, 1, (.c (.str [60])))]⟩,
    ⟨(some 17), none, .bld [(.str []), (.str [])] [(0, 1, (.c (.str [38, 103, 116, 59]))), (1, 1, (.c (.str [62])))]⟩,
    ⟨(some 18), none, .bld [(.str []), (.str [])] [(0, 1, (.c (.str [38, 113, 117, 111, 116, 59]))), (1, 1, (.c (.str [34])))]⟩,
    ⟨(some 19), none, .bld [(.str []), (.str [])] [(0, 1, (.c (.str [38, 97, 112, 111, 115, 59]))), (1, 1, (.c (.str [39])))]⟩,
    ⟨(some 20), none, .bsl 110 5 2 [(.str []), (.str []), (.str []), (.str []), (.str []), (.str []), (.str []), (.str []), (.str []), (.str [])] [(0, 2, (.t 15)), (2, 2, (.t 16)), (4, 2, (.t 17)), (6, 2, (.t 18)), (8, 2, (.t 19))]⟩,
    ⟨(some 21), none, .len false (.t 20)⟩,
    ⟨(some 22), none, .mv (.c (.int .i64 0))⟩])
  (.block 0 (.loop (.seq (.reg [⟨(some 23), none, .bin .lss (.t 22) (.t 21)⟩])
  (.seq (.cond (.t 23) .skip
  (.exit 0))
  (.seq (.block 1 (.seq (.reg [⟨(some 24), none, .iadr 2 (.t 20) (.t 22)⟩,
    ⟨(some 25), none, .ld true 2 (.t 24)⟩,
    ⟨(some 5), none, .alloc [(.str []), (.str [])] 110⟩,
    ⟨none, none, .st 2 (.t 5) (.t 25)⟩])
  (.seq (.reg [⟨(some 26), none, .mv (.t 0)⟩,
    ⟨(some 27), none, .fadr 0 (.t 5)⟩,
    ⟨(some 28), none, .ld false 1 (.t 27)⟩,
    ⟨(some 29), none, .call 20 [(.t 26), (.t 28)]⟩])
  (.cond (.t 29) (.seq (.reg [⟨(some 30), none, .fadr 1 (.t 5)⟩,
    ⟨(some 31), none, .ld false 1 (.t 30)⟩,
    ⟨(some 2), none, .mv (.t 31)⟩])
  .ret)
  .skip))))
  (.reg [⟨(some 32), none, .bin .add (.t 22) (.c (.int .i64 1))⟩,
    ⟨(some 22), none, .mv (.t 32)⟩])))))))
  (.seq (.reg [⟨(some 33), none, .mv (.t 0)⟩,
    ⟨(some 34), none, .call 20 [(.t 33), (.c (.str [38, 35]))]⟩,
    ⟨(some 35), none, .mv (.t 3)⟩,
    ⟨(some 36), none, .call 24 [(.t 34), (.t 35), (.c (.int .i64 3))]⟩])
  (.seq (.reg [⟨(some 37), none, .mv (.t 0)⟩,
    ⟨(some 38), none, .call 65 [(.t 37), (.c (.func (.func 67) [] [])), (.c (.int .i64 7))]⟩,
    ⟨(some 6), none, .mv (.t 38)⟩])
  (.seq (.reg [⟨(some 39), none, .mv (.t 6)⟩,
    ⟨(some 40), none, .bin .neq (.t 39) (.c (.str []))⟩,
    ⟨(some 41), none, .mv (.t 40)⟩,
    ⟨(some 42), some (41, true), .mv (.t 0)⟩,
    ⟨(some 43), some (41, true), .call 20 [(.t 42), (.c (.str [59]))]⟩,
    ⟨(some 44), none, .pick (.t 41) (.t 43) (.c (.bool false))⟩,
    ⟨(some 45), none, .mv (.t 3)⟩,
    ⟨(some 46), none, .call 24 [(.t 44), (.t 45), (.c (.int .i64 3))]⟩])
  (.seq (.reg [⟨(some 7), none, .mv (.c (.int .i32 0))⟩])
  (.seq (.seq (.reg [⟨(some 47), none, .mv (.t 6)⟩,
    ⟨(some 48), none, .s2b 5 (.t 47)⟩,
    ⟨(some 49), none, .len false (.t 48)⟩,
    ⟨(some 50), none, .mv (.c (.int .i64 0))⟩])
  (.block 2 (.loop (.seq (.reg [⟨(some 51), none, .bin .lss (.t 50) (.t 49)⟩])
  (.seq (.cond (.t 51) .skip
  (.exit 2))
  (.seq (.block 3 (.seq (.reg [⟨(some 52), none, .iadr 1 (.t 48) (.t 50)⟩,
    ⟨(some 53), none, .ld false 1 (.t 52)⟩,
    ⟨(some 9), none, .mv (.t 53)⟩])
  (.reg [⟨(some 54), none, .mv (.t 7)⟩,
    ⟨(some 55), none, .bin .mul (.c (.int .i32 10)) (.t 54)⟩,
    ⟨(some 56), none, .mv (.t 9)⟩,
    ⟨(some 57), none, .bin .sub (.t 56) (.c (.int .u8 48))⟩,
    ⟨(some 58), none, .conv .i32 (.t 57)⟩,
    ⟨(some 59), none, .bin .add (.t 55) (.t 58)⟩,
    ⟨(some 7), none, .mv (.t 59)⟩])))
  (.reg [⟨(some 60), none, .bin .add (.t 50) (.c (.int .i64 1))⟩,
    ⟨(some 50), none, .mv (.t 60)⟩])))))))
  (.seq (.reg [⟨(some 61), none, .mv (.t 7)⟩,
    ⟨(some 62), none, .bin .geq (.t 61) (.c (.int .i32 32))⟩,
    ⟨(some 63), none, .mv (.t 62)⟩,
    ⟨(some 64), some (63, false), .mv (.t 7)⟩,
    ⟨(some 65), some (63, false), .call 83 [(.c (.str [9, 10, 13])), (.t 64)]⟩,
    ⟨(some 66), some (63, false), .mv (.t 65)⟩,
    ⟨(some 67), some (66, true), .mv (.t 7)⟩,
    ⟨(some 68), some (66, true), .bin .gtr (.t 67) (.c (.int .i32 0))⟩,
    ⟨(some 69), some (63, false), .pick (.t 66) (.t 68) (.c (.bool false))⟩,
    ⟨(some 70), none, .pick (.t 63) (.c (.bool true)) (.t 69)⟩,
    ⟨(some 10), none, .mv (.t 70)⟩])
  (.seq (.reg [⟨(some 71), none, .mv (.t 10)⟩,
    ⟨(some 72), none, .mv (.t 71)⟩,
    ⟨(some 73), some (72, true), .mv (.t 7)⟩,
    ⟨(some 74), some (72, true), .call 84 [(.t 73)]⟩,
    ⟨(some 75), none, .pick (.t 72) (.t 74) (.c (.bool false))⟩,
    ⟨(some 76), none, .mv (.t 3)⟩,
    ⟨(some 77), none, .call 24 [(.t 75), (.t 76), (.c (.int .i64 2))]⟩])
  (.seq (.reg [⟨(some 78), none, .mv (.t 7)⟩,
    ⟨(some 79), none, .i2s (.t 78)⟩,
    ⟨(some 2), none, .mv (.t 79)⟩])
  .ret))))))))))), [.tmp 2]⟩
theorem cF68 : cFn Go.Proofs.Tryd.prog 68 = some F68 := by kernel_rfl
variable {G : Gl}

/-- The number that digits say, in 32 bits (seven digits at most). -/
def numF (l : List UInt8) : Int := l.foldl (fun n c => 10 * n + ((c.toNat : Int) - 48)) 0

def ents : List (List UInt8 × List UInt8) := [([38, 97, 109, 112, 59], [38]), ([38, 108, 116, 59], [60]), ([38, 103, 116, 59], [62]), ([38, 113, 117, 111, 116, 59], [34]), ([38, 97, 112, 111, 115, 59], [39])]

/-- The letter that stands for something else: it, and the place behind it. -/
def entityF (s : List UInt8) (i : Nat) : RES (List UInt8 × Nat) :=
  match ents.find? (fun p => p.1.isPrefixOf (s.drop i)) with
  | some p => .ok (p.2, i + p.1.length)
  | none =>
    bif !(List.isPrefixOf [38, 35] (s.drop i)) then .error (i, 3) else
    let k := span isDigit 7 (s.drop (i + 2))
    let ds := (s.drop (i + 2)).take k
    bif !(!(ds == []) && List.isPrefixOf [59] (s.drop (i + 2 + k))) then .error (i, 3) else
    let n := numF ds
    bif !((decide (n ≥ 32) || (decide (0 ≤ Lib.indexByte [9, 10, 13] n.toNat.toUInt8) && decide (n > 0))) && Lib.validRune n) then .error (i, 2) else
    .ok ((Utf8.encode n).data.toList, i + 2 + k + 1)

theorem SubH.updB {A B : Hp} (h : SubH A B) (b : Nat) (o : Option DO) : SubH (A.upd b o) (B.upd b o) := by
  intro k x hk
  by_cases e : k = b
  · subst e; rw [Hp.upd_same] at hk ⊢; exact hk
  · rw [Hp.upd_ne e] at hk ⊢; exact h k x hk

def entT : List DV := [.str [38, 97, 109, 112, 59], .str [38], .str [38, 108, 116, 59], .str [60], .str [38, 103, 116, 59], .str [62], .str [38, 113, 117, 111, 116, 59], .str [34], .str [38, 97, 112, 111, 115, 59], .str [39]]

theorem ent_row (s : List UInt8) : ∀ n, n < 5 → ∃ p, partD true 0 2 (entT.drop (n * 2)) = some (.agg [.str p.1, .str p.2]) ∧ p.1.length ≤ 6 ∧
    ∀ f : List UInt8 × List UInt8 → Bool, (ents.drop n).find? f = match f p with | true => some p | false => (ents.drop (n + 1)).find? f
  | 0, _ => ⟨_, rfl, by decide, fun f => rfl⟩
  | 1, _ => ⟨_, rfl, by decide, fun f => rfl⟩
  | 2, _ => ⟨_, rfl, by decide, fun f => rfl⟩
  | 3, _ => ⟨_, rfl, by decide, fun f => rfl⟩
  | 4, _ => ⟨_, rfl, by decide, fun f => rfl⟩
  | n + 5, h => by omega

theorem digit_range {c : UInt8} (h : isDigit c = true) : 48 ≤ c.toNat ∧ c.toNat ≤ 57 := by
  simp only [isDigit, Bool.and_eq_true, decide_eq_true_eq, UInt8.le_iff_toNat_le] at h
  exact h

theorem numF_snoc (l : List UInt8) (c : UInt8) : numF (l ++ [c]) = 10 * numF l + ((c.toNat : Int) - 48) := by simp [numF]
theorem numF_from : ∀ (l : List UInt8) (n : Int), 0 ≤ n → (∀ c ∈ l, isDigit c = true) → 0 ≤ l.foldl (fun n c => 10 * n + ((c.toNat : Int) - 48)) n ∧ l.foldl (fun n c => 10 * n + ((c.toNat : Int) - 48)) n < (n + 1) * 10 ^ l.length
  | [], n, hn, _ => by simp; omega
  | c :: l, n, hn, h => by
    have hd := digit_range (h c (by simp))
    obtain ⟨h1, h2⟩ := numF_from l (10 * n + ((c.toNat : Int) - 48)) (by omega) (fun d hd => h d (by simp [hd]))
    refine ⟨h1, Int.lt_of_lt_of_le h2 ?_⟩
    rw [List.length_cons, Int.pow_succ, Int.mul_comm (10 ^ l.length) 10, ← Int.mul_assoc]
    exact Int.mul_le_mul_of_nonneg_right (by omega) (Int.le_of_lt (Int.pow_pos (by omega)))
theorem numF_range (l : List UInt8) (h : ∀ c ∈ l, isDigit c = true) : 0 ≤ numF l ∧ numF l < 10 ^ l.length := by
  have := numF_from l 0 (by omega) h
  simpa [numF] using this
theorem numF_seven {l : List UInt8} (h : ∀ c ∈ l, isDigit c = true) (hl : l.length ≤ 7) : 0 ≤ numF l ∧ numF l < 10000000 := by
  have h1 := numF_range l h
  have h2 : l.length = 0 ∨ l.length = 1 ∨ l.length = 2 ∨ l.length = 3 ∨ l.length = 4 ∨ l.length = 5 ∨ l.length = 6 ∨ l.length = 7 := by omega
  rcases h2 with h | h | h | h | h | h | h | h <;> rw [h] at h1 <;> omega

theorem span_max (p : UInt8 → Bool) : ∀ (m : Nat) (l : List UInt8), span p m l ≤ m
  | 0, l => by simp [span]
  | m + 1, [] => by simp [span]
  | m + 1, c :: l => by
    have := span_max p m l
    simp only [span]
    cases p c <;> simp <;> omega
theorem span_all (p : UInt8 → Bool) : ∀ (m : Nat) (l : List UInt8), ∀ c ∈ l.take (span p m l), p c = true
  | 0, l, c, h => by simp [span] at h
  | m + 1, [], c, h => by simp at h
  | m + 1, d :: l, c, h => by
    simp only [span] at h
    cases e : p d with
    | false => rw [e] at h; simp at h
    | true =>
      rw [e] at h
      simp only [cond_true, List.take_succ_cons, List.mem_cons] at h
      rcases h with rfl | h
      · exact e
      · exact span_all p m l c h

theorem entity_ok {b : Nat} {s : List UInt8} {i : Nat} {ty : TypeId} {H : Hp} (hb : H b = rd s i ty) (hi : i ≤ s.length) (hs : s.length ≤ 4611686018427387000) :
    CALL Go.Proofs.Tryd.prog G 68 [.ptr b 0] H (Kr1 (entityF s i) (fun v => .str v.1) (·.2) s b ty H) (Kp1 (entityF s i) s b ty H) := by
  refine CALL.of cF68 (Nat.le_of_ble_eq_true rfl) ?_
  refine AC.seq (AC.reg ?_)
  repeat (first | refine RG.z0 ?_ | refine RG.z1 ?_ | refine RG.z2 ?_ | refine RG.z3 ?_ | refine RG.z4 ?_ | refine RG.z5 ?_ | refine RG.z6 ?_ | refine RG.z7 ?_ | refine RG.z8 ?_ | refine RG.z9 ?_ | refine RG.zA ?_ | refine RG.zB ?_ | refine RG.zC ?_)
  refine RG.nilS (AC.seq (AC.reg ?_))
  repeat (first | refine RG.z0 ?_ | refine RG.z1 ?_ | refine RG.z2 ?_ | refine RG.z3 ?_ | refine RG.z4 ?_ | refine RG.z5 ?_ | refine RG.z6 ?_ | refine RG.z7 ?_ | refine RG.z8 ?_ | refine RG.z9 ?_ | refine RG.zA ?_ | refine RG.zB ?_ | refine RG.zC ?_)
  refine RG.nilS (AC.seq (AC.seq (AC.reg ?_)))
  repeat (first | refine RG.z0 ?_ | refine RG.z1 ?_ | refine RG.z2 ?_ | refine RG.z3 ?_ | refine RG.z4 ?_ | refine RG.z5 ?_ | refine RG.z6 ?_ | refine RG.z7 ?_ | refine RG.z8 ?_ | refine RG.z9 ?_ | refine RG.zA ?_ | refine RG.zB ?_ | refine RG.zC ?_)
  refine RG.st (ST.bsl (cs := entT) rfl fun g hg => ?_)
  refine RG.drop (SubH.fresh hg) ?_
  repeat (first | refine RG.z0 ?_ | refine RG.z1 ?_ | refine RG.z2 ?_ | refine RG.z3 ?_ | refine RG.z4 ?_ | refine RG.z5 ?_ | refine RG.z6 ?_ | refine RG.z7 ?_ | refine RG.z8 ?_ | refine RG.z9 ?_ | refine RG.zA ?_ | refine RG.zB ?_ | refine RG.zC ?_)
  refine RG.nilS ?_
  refine AC.bloopH (α := Nat) (β := Unit) (fun n => 5 - n) (fun n => [(0, .ptr b 0), (3, .int .i64 i), (20, .lst entT 5 2 (some (g, 0))), (21, .int .i64 5), (22, .int .i64 n)])
    (fun n H' => H' = H ∧ n ≤ 5 ∧ ents.find? (fun p => p.1.isPrefixOf (s.drop i)) = (ents.drop n).find? (fun p => p.1.isPrefixOf (s.drop i))) (fun _ => [(0, .ptr b 0), (3, .int .i64 i)])
    (fun _ H' => H' = H ∧ ents.find? (fun p => p.1.isPrefixOf (s.drop i)) = none) ?_ ?_ 0 H ⟨rfl, by omega, rfl⟩ ⟨rfl, rfl, rfl, rfl, rfl, trivial⟩
  · intro _ He fr ⟨h1, hfind⟩ hfr
    subst h1
    have hF : entityF s i = (bif !(List.isPrefixOf [38, 35] (s.drop i)) then .error (i, 3) else
        bif !(!((s.drop (i + 2)).take (span isDigit 7 (s.drop (i + 2))) == []) && List.isPrefixOf [59] (s.drop (i + 2 + span isDigit 7 (s.drop (i + 2))))) then .error (i, 3) else
        bif !((decide (numF ((s.drop (i + 2)).take (span isDigit 7 (s.drop (i + 2)))) ≥ 32) || (decide (0 ≤ Lib.indexByte [9, 10, 13] (numF ((s.drop (i + 2)).take (span isDigit 7 (s.drop (i + 2))))).toNat.toUInt8) && decide (numF ((s.drop (i + 2)).take (span isDigit 7 (s.drop (i + 2)))) > 0))) && Lib.validRune (numF ((s.drop (i + 2)).take (span isDigit 7 (s.drop (i + 2)))))) then .error (i, 2) else
        .ok ((Utf8.encode (numF ((s.drop (i + 2)).take (span isDigit 7 (s.drop (i + 2)))))).data.toList, i + 2 + span isDigit 7 (s.drop (i + 2)) + 1)) := by
      simp only [entityF, hfind]
    refine AC.to _ hfr (AC.seq (AC.reg ?_))
    repeat (first | refine RG.z0 ?_ | refine RG.z1 ?_ | refine RG.z2 ?_ | refine RG.z3 ?_ | refine RG.z4 ?_ | refine RG.z5 ?_ | refine RG.z6 ?_ | refine RG.z7 ?_ | refine RG.z8 ?_ | refine RG.z9 ?_ | refine RG.zA ?_ | refine RG.zB ?_ | refine RG.zC ?_)
    refine RG.callR (by first | exact trivial | exact rfl) rfl (has_ok (t := [38, 35]) hb hi (by simp; omega)) ?_
    repeat (first | refine RG.z0 ?_ | refine RG.z1 ?_ | refine RG.z2 ?_ | refine RG.z3 ?_ | refine RG.z4 ?_ | refine RG.z5 ?_ | refine RG.z6 ?_ | refine RG.z7 ?_ | refine RG.z8 ?_ | refine RG.z9 ?_ | refine RG.zA ?_ | refine RG.zB ?_ | refine RG.zC ?_)
    refine RG.call (by first | exact trivial | exact rfl) rfl (need_ok _ i 3 _) (fun d H' ⟨e1, e2, e3⟩ => ?_) (fun d H' ⟨e1, e2, e3⟩ => ?_)
    rotate_left
    · rw [e1] at hF e3
      exact ⟨H', SubH.refl _, (i, 3), i, by rw [hF]; rfl, e2, hi, e3⟩
    subst e2; subst e3
    rw [e1] at hF ⊢
    simp only [Bool.not_true, cond_false, cond_true, List.length_cons, List.length_nil] at hF ⊢
    have hi2 : i + 2 ≤ s.length := by
      have := (List.isPrefixOf_iff_prefix.1 e1).length_le
      simp at this; omega
    refine RG.nilS (AC.seq (AC.reg ?_))
    repeat (first | refine RG.z0 ?_ | refine RG.z1 ?_ | refine RG.z2 ?_ | refine RG.z3 ?_ | refine RG.z4 ?_ | refine RG.z5 ?_ | refine RG.z6 ?_ | refine RG.z7 ?_ | refine RG.z8 ?_ | refine RG.z9 ?_ | refine RG.zA ?_ | refine RG.zB ?_ | refine RG.zC ?_)
    refine RG.callR (by first | exact trivial | exact rfl) rfl (while_ok (p := isDigit) (m := 7) digit_ok (b := b) (s := s) (i := i + 2) (ty := ty) Hp.upd_same hi2 (by omega)) ?_
    have hk1 := span_le isDigit 7 (s.drop (i + 2))
    have hk2 := span_max isDigit 7 (s.drop (i + 2))
    have hk3 := span_all isDigit 7 (s.drop (i + 2))
    generalize hkk : span isDigit 7 (s.drop (i + 2)) = k at hk1 hk2 hk3 hF
    generalize hdd : (s.drop (i + 2)).take k = ds at hk3 hF
    have hdl : ds.length ≤ 7 := by rw [← hdd, List.length_take]; omega
    simp only [List.length_drop] at hk1
    rw [Hp.upd_upd]
    repeat (first | refine RG.z0 ?_ | refine RG.z1 ?_ | refine RG.z2 ?_ | refine RG.z3 ?_ | refine RG.z4 ?_ | refine RG.z5 ?_ | refine RG.z6 ?_ | refine RG.z7 ?_ | refine RG.z8 ?_ | refine RG.z9 ?_ | refine RG.zA ?_ | refine RG.zB ?_ | refine RG.zC ?_)
    refine RG.nilS (AC.seq (AC.reg ?_))
    repeat (first | refine RG.z0 ?_ | refine RG.z1 ?_ | refine RG.z2 ?_ | refine RG.z3 ?_ | refine RG.z4 ?_ | refine RG.z5 ?_ | refine RG.z6 ?_ | refine RG.z7 ?_ | refine RG.z8 ?_ | refine RG.z9 ?_ | refine RG.zA ?_ | refine RG.zB ?_ | refine RG.zC ?_)
    cases e4 : ds == []
    rotate_left
    · repeat (first | refine RG.z0 ?_ | refine RG.z1 ?_ | refine RG.z2 ?_ | refine RG.z3 ?_ | refine RG.z4 ?_ | refine RG.z5 ?_ | refine RG.z6 ?_ | refine RG.z7 ?_ | refine RG.z8 ?_ | refine RG.z9 ?_ | refine RG.zA ?_ | refine RG.zB ?_ | refine RG.zC ?_)
      refine RG.call (by first | exact trivial | exact rfl) rfl (need_ok false i 3 _) (fun d H' ⟨f1, f2, f3⟩ => by cases f1) (fun d H' ⟨f1, f2, f3⟩ => ?_)
      rw [e4] at hF
      exact ⟨H', SubH.refl _, (i, 3), i + 2 + k, by rw [hF]; rfl, f2, by omega, f3⟩
    rw [e4] at hF
    repeat (first | refine RG.z0 ?_ | refine RG.z1 ?_ | refine RG.z2 ?_ | refine RG.z3 ?_ | refine RG.z4 ?_ | refine RG.z5 ?_ | refine RG.z6 ?_ | refine RG.z7 ?_ | refine RG.z8 ?_ | refine RG.z9 ?_ | refine RG.zA ?_ | refine RG.zB ?_ | refine RG.zC ?_)
    refine RG.callR (by first | exact trivial | exact rfl) rfl (has_ok (t := [59]) (b := b) (s := s) (i := i + 2 + k) (ty := ty) Hp.upd_same (by omega) (by simp; omega)) ?_
    rw [Hp.upd_upd]
    repeat (first | refine RG.z0 ?_ | refine RG.z1 ?_ | refine RG.z2 ?_ | refine RG.z3 ?_ | refine RG.z4 ?_ | refine RG.z5 ?_ | refine RG.z6 ?_ | refine RG.z7 ?_ | refine RG.z8 ?_ | refine RG.z9 ?_ | refine RG.zA ?_ | refine RG.zB ?_ | refine RG.zC ?_)
    refine RG.call (by first | exact trivial | exact rfl) rfl (need_ok _ i 3 _) (fun d H' ⟨f1, f2, f3⟩ => ?_) (fun d H' ⟨f1, f2, f3⟩ => ?_)
    rotate_left
    · rw [f1] at hF f3
      exact ⟨H', SubH.refl _, (i, 3), i + 2 + k, by rw [hF]; rfl, f2, by omega, f3⟩
    subst f2; subst f3
    rw [f1] at hF ⊢
    simp only [Bool.not_true, Bool.not_false, Bool.and_true, cond_false, cond_true, List.length_cons, List.length_nil] at hF ⊢
    have hi3 : i + 2 + k + 1 ≤ s.length := by
      have := (List.isPrefixOf_iff_prefix.1 f1).length_le
      simp at this; omega
    obtain ⟨hn1, hn2⟩ := numF_seven hk3 hdl
    refine RG.nilS (AC.seq (AC.reg ?_))
    repeat (first | refine RG.z0 ?_ | refine RG.z1 ?_ | refine RG.z2 ?_ | refine RG.z3 ?_ | refine RG.z4 ?_ | refine RG.z5 ?_ | refine RG.z6 ?_ | refine RG.z7 ?_ | refine RG.z8 ?_ | refine RG.z9 ?_ | refine RG.zA ?_ | refine RG.zB ?_ | refine RG.zC ?_)
    refine RG.nilS (AC.seq (AC.seq (AC.reg ?_)))
    repeat (first | refine RG.z0 ?_ | refine RG.z1 ?_ | refine RG.z2 ?_ | refine RG.z3 ?_ | refine RG.z4 ?_ | refine RG.z5 ?_ | refine RG.z6 ?_ | refine RG.z7 ?_ | refine RG.z8 ?_ | refine RG.z9 ?_ | refine RG.zA ?_ | refine RG.zB ?_ | refine RG.zC ?_)
    refine RG.s (by first | exact trivial | exact rfl) (ST.s2b rfl ?_)
    repeat (first | refine RG.z0 ?_ | refine RG.z1 ?_ | refine RG.z2 ?_ | refine RG.z3 ?_ | refine RG.z4 ?_ | refine RG.z5 ?_ | refine RG.z6 ?_ | refine RG.z7 ?_ | refine RG.z8 ?_ | refine RG.z9 ?_ | refine RG.zA ?_ | refine RG.zB ?_ | refine RG.zC ?_)
    refine RG.nilS ?_
    refine AC.bloopH (α := Nat) (β := Unit) (fun n => ds.length - n) (fun n => [(0, .ptr b 0), (3, .int .i64 i), (7, .int .i32 (numF (ds.take n))), (48, .lst (ds.map B8) ds.length 1 none), (49, .int .i64 ds.length), (50, .int .i64 n)])
      (fun n H' => H' = He.upd b (rd s (i + 2 + k + 1) ty) ∧ n ≤ ds.length) (fun _ => [(0, .ptr b 0), (3, .int .i64 i), (7, .int .i32 (numF ds))])
      (fun _ H' => H' = He.upd b (rd s (i + 2 + k + 1) ty)) ?_ ?_ 0 _ ⟨rfl, Nat.zero_le _⟩ ⟨rfl, rfl, rfl, rfl, rfl, rfl, trivial⟩
    · intro _ He2 fr h1 hfr
      subst h1
      generalize hnn : numF ds = n at hF hn1 hn2 hfr
      refine AC.to _ hfr (AC.seq (AC.reg ?_))
      have last : ∀ (x : Bool), (entityF s i = bif !x then .error (i, 2) else .ok ((Utf8.encode n).data.toList, i + 2 + k + 1)) →
            RG Go.Proofs.Tryd.prog G none 80 [⟨(some 76), none, .mv (.t 3)⟩, ⟨(some 77), none, .call 24 [(.t 75), (.t 76), (.c (.int .i64 2))]⟩] (Sq Go.Proofs.Tryd.prog G none 80 (.seq (.reg [⟨(some 78), none, .mv (.t 7)⟩,
    ⟨(some 79), none, .i2s (.t 78)⟩,
    ⟨(some 2), none, .mv (.t 79)⟩])
  .ret) (Fin [.tmp 2] (Kr1 (entityF s i) (fun v => .str v.1) (·.2) s b ty He) (Kp1 (entityF s i) s b ty He))) (frOf [(3, .int .i64 i), (7, .int .i32 n), (75, .bool x)]) (He.upd b (rd s (i + 2 + k + 1) ty)) := by
        intro x hE
        repeat (first | refine RG.z0 ?_ | refine RG.z1 ?_ | refine RG.z2 ?_ | refine RG.z3 ?_ | refine RG.z4 ?_ | refine RG.z5 ?_ | refine RG.z6 ?_ | refine RG.z7 ?_ | refine RG.z8 ?_ | refine RG.z9 ?_ | refine RG.zA ?_ | refine RG.zB ?_ | refine RG.zC ?_)
        refine RG.call (by first | exact trivial | exact rfl) rfl (need_ok x i 2 _) (fun d H' ⟨g1, g2, g3⟩ => ?_) (fun d H' ⟨g1, g2, g3⟩ => ?_)
        · subst g2; subst g3; subst g1
          refine RG.nilS (AC.seq (AC.reg ?_))
          (first | refine RG.z0 ?_ | refine RG.z1 ?_ | refine RG.z2 ?_ | refine RG.z3 ?_ | refine RG.z4 ?_ | refine RG.z5 ?_ | refine RG.z6 ?_ | refine RG.z7 ?_ | refine RG.z8 ?_ | refine RG.z9 ?_ | refine RG.zA ?_ | refine RG.zB ?_ | refine RG.zC ?_)
          refine RG.s (by first | exact trivial | exact rfl) (ST.i2s rfl ?_)
          repeat (first | refine RG.z0 ?_ | refine RG.z1 ?_ | refine RG.z2 ?_ | refine RG.z3 ?_ | refine RG.z4 ?_ | refine RG.z5 ?_ | refine RG.z6 ?_ | refine RG.z7 ?_ | refine RG.z8 ?_ | refine RG.z9 ?_ | refine RG.zA ?_ | refine RG.zB ?_ | refine RG.zC ?_)
          exact RG.nilS (AC.ret (fin rfl ⟨_, hE, rfl, rfl⟩))
        · subst g1
          exact ⟨H', SubH.refl _, (i, 2), i + 2 + k + 1, by rw [hE]; rfl, g2, hi3, g3⟩
      have fin1 : ∀ (v : Bool), (decide (n ≥ 32) || (decide (0 ≤ Lib.indexByte [9, 10, 13] n.toNat.toUInt8) && decide (n > 0))) = v →
          AC Go.Proofs.Tryd.prog G none 80 (.seq (.reg [⟨(some 71), none, .mv (.t 10)⟩,
    ⟨(some 72), none, .mv (.t 71)⟩,
    ⟨(some 73), some (72, true), .mv (.t 7)⟩,
    ⟨(some 74), some (72, true), .call 84 [(.t 73)]⟩,
    ⟨(some 75), none, .pick (.t 72) (.t 74) (.c (.bool false))⟩,
    ⟨(some 76), none, .mv (.t 3)⟩,
    ⟨(some 77), none, .call 24 [(.t 75), (.t 76), (.c (.int .i64 2))]⟩])
  (.seq (.reg [⟨(some 78), none, .mv (.t 7)⟩,
    ⟨(some 79), none, .i2s (.t 78)⟩,
    ⟨(some 2), none, .mv (.t 79)⟩])
  .ret)) (Fin [.tmp 2] (Kr1 (entityF s i) (fun v => .str v.1) (·.2) s b ty He) (Kp1 (entityF s i) s b ty He)) (frOf [(3, .int .i64 i), (7, .int .i32 n), (10, .bool v)]) (He.upd b (rd s (i + 2 + k + 1) ty)) := by
        intro v hv
        rw [hv] at hF
        refine AC.seq (AC.reg ?_)
        cases v
        · (first | refine RG.z0 ?_ | refine RG.z1 ?_ | refine RG.z2 ?_ | refine RG.z3 ?_ | refine RG.z4 ?_ | refine RG.z5 ?_ | refine RG.z6 ?_ | refine RG.z7 ?_ | refine RG.z8 ?_ | refine RG.z9 ?_ | refine RG.zA ?_ | refine RG.zB ?_ | refine RG.zC ?_)
          (first | refine RG.z0 ?_ | refine RG.z1 ?_ | refine RG.z2 ?_ | refine RG.z3 ?_ | refine RG.z4 ?_ | refine RG.z5 ?_ | refine RG.z6 ?_ | refine RG.z7 ?_ | refine RG.z8 ?_ | refine RG.z9 ?_ | refine RG.zA ?_ | refine RG.zB ?_ | refine RG.zC ?_)
          (first | refine RG.z0 ?_ | refine RG.z1 ?_ | refine RG.z2 ?_ | refine RG.z3 ?_ | refine RG.z4 ?_ | refine RG.z5 ?_ | refine RG.z6 ?_ | refine RG.z7 ?_ | refine RG.z8 ?_ | refine RG.z9 ?_ | refine RG.zA ?_ | refine RG.zB ?_ | refine RG.zC ?_)
          (first | refine RG.z0 ?_ | refine RG.z1 ?_ | refine RG.z2 ?_ | refine RG.z3 ?_ | refine RG.z4 ?_ | refine RG.z5 ?_ | refine RG.z6 ?_ | refine RG.z7 ?_ | refine RG.z8 ?_ | refine RG.z9 ?_ | refine RG.zA ?_ | refine RG.zB ?_ | refine RG.zC ?_)
          (first | refine RG.z0 ?_ | refine RG.z1 ?_ | refine RG.z2 ?_ | refine RG.z3 ?_ | refine RG.z4 ?_ | refine RG.z5 ?_ | refine RG.z6 ?_ | refine RG.z7 ?_ | refine RG.z8 ?_ | refine RG.z9 ?_ | refine RG.zA ?_ | refine RG.zB ?_ | refine RG.zC ?_)
          refine RG.to [(3, .int .i64 i), (7, .int .i32 n), (75, .bool false)] ⟨rfl, rfl, rfl, trivial⟩ (last false (by rw [hF]; rfl))
        · (first | refine RG.z0 ?_ | refine RG.z1 ?_ | refine RG.z2 ?_ | refine RG.z3 ?_ | refine RG.z4 ?_ | refine RG.z5 ?_ | refine RG.z6 ?_ | refine RG.z7 ?_ | refine RG.z8 ?_ | refine RG.z9 ?_ | refine RG.zA ?_ | refine RG.zB ?_ | refine RG.zC ?_)
          (first | refine RG.z0 ?_ | refine RG.z1 ?_ | refine RG.z2 ?_ | refine RG.z3 ?_ | refine RG.z4 ?_ | refine RG.z5 ?_ | refine RG.z6 ?_ | refine RG.z7 ?_ | refine RG.z8 ?_ | refine RG.z9 ?_ | refine RG.zA ?_ | refine RG.zB ?_ | refine RG.zC ?_)
          (first | refine RG.z0 ?_ | refine RG.z1 ?_ | refine RG.z2 ?_ | refine RG.z3 ?_ | refine RG.z4 ?_ | refine RG.z5 ?_ | refine RG.z6 ?_ | refine RG.z7 ?_ | refine RG.z8 ?_ | refine RG.z9 ?_ | refine RG.zA ?_ | refine RG.zB ?_ | refine RG.zC ?_)
          refine RG.callP (by first | exact trivial | exact rfl) rfl (validRune_ok n) ?_
          (first | refine RG.z0 ?_ | refine RG.z1 ?_ | refine RG.z2 ?_ | refine RG.z3 ?_ | refine RG.z4 ?_ | refine RG.z5 ?_ | refine RG.z6 ?_ | refine RG.z7 ?_ | refine RG.z8 ?_ | refine RG.z9 ?_ | refine RG.zA ?_ | refine RG.zB ?_ | refine RG.zC ?_)
          refine RG.to [(3, .int .i64 i), (7, .int .i32 n), (75, .bool (Lib.validRune n))] ⟨rfl, rfl, rfl, trivial⟩ (last (Lib.validRune n) (by rw [hF]; rfl))
      repeat (first | refine RG.z0 ?_ | refine RG.z1 ?_ | refine RG.z2 ?_ | refine RG.z3 ?_ | refine RG.z4 ?_ | refine RG.z5 ?_ | refine RG.z6 ?_ | refine RG.z7 ?_ | refine RG.z8 ?_ | refine RG.z9 ?_ | refine RG.zA ?_ | refine RG.zB ?_ | refine RG.zC ?_)
      cases q1 : decide (n ≥ 32)
      · have hlt := of_decide_eq_false q1
        repeat (first | refine RG.z0 ?_ | refine RG.z1 ?_ | refine RG.z2 ?_ | refine RG.z3 ?_ | refine RG.z4 ?_ | refine RG.z5 ?_ | refine RG.z6 ?_ | refine RG.z7 ?_ | refine RG.z8 ?_ | refine RG.z9 ?_ | refine RG.zA ?_ | refine RG.zB ?_ | refine RG.zC ?_)
        refine RG.callP (by first | exact trivial | exact rfl) rfl (containsRune_ok [9, 10, 13] n (by omega) (by omega)) ?_
        repeat (first | refine RG.z0 ?_ | refine RG.z1 ?_ | refine RG.z2 ?_ | refine RG.z3 ?_ | refine RG.z4 ?_ | refine RG.z5 ?_ | refine RG.z6 ?_ | refine RG.z7 ?_ | refine RG.z8 ?_ | refine RG.z9 ?_ | refine RG.zA ?_ | refine RG.zB ?_ | refine RG.zC ?_)
        cases q2 : decide (0 ≤ Lib.indexByte [9, 10, 13] n.toNat.toUInt8)
        · repeat (first | refine RG.z0 ?_ | refine RG.z1 ?_ | refine RG.z2 ?_ | refine RG.z3 ?_ | refine RG.z4 ?_ | refine RG.z5 ?_ | refine RG.z6 ?_ | refine RG.z7 ?_ | refine RG.z8 ?_ | refine RG.z9 ?_ | refine RG.zA ?_ | refine RG.zB ?_ | refine RG.zC ?_)
          exact RG.nilS (AC.to [(3, .int .i64 i), (7, .int .i32 n), (10, .bool false)] ⟨rfl, rfl, rfl, trivial⟩ (fin1 false (by rw [q1, q2]; rfl)))
        · repeat (first | refine RG.z0 ?_ | refine RG.z1 ?_ | refine RG.z2 ?_ | refine RG.z3 ?_ | refine RG.z4 ?_ | refine RG.z5 ?_ | refine RG.z6 ?_ | refine RG.z7 ?_ | refine RG.z8 ?_ | refine RG.z9 ?_ | refine RG.zA ?_ | refine RG.zB ?_ | refine RG.zC ?_)
          exact RG.nilS (AC.to [(3, .int .i64 i), (7, .int .i32 n), (10, .bool (decide (n > 0)))] ⟨rfl, rfl, rfl, trivial⟩ (fin1 (decide (n > 0)) (by rw [q1, q2]; rfl)))
      · repeat (first | refine RG.z0 ?_ | refine RG.z1 ?_ | refine RG.z2 ?_ | refine RG.z3 ?_ | refine RG.z4 ?_ | refine RG.z5 ?_ | refine RG.z6 ?_ | refine RG.z7 ?_ | refine RG.z8 ?_ | refine RG.z9 ?_ | refine RG.zA ?_ | refine RG.zB ?_ | refine RG.zC ?_)
        exact RG.nilS (AC.to [(3, .int .i64 i), (7, .int .i32 n), (10, .bool true)] ⟨rfl, rfl, rfl, trivial⟩ (fin1 true (by rw [q1]; rfl)))
    · intro n H' ⟨h1, h2⟩ ih ex
      subst h1
      refine AC.seq (AC.reg ?_)
      repeat (first | refine RG.z0 ?_ | refine RG.z1 ?_ | refine RG.z2 ?_ | refine RG.z3 ?_ | refine RG.z4 ?_ | refine RG.z5 ?_ | refine RG.z6 ?_ | refine RG.z7 ?_ | refine RG.z8 ?_ | refine RG.z9 ?_ | refine RG.zA ?_ | refine RG.zB ?_ | refine RG.zC ?_)
      cases e1 : decide ((n : Int) < ds.length)
      · have e := of_decide_eq_false e1
        have ht : ds.take n = ds := List.take_of_length_le (by omega)
        exact RG.nilS (AC.seq (AC.cond_f rfl (AC.exit (ex () _ _ rfl ⟨rfl, rfl, by rw [ht]; rfl, trivial⟩))))
      · have e := of_decide_eq_true e1
        have hn : n < ds.length := by omega
        refine RG.nilS (AC.seq (AC.cond_t rfl (AC.skip (AC.seq (AC.block (AC.seq (AC.reg ?_)))))))
        refine RG.p (by first | exact trivial | exact rfl) (evP_iadr (by conv => lhs; whnf) (by conv => lhs; whnf) (by omega)) ?_
        refine RG.p (by first | exact trivial | exact rfl) (evP_ldc (by conv => lhs; whnf) (partD_one (d := B8 ds[n]) (by simp [hn]))) ?_
        repeat (first | refine RG.z0 ?_ | refine RG.z1 ?_ | refine RG.z2 ?_ | refine RG.z3 ?_ | refine RG.z4 ?_ | refine RG.z5 ?_ | refine RG.z6 ?_ | refine RG.z7 ?_ | refine RG.z8 ?_ | refine RG.z9 ?_ | refine RG.zA ?_ | refine RG.zB ?_ | refine RG.zC ?_)
        have hd := digit_range (hk3 ds[n] (List.getElem_mem hn))
        have hp1 := numF_seven (l := ds.take n) (fun c hc => hk3 c (List.mem_of_mem_take hc)) (by rw [List.length_take]; omega)
        have hsn : numF (ds.take (n + 1)) = 10 * numF (ds.take n) + ((ds[n].toNat : Int) - 48) := by
          rw [List.take_succ_eq_append_getElem hn, numF_snoc]
        have hp2 := numF_seven (l := ds.take (n + 1)) (fun c hc => hk3 c (List.mem_of_mem_take hc)) (by rw [List.length_take]; omega)
        refine RG.nilS (AC.reg ?_)
        (first | refine RG.z0 ?_ | refine RG.z1 ?_ | refine RG.z2 ?_ | refine RG.z3 ?_ | refine RG.z4 ?_ | refine RG.z5 ?_ | refine RG.z6 ?_ | refine RG.z7 ?_ | refine RG.z8 ?_ | refine RG.z9 ?_ | refine RG.zA ?_ | refine RG.zB ?_ | refine RG.zC ?_)
        refine RG.p (d := .int .i32 (10 * numF (ds.take n))) (by first | exact trivial | exact rfl) (by
          show some (DV.int .i32 (IntKind.i32.wrap (10 * numF (ds.take n)))) = _
          rw [IntWalk.i32_in _ (by omega)]) ?_
        (first | refine RG.z0 ?_ | refine RG.z1 ?_ | refine RG.z2 ?_ | refine RG.z3 ?_ | refine RG.z4 ?_ | refine RG.z5 ?_ | refine RG.z6 ?_ | refine RG.z7 ?_ | refine RG.z8 ?_ | refine RG.z9 ?_ | refine RG.zA ?_ | refine RG.zB ?_ | refine RG.zC ?_)
        refine RG.p (d := .int .u8 ((ds[n].toNat : Int) - 48)) (by first | exact trivial | exact rfl) (by
          show some (DV.int .u8 (IntKind.u8.wrap ((ds[n].toNat : Int) - 48))) = _
          rw [IntWalk.u8_in _ (by omega)]) ?_
        refine RG.p (d := .int .i32 ((ds[n].toNat : Int) - 48)) (by first | exact trivial | exact rfl) (by
          show some (DV.int .i32 (IntKind.i32.wrap ((ds[n].toNat : Int) - 48))) = _
          rw [IntWalk.i32_in _ (by omega)]) ?_
        refine RG.p (d := .int .i32 (numF (ds.take (n + 1)))) (by first | exact trivial | exact rfl) (by
          show some (DV.int .i32 (IntKind.i32.wrap (10 * numF (ds.take n) + ((ds[n].toNat : Int) - 48)))) = _
          rw [← hsn, IntWalk.i32_in _ (by omega)]) ?_
        repeat (first | refine RG.z0 ?_ | refine RG.z1 ?_ | refine RG.z2 ?_ | refine RG.z3 ?_ | refine RG.z4 ?_ | refine RG.z5 ?_ | refine RG.z6 ?_ | refine RG.z7 ?_ | refine RG.z8 ?_ | refine RG.z9 ?_ | refine RG.zA ?_ | refine RG.zB ?_ | refine RG.zC ?_)
        refine RG.nil (AC.reg ?_)
        repeat (first | refine RG.z0 ?_ | refine RG.z1 ?_ | refine RG.z2 ?_ | refine RG.z3 ?_ | refine RG.z4 ?_ | refine RG.z5 ?_ | refine RG.z6 ?_ | refine RG.z7 ?_ | refine RG.z8 ?_ | refine RG.z9 ?_ | refine RG.zA ?_ | refine RG.zB ?_ | refine RG.zC ?_)
        exact RG.nil (ih (n + 1) _ ⟨rfl, by omega⟩ (by omega) _ ⟨rfl, rfl, rfl, rfl, rfl, rfl, trivial⟩)
  · intro n H' ⟨h1, h2, h3⟩ ih ex
    subst h1
    refine AC.seq (AC.reg ?_)
    repeat (first | refine RG.z0 ?_ | refine RG.z1 ?_ | refine RG.z2 ?_ | refine RG.z3 ?_ | refine RG.z4 ?_ | refine RG.z5 ?_ | refine RG.z6 ?_ | refine RG.z7 ?_ | refine RG.z8 ?_ | refine RG.z9 ?_ | refine RG.zA ?_ | refine RG.zB ?_ | refine RG.zC ?_)
    cases e1 : decide ((n : Int) < 5)
    · have e := of_decide_eq_false e1
      have hn : n = 5 := by omega
      subst hn
      exact RG.nilS (AC.seq (AC.cond_f rfl (AC.exit (ex () _ _ ⟨rfl, h3⟩ ⟨rfl, rfl, trivial⟩))))
    · have e := of_decide_eq_true e1
      obtain ⟨p, hp1, hp2, hp3⟩ := ent_row s n (by omega)
      rw [hp3] at h3
      refine RG.nilS (AC.seq (AC.cond_t rfl (AC.skip (AC.seq (AC.block (AC.seq (AC.reg ?_)))))))
      have hp1' : partD true 0 2 (entT.drop (((n : Nat) : Int).toNat * 2)) = some (.agg [.str p.1, .str p.2]) := hp1
      refine RG.p (by first | exact trivial | exact rfl) (evP_iadr (by conv => lhs; whnf) (by conv => lhs; whnf) (by omega)) ?_
      refine RG.p (by first | exact trivial | exact rfl) (evP_ldc (by conv => lhs; whnf) hp1') ?_
      refine RG.alloc (by first | exact trivial | exact rfl) fun q hq => ?_
      have hbq : b ≠ q := fun e => by rw [e, hq] at hb; cases hb
      repeat (first | refine RG.z0 ?_ | refine RG.z1 ?_ | refine RG.z2 ?_ | refine RG.z3 ?_ | refine RG.z4 ?_ | refine RG.z5 ?_ | refine RG.z6 ?_ | refine RG.z7 ?_ | refine RG.z8 ?_ | refine RG.z9 ?_ | refine RG.zA ?_ | refine RG.zB ?_ | refine RG.zC ?_)
      refine RG.nilS (AC.seq (AC.reg ?_))
      repeat (first | refine RG.z0 ?_ | refine RG.z1 ?_ | refine RG.z2 ?_ | refine RG.z3 ?_ | refine RG.z4 ?_ | refine RG.z5 ?_ | refine RG.z6 ?_ | refine RG.z7 ?_ | refine RG.z8 ?_ | refine RG.z9 ?_ | refine RG.zA ?_ | refine RG.zB ?_ | refine RG.zC ?_)
      refine RG.callR (by first | exact trivial | exact rfl) rfl (has_ok (b := b) (s := s) (i := i) (ty := ty) (by rw [Hp.upd_upd, Hp.upd_ne hbq]; exact hb) hi (by omega)) ?_
      rw [Hp.upd_upd, Hp.upd_comm (Ne.symm hbq)]
      have hq' : ∀ o, (H'.upd b o) q = none := fun o => by rw [Hp.upd_ne (Ne.symm hbq)]; exact hq
      cases hpre : p.1.isPrefixOf (s.drop i)
      · refine RG.nilS (AC.cond_f rfl (AC.skip ?_))
        rw [hpre] at h3
        have hid : H'.upd b (rd s i ty) = H' := Hp.upd_id hb
        rw [cond_false, hid]
        refine AC.drop (SubH.fresh hq) (AC.reg ?_)
        repeat (first | refine RG.z0 ?_ | refine RG.z1 ?_ | refine RG.z2 ?_ | refine RG.z3 ?_ | refine RG.z4 ?_ | refine RG.z5 ?_ | refine RG.z6 ?_ | refine RG.z7 ?_ | refine RG.z8 ?_ | refine RG.z9 ?_ | refine RG.zA ?_ | refine RG.zB ?_ | refine RG.zC ?_)
        exact RG.nil (ih (n + 1) _ ⟨rfl, by omega, h3⟩ (by omega) _ ⟨rfl, rfl, rfl, rfl, rfl, trivial⟩)
      · rw [hpre] at h3
        have hF : entityF s i = .ok (p.2, i + p.1.length) := by simp only [entityF, h3]
        refine RG.nilS (AC.cond_t rfl (AC.seq (AC.reg ?_)))
        repeat (first | refine RG.z0 ?_ | refine RG.z1 ?_ | refine RG.z2 ?_ | refine RG.z3 ?_ | refine RG.z4 ?_ | refine RG.z5 ?_ | refine RG.z6 ?_ | refine RG.z7 ?_ | refine RG.z8 ?_ | refine RG.z9 ?_ | refine RG.zA ?_ | refine RG.zB ?_ | refine RG.zC ?_)
        exact RG.nilS (AC.ret (finD (H' := H'.upd b (rd s (i + p.1.length) ty)) rfl (SubH.fresh (hq' _)) ⟨_, hF, rfl, rfl⟩))
end Go.Run.Tryd
