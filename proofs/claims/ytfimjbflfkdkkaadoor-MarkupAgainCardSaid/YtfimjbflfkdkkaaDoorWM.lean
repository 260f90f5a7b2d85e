/- Same; the law. -/
import Derived.Test.YtfimjbflfkdkkaaDoorWL
import Derived.KernelRfl
/- Same. -/
namespace Go.Run.Tryd
open Go Go.Run Go.RowKit
/-! cardcase/cardcaseref13.same -/
def F26 : FN := ⟨75, (.seq (.reg [⟨(some 3), none, .box 24 (.t 0)⟩,
    ⟨(some 4), none, .box 24 (.t 1)⟩,
    ⟨(some 6), none, .mv (.c (.bool false))⟩])
  (.seq (.seq (.reg [⟨(some 8), none, .fadr 0 (.t 3)⟩,
    ⟨(some 9), none, .ld false 1 (.t 8)⟩,
    ⟨(some 10), none, .fadr 0 (.t 4)⟩,
    ⟨(some 11), none, .ld false 1 (.t 10)⟩,
    ⟨(some 12), none, .bin .neq (.t 9) (.t 11)⟩,
    ⟨(some 13), none, .mv (.t 12)⟩,
    ⟨(some 14), some (13, false), .fadr 1 (.t 3)⟩,
    ⟨(some 15), some (13, false), .ld false 1 (.t 14)⟩,
    ⟨(some 16), some (13, false), .fadr 1 (.t 4)⟩,
    ⟨(some 17), some (13, false), .ld false 1 (.t 16)⟩,
    ⟨(some 18), some (13, false), .bin .neq (.t 15) (.t 17)⟩,
    ⟨(some 19), none, .pick (.t 13) (.c (.bool true)) (.t 18)⟩,
    ⟨(some 20), none, .mv (.t 19)⟩,
    ⟨(some 21), some (20, false), .fadr 2 (.t 3)⟩,
    ⟨(some 22), some (20, false), .ld false 1 (.t 21)⟩,
    ⟨(some 23), some (20, false), .fadr 2 (.t 4)⟩,
    ⟨(some 24), some (20, false), .ld false 1 (.t 23)⟩,
    ⟨(some 25), some (20, false), .bin .neq (.t 22) (.t 24)⟩,
    ⟨(some 26), none, .pick (.t 20) (.c (.bool true)) (.t 25)⟩,
    ⟨(some 27), none, .mv (.t 26)⟩,
    ⟨(some 28), some (27, false), .fadr 3 (.t 3)⟩,
    ⟨(some 29), some (27, false), .ld false 1 (.t 28)⟩,
    ⟨(some 30), some (27, false), .fadr 3 (.t 4)⟩,
    ⟨(some 31), some (27, false), .ld false 1 (.t 30)⟩,
    ⟨(some 32), some (27, false), .eqn true .bool (.t 29) (.t 31)⟩,
    ⟨(some 33), none, .pick (.t 27) (.c (.bool true)) (.t 32)⟩,
    ⟨(some 34), none, .mv (.t 33)⟩,
    ⟨(some 35), some (34, false), .fadr 4 (.t 3)⟩,
    ⟨(some 36), some (34, false), .ld false 1 (.t 35)⟩,
    ⟨(some 37), some (34, false), .len false (.t 36)⟩,
    ⟨(some 38), some (34, false), .fadr 4 (.t 4)⟩,
    ⟨(some 39), some (34, false), .ld false 1 (.t 38)⟩,
    ⟨(some 40), some (34, false), .len false (.t 39)⟩,
    ⟨(some 41), some (34, false), .bin .neq (.t 37) (.t 40)⟩,
    ⟨(some 42), none, .pick (.t 34) (.c (.bool true)) (.t 41)⟩])
  (.cond (.t 42) (.seq (.reg [⟨(some 6), none, .mv (.c (.bool false))⟩])
  .ret)
  .skip))
  (.seq (.seq (.reg [⟨(some 7), none, .mv (.c (.int .i64 0))⟩])
  (.block 0 (.loop (.seq (.seq (.reg [⟨(some 43), none, .mv (.t 7)⟩,
    ⟨(some 44), none, .fadr 4 (.t 3)⟩,
    ⟨(some 45), none, .ld false 1 (.t 44)⟩,
    ⟨(some 46), none, .len false (.t 45)⟩,
    ⟨(some 47), none, .bin .lss (.t 43) (.t 46)⟩,
    ⟨(some 48), none, .mv (.t 47)⟩,
    ⟨(some 49), some (48, true), .mv (.t 7)⟩,
    ⟨(some 50), some (48, true), .fadr 4 (.t 4)⟩,
    ⟨(some 51), some (48, true), .ld false 1 (.t 50)⟩,
    ⟨(some 52), some (48, true), .len false (.t 51)⟩,
    ⟨(some 53), some (48, true), .bin .lss (.t 49) (.t 52)⟩,
    ⟨(some 54), none, .pick (.t 48) (.t 53) (.c (.bool false))⟩,
    ⟨(some 55), none, .mv (.t 54)⟩,
    ⟨(some 56), some (55, true), .mv (.t 2)⟩,
    ⟨(some 57), some (55, true), .bin .gtr (.t 56) (.c (.int .i64 1))⟩,
    ⟨(some 58), none, .pick (.t 55) (.t 57) (.c (.bool false))⟩])
  (.cond (.t 58) .skip
  (.exit 0)))
  (.seq (.block 1 (.seq (.draw [⟨(some 61), none, .fadr 4 (.t 3)⟩,
    ⟨(some 62), none, .ld false 1 (.t 61)⟩,
    ⟨(some 63), none, .mv (.t 7)⟩,
    ⟨(some 64), none, .iadr 5 (.t 62) (.t 63)⟩,
    ⟨(some 65), none, .ld true 5 (.t 64)⟩,
    ⟨(some 66), none, .fadr 4 (.t 4)⟩,
    ⟨(some 67), none, .ld false 1 (.t 66)⟩,
    ⟨(some 68), none, .mv (.t 7)⟩,
    ⟨(some 69), none, .iadr 5 (.t 67) (.t 68)⟩,
    ⟨(some 70), none, .ld true 5 (.t 69)⟩,
    ⟨(some 71), none, .mv (.t 2)⟩,
    ⟨(some 72), none, .bin .sub (.t 71) (.c (.int .i64 1))⟩,
    ⟨(some 73), none, .call 26 [(.t 65), (.t 70), (.t 72)]⟩,
    ⟨(some 74), none, .un .not (.t 73)⟩] [[], [0], [], [1, 2], [3], [], [5], [], [6, 7], [8], [], [10], [4, 9, 11], [12]])
  (.cond (.t 74) (.seq (.reg [⟨(some 6), none, .mv (.c (.bool false))⟩])
  .ret)
  .skip)))
  (.reg [⟨(some 59), none, .mv (.t 7)⟩,
    ⟨(some 60), none, .bin .add (.t 59) (.c (.int .i64 1))⟩,
    ⟨(some 7), none, .mv (.t 60)⟩]))))))
  (.seq (.reg [⟨(some 6), none, .mv (.c (.bool true))⟩])
  .ret)))), [.tmp 6]⟩
theorem cF26 : cFn Go.Proofs.Tryd.prog 26 = some F26 := by kernel_rfl
/-! cardcase/cardcaseref13.Same -/
def F9 : FN := ⟨8, (.seq (.reg [⟨(some 2), none, .box 24 (.t 0)⟩,
    ⟨(some 3), none, .box 24 (.t 1)⟩,
    ⟨(some 4), none, .mv (.c (.bool false))⟩])
  (.seq (.reg [⟨(some 5), none, .ld true 5 (.t 2)⟩,
    ⟨(some 6), none, .ld true 5 (.t 3)⟩,
    ⟨(some 7), none, .call 26 [(.t 5), (.t 6), (.c (.int .i64 20))]⟩,
    ⟨(some 4), none, .mv (.t 7)⟩])
  .ret)), [.tmp 4]⟩
theorem cF9 : cFn Go.Proofs.Tryd.prog 9 = some F9 := by kernel_rfl
variable {G : Gl}

theorem len_bne (a b : Nat) : ((a : Int) != (b : Int)) = !(a == b) := by
  rw [Bool.eq_iff_iff]; simp; omega

theorem ev_sub {fr : Fr} {H : Hp} {x y : X} {a b : Int} (hx : XV G fr x = .int .i64 a) (hy : XV G fr y = .int .i64 b) (hr : -9223372036854775808 ≤ a - b ∧ a - b ≤ 9223372036854775807) : evP G fr H (.bin .sub x y) = some (.int .i64 (a - b)) := by
  simp only [evP, hx, hy, binD, binI, if_true, IntWalk.i64_in _ hr]

theorem same_step {d : Nat} (hd2 : d < 100) (ih : 1 < d → ∀ (e e' : El), fits e → fits e' → PF Go.Proofs.Tryd.prog G 26 [.agg (elC e), .agg (elC e'), .int .i64 (d - 1 : Nat)] (.bool (sameF e e' (d - 1)))) (e e' : El) (hf : fits e) (hf' : fits e') :
    PF Go.Proofs.Tryd.prog G 26 [.agg (elC e), .agg (elC e'), .int .i64 d] (.bool (sameF e e' d)) := by
  intro H
  obtain ⟨p, n, t, o, ks⟩ := e
  obtain ⟨p', n', t', o', ks'⟩ := e'
  obtain ⟨hkl, hks⟩ := hf
  obtain ⟨hkl', hks'⟩ := hf'
  have he : elC (.mk p n t o ks) = [.int .i64 p, .str n, .str t, .bool o, .lst (elsC ks) ks.length 5 none] := by rw [elC]
  have he' : elC (.mk p' n' t' o' ks') = [.int .i64 p', .str n', .str t', .bool o', .lst (elsC ks') ks'.length 5 none] := by rw [elC]
  have hS : sameF (.mk p n t o ks) (.mk p' n' t' o' ks') d = ((p == p' && (n == n' && (t == t' && (o == o' && ks.length == ks'.length)))) && (bif decide (1 < d) then samesF ks ks' (d - 1) else true)) := by rw [sameF]
  refine CALL.of cF26 (Nat.le_of_ble_eq_true rfl) ?_
  refine AC.seq (AC.reg ?_)
  refine RG.box (ys := elC (.mk p n t o ks)) (by first | exact trivial | exact rfl) rfl rfl fun b3 h3 => ?_
  refine RG.box (ys := elC (.mk p' n' t' o' ks')) (by first | exact trivial | exact rfl) rfl rfl fun b4 h4 => ?_
  have hne : b3 ≠ b4 := fun e => by rw [← e, Hp.upd_same] at h4; cases h4
  have h4' : H b4 = none := by rw [Hp.upd_ne (Ne.symm hne)] at h4; exact h4
  rw [he, he']
  have hb3 : ((H.upd b3 (some (.cells [.int .i64 p, .str n, .str t, .bool o, .lst (elsC ks) ks.length 5 none] 24))).upd b4 (some (.cells [.int .i64 p', .str n', .str t', .bool o', .lst (elsC ks') ks'.length 5 none] 24))) b3 = some (.cells [.int .i64 p, .str n, .str t, .bool o, .lst (elsC ks) ks.length 5 none] 24) := by rw [Hp.upd_ne hne]; exact Hp.upd_same
  have hb4 : ((H.upd b3 (some (.cells [.int .i64 p, .str n, .str t, .bool o, .lst (elsC ks) ks.length 5 none] 24))).upd b4 (some (.cells [.int .i64 p', .str n', .str t', .bool o', .lst (elsC ks') ks'.length 5 none] 24))) b4 = some (.cells [.int .i64 p', .str n', .str t', .bool o', .lst (elsC ks') ks'.length 5 none] 24) := Hp.upd_same
  have hsub : SubH H ((H.upd b3 (some (.cells [.int .i64 p, .str n, .str t, .bool o, .lst (elsC ks) ks.length 5 none] 24))).upd b4 (some (.cells [.int .i64 p', .str n', .str t', .bool o', .lst (elsC ks') ks'.length 5 none] 24))) := SubH.over (SubH.over (SubH.refl H) h3) h4'
  generalize (H.upd b3 (some (.cells [.int .i64 p, .str n, .str t, .bool o, .lst (elsC ks) ks.length 5 none] 24))).upd b4 (some (.cells [.int .i64 p', .str n', .str t', .bool o', .lst (elsC ks') ks'.length 5 none] 24)) = HH at hb3 hb4 hsub ⊢
  have no : ∀ {fr : Fr}, sameF (.mk p n t o ks) (.mk p' n' t' o' ks') d = false → fr 6 = .bool false → Fin F26.rs (fun d' H' => d' = .bool (sameF (.mk p n t o ks) (.mk p' n' t' o' ks') d) ∧ H' = H) (fun _ _ => False) .ret fr HH := by
    intro fr h1 h2
    refine finD (H' := H) (ds := [.bool false]) ?_ hsub ⟨by rw [h1]; rfl, rfl⟩
    show (some [fr 6] : Option (List DV)) = _
    rw [h2]
  (first | refine RG.z0 ?_ | refine RG.z1 ?_ | refine RG.z2 ?_ | refine RG.z3 ?_ | refine RG.z4 ?_ | refine RG.z5 ?_ | refine RG.z6 ?_ | refine RG.z7 ?_ | refine RG.z8 ?_ | refine RG.z9 ?_ | refine RG.zA ?_ | refine RG.zB ?_ | refine RG.zC ?_)
  refine RG.nilS (AC.seq (AC.seq (AC.reg ?_)))
  (first | refine RG.z0 ?_ | refine RG.z1 ?_ | refine RG.z2 ?_ | refine RG.z3 ?_ | refine RG.z4 ?_ | refine RG.z5 ?_ | refine RG.z6 ?_ | refine RG.z7 ?_ | refine RG.z8 ?_ | refine RG.z9 ?_ | refine RG.zA ?_ | refine RG.zB ?_ | refine RG.zC ?_)
  (first | refine RG.z0 ?_ | refine RG.z1 ?_ | refine RG.z2 ?_ | refine RG.z3 ?_ | refine RG.z4 ?_ | refine RG.z5 ?_ | refine RG.z6 ?_ | refine RG.z7 ?_ | refine RG.z8 ?_ | refine RG.z9 ?_ | refine RG.zA ?_ | refine RG.zB ?_ | refine RG.zC ?_)
  (first | refine RG.z0 ?_ | refine RG.z1 ?_ | refine RG.z2 ?_ | refine RG.z3 ?_ | refine RG.z4 ?_ | refine RG.z5 ?_ | refine RG.z6 ?_ | refine RG.z7 ?_ | refine RG.z8 ?_ | refine RG.z9 ?_ | refine RG.zA ?_ | refine RG.zB ?_ | refine RG.zC ?_)
  (first | refine RG.z0 ?_ | refine RG.z1 ?_ | refine RG.z2 ?_ | refine RG.z3 ?_ | refine RG.z4 ?_ | refine RG.z5 ?_ | refine RG.z6 ?_ | refine RG.z7 ?_ | refine RG.z8 ?_ | refine RG.z9 ?_ | refine RG.zA ?_ | refine RG.zB ?_ | refine RG.zC ?_)
  refine RG.p (d := .bool (!(p == p'))) (by first | exact trivial | exact rfl) rfl ?_
  cases c1 : p == p'
  case false =>
    rw [c1, Bool.false_and, Bool.false_and] at hS
    repeat (first | refine RG.z0 ?_ | refine RG.z1 ?_ | refine RG.z2 ?_ | refine RG.z3 ?_ | refine RG.z4 ?_ | refine RG.z5 ?_ | refine RG.z6 ?_ | refine RG.z7 ?_ | refine RG.z8 ?_ | refine RG.z9 ?_ | refine RG.zA ?_ | refine RG.zB ?_ | refine RG.zC ?_)
    refine RG.nilS (AC.cond_t rfl (AC.seq (AC.reg ?_)))
    repeat (first | refine RG.z0 ?_ | refine RG.z1 ?_ | refine RG.z2 ?_ | refine RG.z3 ?_ | refine RG.z4 ?_ | refine RG.z5 ?_ | refine RG.z6 ?_ | refine RG.z7 ?_ | refine RG.z8 ?_ | refine RG.z9 ?_ | refine RG.zA ?_ | refine RG.zB ?_ | refine RG.zC ?_)
    exact RG.nilS (AC.ret (no hS rfl))
  rw [c1, Bool.true_and] at hS
  (first | refine RG.z0 ?_ | refine RG.z1 ?_ | refine RG.z2 ?_ | refine RG.z3 ?_ | refine RG.z4 ?_ | refine RG.z5 ?_ | refine RG.z6 ?_ | refine RG.z7 ?_ | refine RG.z8 ?_ | refine RG.z9 ?_ | refine RG.zA ?_ | refine RG.zB ?_ | refine RG.zC ?_)
  (first | refine RG.z0 ?_ | refine RG.z1 ?_ | refine RG.z2 ?_ | refine RG.z3 ?_ | refine RG.z4 ?_ | refine RG.z5 ?_ | refine RG.z6 ?_ | refine RG.z7 ?_ | refine RG.z8 ?_ | refine RG.z9 ?_ | refine RG.zA ?_ | refine RG.zB ?_ | refine RG.zC ?_)
  (first | refine RG.z0 ?_ | refine RG.z1 ?_ | refine RG.z2 ?_ | refine RG.z3 ?_ | refine RG.z4 ?_ | refine RG.z5 ?_ | refine RG.z6 ?_ | refine RG.z7 ?_ | refine RG.z8 ?_ | refine RG.z9 ?_ | refine RG.zA ?_ | refine RG.zB ?_ | refine RG.zC ?_)
  (first | refine RG.z0 ?_ | refine RG.z1 ?_ | refine RG.z2 ?_ | refine RG.z3 ?_ | refine RG.z4 ?_ | refine RG.z5 ?_ | refine RG.z6 ?_ | refine RG.z7 ?_ | refine RG.z8 ?_ | refine RG.z9 ?_ | refine RG.zA ?_ | refine RG.zB ?_ | refine RG.zC ?_)
  (first | refine RG.z0 ?_ | refine RG.z1 ?_ | refine RG.z2 ?_ | refine RG.z3 ?_ | refine RG.z4 ?_ | refine RG.z5 ?_ | refine RG.z6 ?_ | refine RG.z7 ?_ | refine RG.z8 ?_ | refine RG.z9 ?_ | refine RG.zA ?_ | refine RG.zB ?_ | refine RG.zC ?_)
  refine RG.p (d := .bool (!(n == n'))) (by first | exact trivial | exact rfl) rfl ?_
  cases c2 : n == n'
  case false =>
    rw [c2, Bool.false_and, Bool.false_and] at hS
    repeat (first | refine RG.z0 ?_ | refine RG.z1 ?_ | refine RG.z2 ?_ | refine RG.z3 ?_ | refine RG.z4 ?_ | refine RG.z5 ?_ | refine RG.z6 ?_ | refine RG.z7 ?_ | refine RG.z8 ?_ | refine RG.z9 ?_ | refine RG.zA ?_ | refine RG.zB ?_ | refine RG.zC ?_)
    refine RG.nilS (AC.cond_t rfl (AC.seq (AC.reg ?_)))
    repeat (first | refine RG.z0 ?_ | refine RG.z1 ?_ | refine RG.z2 ?_ | refine RG.z3 ?_ | refine RG.z4 ?_ | refine RG.z5 ?_ | refine RG.z6 ?_ | refine RG.z7 ?_ | refine RG.z8 ?_ | refine RG.z9 ?_ | refine RG.zA ?_ | refine RG.zB ?_ | refine RG.zC ?_)
    exact RG.nilS (AC.ret (no hS rfl))
  rw [c2, Bool.true_and] at hS
  (first | refine RG.z0 ?_ | refine RG.z1 ?_ | refine RG.z2 ?_ | refine RG.z3 ?_ | refine RG.z4 ?_ | refine RG.z5 ?_ | refine RG.z6 ?_ | refine RG.z7 ?_ | refine RG.z8 ?_ | refine RG.z9 ?_ | refine RG.zA ?_ | refine RG.zB ?_ | refine RG.zC ?_)
  (first | refine RG.z0 ?_ | refine RG.z1 ?_ | refine RG.z2 ?_ | refine RG.z3 ?_ | refine RG.z4 ?_ | refine RG.z5 ?_ | refine RG.z6 ?_ | refine RG.z7 ?_ | refine RG.z8 ?_ | refine RG.z9 ?_ | refine RG.zA ?_ | refine RG.zB ?_ | refine RG.zC ?_)
  (first | refine RG.z0 ?_ | refine RG.z1 ?_ | refine RG.z2 ?_ | refine RG.z3 ?_ | refine RG.z4 ?_ | refine RG.z5 ?_ | refine RG.z6 ?_ | refine RG.z7 ?_ | refine RG.z8 ?_ | refine RG.z9 ?_ | refine RG.zA ?_ | refine RG.zB ?_ | refine RG.zC ?_)
  (first | refine RG.z0 ?_ | refine RG.z1 ?_ | refine RG.z2 ?_ | refine RG.z3 ?_ | refine RG.z4 ?_ | refine RG.z5 ?_ | refine RG.z6 ?_ | refine RG.z7 ?_ | refine RG.z8 ?_ | refine RG.z9 ?_ | refine RG.zA ?_ | refine RG.zB ?_ | refine RG.zC ?_)
  (first | refine RG.z0 ?_ | refine RG.z1 ?_ | refine RG.z2 ?_ | refine RG.z3 ?_ | refine RG.z4 ?_ | refine RG.z5 ?_ | refine RG.z6 ?_ | refine RG.z7 ?_ | refine RG.z8 ?_ | refine RG.z9 ?_ | refine RG.zA ?_ | refine RG.zB ?_ | refine RG.zC ?_)
  (first | refine RG.z0 ?_ | refine RG.z1 ?_ | refine RG.z2 ?_ | refine RG.z3 ?_ | refine RG.z4 ?_ | refine RG.z5 ?_ | refine RG.z6 ?_ | refine RG.z7 ?_ | refine RG.z8 ?_ | refine RG.z9 ?_ | refine RG.zA ?_ | refine RG.zB ?_ | refine RG.zC ?_)
  refine RG.p (d := .bool (!(t == t'))) (by first | exact trivial | exact rfl) rfl ?_
  cases c3 : t == t'
  case false =>
    rw [c3, Bool.false_and, Bool.false_and] at hS
    repeat (first | refine RG.z0 ?_ | refine RG.z1 ?_ | refine RG.z2 ?_ | refine RG.z3 ?_ | refine RG.z4 ?_ | refine RG.z5 ?_ | refine RG.z6 ?_ | refine RG.z7 ?_ | refine RG.z8 ?_ | refine RG.z9 ?_ | refine RG.zA ?_ | refine RG.zB ?_ | refine RG.zC ?_)
    refine RG.nilS (AC.cond_t rfl (AC.seq (AC.reg ?_)))
    repeat (first | refine RG.z0 ?_ | refine RG.z1 ?_ | refine RG.z2 ?_ | refine RG.z3 ?_ | refine RG.z4 ?_ | refine RG.z5 ?_ | refine RG.z6 ?_ | refine RG.z7 ?_ | refine RG.z8 ?_ | refine RG.z9 ?_ | refine RG.zA ?_ | refine RG.zB ?_ | refine RG.zC ?_)
    exact RG.nilS (AC.ret (no hS rfl))
  rw [c3, Bool.true_and] at hS
  (first | refine RG.z0 ?_ | refine RG.z1 ?_ | refine RG.z2 ?_ | refine RG.z3 ?_ | refine RG.z4 ?_ | refine RG.z5 ?_ | refine RG.z6 ?_ | refine RG.z7 ?_ | refine RG.z8 ?_ | refine RG.z9 ?_ | refine RG.zA ?_ | refine RG.zB ?_ | refine RG.zC ?_)
  (first | refine RG.z0 ?_ | refine RG.z1 ?_ | refine RG.z2 ?_ | refine RG.z3 ?_ | refine RG.z4 ?_ | refine RG.z5 ?_ | refine RG.z6 ?_ | refine RG.z7 ?_ | refine RG.z8 ?_ | refine RG.z9 ?_ | refine RG.zA ?_ | refine RG.zB ?_ | refine RG.zC ?_)
  (first | refine RG.z0 ?_ | refine RG.z1 ?_ | refine RG.z2 ?_ | refine RG.z3 ?_ | refine RG.z4 ?_ | refine RG.z5 ?_ | refine RG.z6 ?_ | refine RG.z7 ?_ | refine RG.z8 ?_ | refine RG.z9 ?_ | refine RG.zA ?_ | refine RG.zB ?_ | refine RG.zC ?_)
  (first | refine RG.z0 ?_ | refine RG.z1 ?_ | refine RG.z2 ?_ | refine RG.z3 ?_ | refine RG.z4 ?_ | refine RG.z5 ?_ | refine RG.z6 ?_ | refine RG.z7 ?_ | refine RG.z8 ?_ | refine RG.z9 ?_ | refine RG.zA ?_ | refine RG.zB ?_ | refine RG.zC ?_)
  (first | refine RG.z0 ?_ | refine RG.z1 ?_ | refine RG.z2 ?_ | refine RG.z3 ?_ | refine RG.z4 ?_ | refine RG.z5 ?_ | refine RG.z6 ?_ | refine RG.z7 ?_ | refine RG.z8 ?_ | refine RG.z9 ?_ | refine RG.zA ?_ | refine RG.zB ?_ | refine RG.zC ?_)
  (first | refine RG.z0 ?_ | refine RG.z1 ?_ | refine RG.z2 ?_ | refine RG.z3 ?_ | refine RG.z4 ?_ | refine RG.z5 ?_ | refine RG.z6 ?_ | refine RG.z7 ?_ | refine RG.z8 ?_ | refine RG.z9 ?_ | refine RG.zA ?_ | refine RG.zB ?_ | refine RG.zC ?_)
  refine RG.p (d := .bool (!(o == o'))) (by first | exact trivial | exact rfl) rfl ?_
  cases c4 : o == o'
  case false =>
    rw [c4, Bool.false_and, Bool.false_and] at hS
    repeat (first | refine RG.z0 ?_ | refine RG.z1 ?_ | refine RG.z2 ?_ | refine RG.z3 ?_ | refine RG.z4 ?_ | refine RG.z5 ?_ | refine RG.z6 ?_ | refine RG.z7 ?_ | refine RG.z8 ?_ | refine RG.z9 ?_ | refine RG.zA ?_ | refine RG.zB ?_ | refine RG.zC ?_)
    refine RG.nilS (AC.cond_t rfl (AC.seq (AC.reg ?_)))
    repeat (first | refine RG.z0 ?_ | refine RG.z1 ?_ | refine RG.z2 ?_ | refine RG.z3 ?_ | refine RG.z4 ?_ | refine RG.z5 ?_ | refine RG.z6 ?_ | refine RG.z7 ?_ | refine RG.z8 ?_ | refine RG.z9 ?_ | refine RG.zA ?_ | refine RG.zB ?_ | refine RG.zC ?_)
    exact RG.nilS (AC.ret (no hS rfl))
  rw [c4, Bool.true_and] at hS
  (first | refine RG.z0 ?_ | refine RG.z1 ?_ | refine RG.z2 ?_ | refine RG.z3 ?_ | refine RG.z4 ?_ | refine RG.z5 ?_ | refine RG.z6 ?_ | refine RG.z7 ?_ | refine RG.z8 ?_ | refine RG.z9 ?_ | refine RG.zA ?_ | refine RG.zB ?_ | refine RG.zC ?_)
  (first | refine RG.z0 ?_ | refine RG.z1 ?_ | refine RG.z2 ?_ | refine RG.z3 ?_ | refine RG.z4 ?_ | refine RG.z5 ?_ | refine RG.z6 ?_ | refine RG.z7 ?_ | refine RG.z8 ?_ | refine RG.z9 ?_ | refine RG.zA ?_ | refine RG.zB ?_ | refine RG.zC ?_)
  (first | refine RG.z0 ?_ | refine RG.z1 ?_ | refine RG.z2 ?_ | refine RG.z3 ?_ | refine RG.z4 ?_ | refine RG.z5 ?_ | refine RG.z6 ?_ | refine RG.z7 ?_ | refine RG.z8 ?_ | refine RG.z9 ?_ | refine RG.zA ?_ | refine RG.zB ?_ | refine RG.zC ?_)
  (first | refine RG.z0 ?_ | refine RG.z1 ?_ | refine RG.z2 ?_ | refine RG.z3 ?_ | refine RG.z4 ?_ | refine RG.z5 ?_ | refine RG.z6 ?_ | refine RG.z7 ?_ | refine RG.z8 ?_ | refine RG.z9 ?_ | refine RG.zA ?_ | refine RG.zB ?_ | refine RG.zC ?_)
  (first | refine RG.z0 ?_ | refine RG.z1 ?_ | refine RG.z2 ?_ | refine RG.z3 ?_ | refine RG.z4 ?_ | refine RG.z5 ?_ | refine RG.z6 ?_ | refine RG.z7 ?_ | refine RG.z8 ?_ | refine RG.z9 ?_ | refine RG.zA ?_ | refine RG.zB ?_ | refine RG.zC ?_)
  (first | refine RG.z0 ?_ | refine RG.z1 ?_ | refine RG.z2 ?_ | refine RG.z3 ?_ | refine RG.z4 ?_ | refine RG.z5 ?_ | refine RG.z6 ?_ | refine RG.z7 ?_ | refine RG.z8 ?_ | refine RG.z9 ?_ | refine RG.zA ?_ | refine RG.zB ?_ | refine RG.zC ?_)
  (first | refine RG.z0 ?_ | refine RG.z1 ?_ | refine RG.z2 ?_ | refine RG.z3 ?_ | refine RG.z4 ?_ | refine RG.z5 ?_ | refine RG.z6 ?_ | refine RG.z7 ?_ | refine RG.z8 ?_ | refine RG.z9 ?_ | refine RG.zA ?_ | refine RG.zB ?_ | refine RG.zC ?_)
  (first | refine RG.z0 ?_ | refine RG.z1 ?_ | refine RG.z2 ?_ | refine RG.z3 ?_ | refine RG.z4 ?_ | refine RG.z5 ?_ | refine RG.z6 ?_ | refine RG.z7 ?_ | refine RG.z8 ?_ | refine RG.z9 ?_ | refine RG.zA ?_ | refine RG.zB ?_ | refine RG.zC ?_)
  refine RG.p (d := .bool (!(ks.length == ks'.length))) (by first | exact trivial | exact rfl) (by
    show some (DV.bool ((ks.length : Int) != ks'.length)) = _
    rw [len_bne]) ?_
  cases c5 : ks.length == ks'.length
  case false =>
    rw [c5, Bool.false_and] at hS
    repeat (first | refine RG.z0 ?_ | refine RG.z1 ?_ | refine RG.z2 ?_ | refine RG.z3 ?_ | refine RG.z4 ?_ | refine RG.z5 ?_ | refine RG.z6 ?_ | refine RG.z7 ?_ | refine RG.z8 ?_ | refine RG.z9 ?_ | refine RG.zA ?_ | refine RG.zB ?_ | refine RG.zC ?_)
    refine RG.nilS (AC.cond_t rfl (AC.seq (AC.reg ?_)))
    repeat (first | refine RG.z0 ?_ | refine RG.z1 ?_ | refine RG.z2 ?_ | refine RG.z3 ?_ | refine RG.z4 ?_ | refine RG.z5 ?_ | refine RG.z6 ?_ | refine RG.z7 ?_ | refine RG.z8 ?_ | refine RG.z9 ?_ | refine RG.zA ?_ | refine RG.zB ?_ | refine RG.zC ?_)
    exact RG.nilS (AC.ret (no hS rfl))
  rw [c5, Bool.true_and] at hS
  have hlen : ks.length = ks'.length := by simpa using c5
  repeat (first | refine RG.z0 ?_ | refine RG.z1 ?_ | refine RG.z2 ?_ | refine RG.z3 ?_ | refine RG.z4 ?_ | refine RG.z5 ?_ | refine RG.z6 ?_ | refine RG.z7 ?_ | refine RG.z8 ?_ | refine RG.z9 ?_ | refine RG.zA ?_ | refine RG.zB ?_ | refine RG.zC ?_)
  refine RG.nilS (AC.cond_f rfl (AC.skip (AC.seq (AC.seq (AC.reg ?_)))))
  (first | refine RG.z0 ?_ | refine RG.z1 ?_ | refine RG.z2 ?_ | refine RG.z3 ?_ | refine RG.z4 ?_ | refine RG.z5 ?_ | refine RG.z6 ?_ | refine RG.z7 ?_ | refine RG.z8 ?_ | refine RG.z9 ?_ | refine RG.zA ?_ | refine RG.zB ?_ | refine RG.zC ?_)
  refine RG.nilS ?_
  refine AC.bloopH (α := Nat) (β := Unit) (fun i => ks.length - i) (fun i => [(2, .int .i64 d), (3, .ptr b3 0), (4, .ptr b4 0), (7, .int .i64 i)])
      (fun i H' => i ≤ ks.length ∧ H' = HH ∧ (decide (1 < d) = true → samesF (ks.drop i) (ks'.drop i) (d - 1) = samesF ks ks' (d - 1))) (fun _ => []) (fun _ H' => H' = HH ∧ sameF (.mk p n t o ks) (.mk p' n' t' o' ks') d = true) ?_ ?_ 0 _ ⟨Nat.zero_le _, rfl, fun _ => rfl⟩ ⟨rfl, rfl, rfl, rfl, trivial⟩
  · intro _ He fr ⟨h1, h2⟩ hfr
    subst h1
    refine AC.to _ hfr (AC.seq (AC.reg ?_))
    repeat (first | refine RG.z0 ?_ | refine RG.z1 ?_ | refine RG.z2 ?_ | refine RG.z3 ?_ | refine RG.z4 ?_ | refine RG.z5 ?_ | refine RG.z6 ?_ | refine RG.z7 ?_ | refine RG.z8 ?_ | refine RG.z9 ?_ | refine RG.zA ?_ | refine RG.zB ?_ | refine RG.zC ?_)
    exact RG.nilS (AC.ret (finD (H' := H) rfl hsub ⟨by rw [h2]; rfl, rfl⟩))
  · rintro i H' ⟨h1, h2, h5⟩ ih2 ex
    subst h2
    refine AC.seq (AC.seq (AC.reg ?_))
    (first | refine RG.z0 ?_ | refine RG.z1 ?_ | refine RG.z2 ?_ | refine RG.z3 ?_ | refine RG.z4 ?_ | refine RG.z5 ?_ | refine RG.z6 ?_ | refine RG.z7 ?_ | refine RG.z8 ?_ | refine RG.z9 ?_ | refine RG.zA ?_ | refine RG.zB ?_ | refine RG.zC ?_)
    (first | refine RG.z0 ?_ | refine RG.z1 ?_ | refine RG.z2 ?_ | refine RG.z3 ?_ | refine RG.z4 ?_ | refine RG.z5 ?_ | refine RG.z6 ?_ | refine RG.z7 ?_ | refine RG.z8 ?_ | refine RG.z9 ?_ | refine RG.zA ?_ | refine RG.zB ?_ | refine RG.zC ?_)
    (first | refine RG.z0 ?_ | refine RG.z1 ?_ | refine RG.z2 ?_ | refine RG.z3 ?_ | refine RG.z4 ?_ | refine RG.z5 ?_ | refine RG.z6 ?_ | refine RG.z7 ?_ | refine RG.z8 ?_ | refine RG.z9 ?_ | refine RG.zA ?_ | refine RG.zB ?_ | refine RG.zC ?_)
    (first | refine RG.z0 ?_ | refine RG.z1 ?_ | refine RG.z2 ?_ | refine RG.z3 ?_ | refine RG.z4 ?_ | refine RG.z5 ?_ | refine RG.z6 ?_ | refine RG.z7 ?_ | refine RG.z8 ?_ | refine RG.z9 ?_ | refine RG.zA ?_ | refine RG.zB ?_ | refine RG.zC ?_)
    refine RG.p (d := .bool (decide ((i : Int) < ks.length))) (by first | exact trivial | exact rfl) rfl ?_
    cases c6 : decide ((i : Int) < ks.length)
    case false =>
      have e := of_decide_eq_false c6
      repeat (first | refine RG.z0 ?_ | refine RG.z1 ?_ | refine RG.z2 ?_ | refine RG.z3 ?_ | refine RG.z4 ?_ | refine RG.z5 ?_ | refine RG.z6 ?_ | refine RG.z7 ?_ | refine RG.z8 ?_ | refine RG.z9 ?_ | refine RG.zA ?_ | refine RG.zB ?_ | refine RG.zC ?_)
      refine RG.nilS (AC.cond_f rfl (AC.exit (ex () _ _ ⟨rfl, ?_⟩ trivial)))
      rw [hS]
      cases c7 : decide (1 < d)
      · rfl
      · rw [cond_true, ← h5 c7, List.drop_eq_nil_of_le (by omega), samesF]
    have hi' := of_decide_eq_true c6
    have hi : i < ks.length := by omega
    have hi2 : i < ks'.length := by omega
    (first | refine RG.z0 ?_ | refine RG.z1 ?_ | refine RG.z2 ?_ | refine RG.z3 ?_ | refine RG.z4 ?_ | refine RG.z5 ?_ | refine RG.z6 ?_ | refine RG.z7 ?_ | refine RG.z8 ?_ | refine RG.z9 ?_ | refine RG.zA ?_ | refine RG.zB ?_ | refine RG.zC ?_)
    (first | refine RG.z0 ?_ | refine RG.z1 ?_ | refine RG.z2 ?_ | refine RG.z3 ?_ | refine RG.z4 ?_ | refine RG.z5 ?_ | refine RG.z6 ?_ | refine RG.z7 ?_ | refine RG.z8 ?_ | refine RG.z9 ?_ | refine RG.zA ?_ | refine RG.zB ?_ | refine RG.zC ?_)
    (first | refine RG.z0 ?_ | refine RG.z1 ?_ | refine RG.z2 ?_ | refine RG.z3 ?_ | refine RG.z4 ?_ | refine RG.z5 ?_ | refine RG.z6 ?_ | refine RG.z7 ?_ | refine RG.z8 ?_ | refine RG.z9 ?_ | refine RG.zA ?_ | refine RG.zB ?_ | refine RG.zC ?_)
    (first | refine RG.z0 ?_ | refine RG.z1 ?_ | refine RG.z2 ?_ | refine RG.z3 ?_ | refine RG.z4 ?_ | refine RG.z5 ?_ | refine RG.z6 ?_ | refine RG.z7 ?_ | refine RG.z8 ?_ | refine RG.z9 ?_ | refine RG.zA ?_ | refine RG.zB ?_ | refine RG.zC ?_)
    (first | refine RG.z0 ?_ | refine RG.z1 ?_ | refine RG.z2 ?_ | refine RG.z3 ?_ | refine RG.z4 ?_ | refine RG.z5 ?_ | refine RG.z6 ?_ | refine RG.z7 ?_ | refine RG.z8 ?_ | refine RG.z9 ?_ | refine RG.zA ?_ | refine RG.zB ?_ | refine RG.zC ?_)
    refine RG.p (d := .bool true) (by first | exact trivial | exact rfl) (by
      show some (DV.bool (decide ((i : Int) < ks'.length))) = _
      congr 2
      simp; omega) ?_
    (first | refine RG.z0 ?_ | refine RG.z1 ?_ | refine RG.z2 ?_ | refine RG.z3 ?_ | refine RG.z4 ?_ | refine RG.z5 ?_ | refine RG.z6 ?_ | refine RG.z7 ?_ | refine RG.z8 ?_ | refine RG.z9 ?_ | refine RG.zA ?_ | refine RG.zB ?_ | refine RG.zC ?_)
    (first | refine RG.z0 ?_ | refine RG.z1 ?_ | refine RG.z2 ?_ | refine RG.z3 ?_ | refine RG.z4 ?_ | refine RG.z5 ?_ | refine RG.z6 ?_ | refine RG.z7 ?_ | refine RG.z8 ?_ | refine RG.z9 ?_ | refine RG.zA ?_ | refine RG.zB ?_ | refine RG.zC ?_)
    (first | refine RG.z0 ?_ | refine RG.z1 ?_ | refine RG.z2 ?_ | refine RG.z3 ?_ | refine RG.z4 ?_ | refine RG.z5 ?_ | refine RG.z6 ?_ | refine RG.z7 ?_ | refine RG.z8 ?_ | refine RG.z9 ?_ | refine RG.zA ?_ | refine RG.zB ?_ | refine RG.zC ?_)
    refine RG.p (d := .bool (decide (1 < d))) (by first | exact trivial | exact rfl) (by
      show some (DV.bool (decide ((d : Int) > 1))) = _
      congr 2
      rw [Bool.eq_iff_iff]; simp; omega) ?_
    cases c7 : decide (1 < d)
    case false =>
      repeat (first | refine RG.z0 ?_ | refine RG.z1 ?_ | refine RG.z2 ?_ | refine RG.z3 ?_ | refine RG.z4 ?_ | refine RG.z5 ?_ | refine RG.z6 ?_ | refine RG.z7 ?_ | refine RG.z8 ?_ | refine RG.z9 ?_ | refine RG.zA ?_ | refine RG.zB ?_ | refine RG.zC ?_)
      refine RG.nilS (AC.cond_f rfl (AC.exit (ex () _ _ ⟨rfl, ?_⟩ trivial)))
      rw [hS, c7]; rfl
    have hd1 := of_decide_eq_true c7
    rw [c7, cond_true] at hS
    have h6 := h5 c7
    repeat (first | refine RG.z0 ?_ | refine RG.z1 ?_ | refine RG.z2 ?_ | refine RG.z3 ?_ | refine RG.z4 ?_ | refine RG.z5 ?_ | refine RG.z6 ?_ | refine RG.z7 ?_ | refine RG.z8 ?_ | refine RG.z9 ?_ | refine RG.zA ?_ | refine RG.zB ?_ | refine RG.zC ?_)
    have hrow : ((elsC ks).drop (i * 5)).take 5 = elC ks[i] := elsC_at ks i _ (List.getElem?_eq_getElem hi)
    have hrow' : partD true 0 5 ((elsC ks).drop (((i : Nat) : Int).toNat * 5)) = some (.agg (elC ks[i])) := partD_row (i := i) (sz := 5) hrow (by rw [elsC_length]; omega)
    have grow : ((elsC ks').drop (i * 5)).take 5 = elC ks'[i] := elsC_at ks' i _ (List.getElem?_eq_getElem hi2)
    have grow' : partD true 0 5 ((elsC ks').drop (((i : Nat) : Int).toNat * 5)) = some (.agg (elC ks'[i])) := partD_row (i := i) (sz := 5) grow (by rw [elsC_length]; omega)
    refine RG.nilS (AC.cond_t rfl (AC.skip (AC.seq (AC.block (AC.seq (AC.drawV [12] rfl ?_))))))
    first | refine VD.z0 0 ?_ | refine VD.z1 0 ?_ | refine VD.z2 0 ?_ | refine VD.z3 0 ?_ | refine VD.z4 0 ?_ | refine VD.z5 0 ?_
    first | refine VD.z0 1 ?_ | refine VD.z1 1 ?_ | refine VD.z2 1 ?_ | refine VD.z3 1 ?_ | refine VD.z4 1 ?_ | refine VD.z5 1 ?_
    first | refine VD.z0 2 ?_ | refine VD.z1 2 ?_ | refine VD.z2 2 ?_ | refine VD.z3 2 ?_ | refine VD.z4 2 ?_ | refine VD.z5 2 ?_
    refine VD.pv 3 rfl rfl (evP_iadr rfl rfl (by omega)) ?_
    refine VD.pv 4 rfl rfl (evP_ldc rfl hrow') ?_
    first | refine VD.z0 5 ?_ | refine VD.z1 5 ?_ | refine VD.z2 5 ?_ | refine VD.z3 5 ?_ | refine VD.z4 5 ?_ | refine VD.z5 5 ?_
    first | refine VD.z0 6 ?_ | refine VD.z1 6 ?_ | refine VD.z2 6 ?_ | refine VD.z3 6 ?_ | refine VD.z4 6 ?_ | refine VD.z5 6 ?_
    first | refine VD.z0 7 ?_ | refine VD.z1 7 ?_ | refine VD.z2 7 ?_ | refine VD.z3 7 ?_ | refine VD.z4 7 ?_ | refine VD.z5 7 ?_
    refine VD.pv 8 rfl rfl (evP_iadr rfl rfl (by omega)) ?_
    refine VD.pv 9 rfl rfl (evP_ldc rfl grow') ?_
    first | refine VD.z0 10 ?_ | refine VD.z1 10 ?_ | refine VD.z2 10 ?_ | refine VD.z3 10 ?_ | refine VD.z4 10 ?_ | refine VD.z5 10 ?_
    refine VD.pv 11 rfl rfl (d := .int .i64 (d - 1 : Nat)) (by
      rw [ev_sub (a := d) (b := 1) rfl rfl (by omega)]
      congr 2; omega) ?_
    have hc := ih hd1 ks[i] ks'[i] (fitss_mem ks hks _ (List.getElem_mem hi)) (fitss_mem ks' hks' _ (List.getElem_mem hi2))
    refine VD.pe (K := fun d' H2 => d' = .bool (sameF ks[i] ks'[i] (d - 1)) ∧ H2 = H') (Kp := fun _ _ => False) 12 rfl rfl (EF.call rfl (hc H')) (fun _ _ _ h => h.elim) (fun d' H2 ⟨f1, f2⟩ => ⟨?_, ?_⟩)
    · subst f2
      repeat (refine stabAll_cons rfl (by first | exact Stab.ld rfl (by first | assumption | exact Hp.upd_same | (rw [Hp.upd_ne (by first | assumption | omega)]; first | assumption | exact Hp.upd_same | (rw [Hp.upd_ne (by first | assumption | omega)]; first | assumption | exact Hp.upd_same))) rfl rfl | exact Stab.of (evP_iadr rfl rfl (by omega)) rfl | exact Stab.of rfl rfl) ?_)
      exact stabAll_nil
    subst f1; subst f2
    refine VD.pv 13 rfl rfl (d := .bool (!(sameF ks[i] ks'[i] (d - 1)))) rfl ?_
    refine VD.pd rfl ?_
    rw [List.drop_eq_getElem_cons hi, List.drop_eq_getElem_cons hi2, samesF] at h6
    cases c8 : sameF ks[i] ks'[i] (d - 1)
    · refine AC.cond_t rfl (AC.seq (AC.reg ?_))
      (first | refine RG.z0 ?_ | refine RG.z1 ?_ | refine RG.z2 ?_ | refine RG.z3 ?_ | refine RG.z4 ?_ | refine RG.z5 ?_ | refine RG.z6 ?_ | refine RG.z7 ?_ | refine RG.z8 ?_ | refine RG.z9 ?_ | refine RG.zA ?_ | refine RG.zB ?_ | refine RG.zC ?_)
      refine RG.nilS (AC.ret (no ?_ rfl))
      rw [hS, ← h6, c8]; rfl
    · refine AC.cond_f rfl (AC.skip (AC.reg ?_))
      (first | refine RG.z0 ?_ | refine RG.z1 ?_ | refine RG.z2 ?_ | refine RG.z3 ?_ | refine RG.z4 ?_ | refine RG.z5 ?_ | refine RG.z6 ?_ | refine RG.z7 ?_ | refine RG.z8 ?_ | refine RG.z9 ?_ | refine RG.zA ?_ | refine RG.zB ?_ | refine RG.zC ?_)
      (first | refine RG.z0 ?_ | refine RG.z1 ?_ | refine RG.z2 ?_ | refine RG.z3 ?_ | refine RG.z4 ?_ | refine RG.z5 ?_ | refine RG.z6 ?_ | refine RG.z7 ?_ | refine RG.z8 ?_ | refine RG.z9 ?_ | refine RG.zA ?_ | refine RG.zB ?_ | refine RG.zC ?_)
      (first | refine RG.z0 ?_ | refine RG.z1 ?_ | refine RG.z2 ?_ | refine RG.z3 ?_ | refine RG.z4 ?_ | refine RG.z5 ?_ | refine RG.z6 ?_ | refine RG.z7 ?_ | refine RG.z8 ?_ | refine RG.z9 ?_ | refine RG.zA ?_ | refine RG.zB ?_ | refine RG.zC ?_)
      rw [c8, Bool.true_and] at h6
      exact RG.nil (ih2 (i + 1) _ ⟨by omega, rfl, fun _ => h6⟩ (by omega) _ ⟨rfl, rfl, rfl, rfl, trivial⟩)

theorem same_ok : ∀ (d : Nat), d < 100 → ∀ (e e' : El), fits e → fits e' → PF Go.Proofs.Tryd.prog G 26 [.agg (elC e), .agg (elC e'), .int .i64 d] (.bool (sameF e e' d))
  | 0, h, e, e', hf, hf' => same_step h (fun h => by omega) e e' hf hf'
  | d + 1, h, e, e', hf, hf' => same_step h (fun _ => same_ok d (by omega)) e e' hf hf'

theorem Same_ok (e e' : El) (hf : fits e) (hf' : fits e') : PF Go.Proofs.Tryd.prog G 9 [.agg (elC e), .agg (elC e')] (.bool (sameF e e' 20)) := by
  intro H
  refine CALL.of cF9 (Nat.le_of_ble_eq_true rfl) ?_
  refine AC.seq (AC.reg ?_)
  refine RG.box (ys := elC e) (by first | exact trivial | exact rfl) rfl rfl fun b3 h3 => ?_
  refine RG.box (ys := elC e') (by first | exact trivial | exact rfl) rfl rfl fun b4 h4 => ?_
  have hne : b3 ≠ b4 := fun e => by rw [← e, Hp.upd_same] at h4; cases h4
  have h4' : H b4 = none := by rw [Hp.upd_ne (Ne.symm hne)] at h4; exact h4
  (first | refine RG.z0 ?_ | refine RG.z1 ?_ | refine RG.z2 ?_ | refine RG.z3 ?_ | refine RG.z4 ?_ | refine RG.z5 ?_ | refine RG.z6 ?_ | refine RG.z7 ?_ | refine RG.z8 ?_ | refine RG.z9 ?_ | refine RG.zA ?_ | refine RG.zB ?_ | refine RG.zC ?_)
  refine RG.nilS (AC.seq (AC.reg ?_))
  refine RG.ld (cs := elC e) (ty := elT) (by first | exact trivial | exact rfl) (by conv => lhs; whnf) (by rw [Hp.upd_ne hne]; exact Hp.upd_same) (ldEl e) ?_
  refine RG.ld (cs := elC e') (ty := elT) (by first | exact trivial | exact rfl) (by conv => lhs; whnf) Hp.upd_same (ldEl e') ?_
  refine RG.callP (by first | exact trivial | exact rfl) rfl (same_ok 20 (by omega) e e' hf hf') ?_
  (first | refine RG.z0 ?_ | refine RG.z1 ?_ | refine RG.z2 ?_ | refine RG.z3 ?_ | refine RG.z4 ?_ | refine RG.z5 ?_ | refine RG.z6 ?_ | refine RG.z7 ?_ | refine RG.z8 ?_ | refine RG.z9 ?_ | refine RG.zA ?_ | refine RG.zB ?_ | refine RG.zC ?_)
  exact RG.nilS (AC.ret (finD (H' := H) rfl (SubH.over (SubH.over (SubH.refl H) h3) h4') ⟨rfl, rfl⟩))
end Go.Run.Tryd
/- works; MarkupBack. -/
namespace Go.Run.Tryd
open Go Go.Run Go.RowKit
/-! cardcase/cardcaselaw16.works -/
def F5 : FN := ⟨53, (.seq (.reg [⟨(some 0), none, .mv (.c (.bool false))⟩])
  (.seq (.reg [⟨(some 10), none, .call 11 [(.c (.int .i64 0)), (.c (.str [68, 97, 116, 97])), (.c (.str [97, 60, 98]))]⟩,
    ⟨(some 11), none, .call 7 [(.t 10)]⟩,
    ⟨(some 9), none, .mv (.t 11)⟩,
    ⟨(some 12), none, .ext (.t 9) 0⟩,
    ⟨(some 13), none, .ext (.t 9) 1⟩,
    ⟨(some 1), none, .mv (.t 12)⟩,
    ⟨(some 2), none, .mv (.t 13)⟩])
  (.seq (.reg [⟨(some 15), none, .call 8 [(.c (.str [60, 65, 62, 60, 66, 32, 120, 109, 108, 110, 115, 61, 34, 115, 121, 110, 99, 109, 108, 58, 109, 101, 116, 105, 110, 102, 34, 62, 38, 35, 57, 55, 59, 60, 47, 66, 62, 10, 60, 47, 65, 62]))]⟩,
    ⟨(some 14), none, .mv (.t 15)⟩,
    ⟨(some 16), none, .ext (.t 14) 0⟩,
    ⟨(some 17), none, .ext (.t 14) 1⟩,
    ⟨(some 18), none, .ext (.t 14) 2⟩,
    ⟨(some 3), none, .alloc [(.int .i64 0), (.str []), (.str []), (.bool false), .nils] 24⟩,
    ⟨none, none, .st 5 (.t 3) (.t 16)⟩,
    ⟨(some 4), none, .mv (.t 17)⟩,
    ⟨(some 5), none, .mv (.t 18)⟩])
  (.seq (.reg [⟨(some 20), none, .call 8 [(.c (.str [60, 65, 62]))]⟩,
    ⟨(some 19), none, .mv (.t 20)⟩,
    ⟨(some 21), none, .ext (.t 19) 0⟩,
    ⟨(some 22), none, .ext (.t 19) 1⟩,
    ⟨(some 23), none, .ext (.t 19) 2⟩,
    ⟨(some 6), none, .alloc [(.int .i64 0), (.str []), (.str []), (.bool false), .nils] 24⟩,
    ⟨none, none, .st 5 (.t 6) (.t 21)⟩,
    ⟨(some 7), none, .mv (.t 22)⟩,
    ⟨(some 8), none, .mv (.t 23)⟩])
  (.seq (.reg [⟨(some 24), none, .mv (.t 2)⟩,
    ⟨(some 25), none, .bin .eql (.t 24) (.c (.int .i64 0))⟩,
    ⟨(some 26), none, .mv (.t 25)⟩,
    ⟨(some 27), some (26, true), .mv (.t 1)⟩,
    ⟨(some 28), some (26, true), .bin .eql (.t 27) (.c (.str [60, 63, 120, 109, 108, 32, 118, 101, 114, 115, 105, 111, 110, 61, 34, 49, 46, 48, 34, 63, 62, 60, 68, 97, 116, 97, 62, 97, 38, 108, 116, 59, 98, 60, 47, 68, 97, 116, 97, 62]))⟩,
    ⟨(some 29), none, .pick (.t 26) (.t 28) (.c (.bool false))⟩,
    ⟨(some 30), none, .mv (.t 29)⟩,
    ⟨(some 31), some (30, true), .mv (.t 5)⟩,
    ⟨(some 32), some (30, true), .bin .eql (.t 31) (.c (.int .i64 0))⟩,
    ⟨(some 33), none, .pick (.t 30) (.t 32) (.c (.bool false))⟩,
    ⟨(some 34), none, .mv (.t 33)⟩,
    ⟨(some 35), some (34, true), .mv (.t 4)⟩,
    ⟨(some 36), some (34, true), .bin .eql (.t 35) (.c (.int .i64 0))⟩,
    ⟨(some 37), none, .pick (.t 34) (.t 36) (.c (.bool false))⟩,
    ⟨(some 38), none, .mv (.t 37)⟩,
    ⟨(some 39), some (38, true), .mv (.t 7)⟩,
    ⟨(some 40), some (38, true), .bin .eql (.t 39) (.c (.int .i64 3))⟩,
    ⟨(some 41), none, .pick (.t 38) (.t 40) (.c (.bool false))⟩,
    ⟨(some 42), none, .mv (.t 41)⟩,
    ⟨(some 43), some (42, true), .mv (.t 8)⟩,
    ⟨(some 44), some (42, true), .bin .eql (.t 43) (.c (.int .i64 1))⟩,
    ⟨(some 45), none, .pick (.t 42) (.t 44) (.c (.bool false))⟩,
    ⟨(some 46), none, .mv (.t 45)⟩,
    ⟨(some 47), some (46, true), .ld true 5 (.t 3)⟩,
    ⟨(some 48), some (46, true), .bld [(.int .i64 0), (.str []), (.str []), (.bool false), .nils] [(0, 1, (.c (.int .i64 1))), (1, 1, (.c (.str [66]))), (2, 1, (.c (.str [97])))]⟩,
    ⟨(some 49), some (46, true), .bsl 24 1 5 [(.int .i64 0), (.str []), (.str []), (.bool false), .nils] [(0, 5, (.t 48))]⟩,
    ⟨(some 50), some (46, true), .bld [(.int .i64 0), (.str []), (.str []), (.bool false), .nils] [(1, 1, (.c (.str [65]))), (4, 1, (.t 49))]⟩,
    ⟨(some 51), some (46, true), .call 9 [(.t 47), (.t 50)]⟩,
    ⟨(some 52), none, .pick (.t 46) (.t 51) (.c (.bool false))⟩,
    ⟨(some 0), none, .mv (.t 52)⟩])
  .ret))))), [.tmp 0]⟩
theorem cF5 : cFn Go.Proofs.Tryd.prog 5 = some F5 := by kernel_rfl
/-! cardcase/cardcaselaw16.MarkupBack -/
def F3 : FN := ⟨34, (.seq (.reg [⟨(some 1), none, .box 24 (.t 0)⟩,
    ⟨(some 2), none, .mv (.c (.bool false))⟩])
  (.seq (.seq (.reg [⟨(some 8), none, .call 5 []⟩,
    ⟨(some 9), none, .un .not (.t 8)⟩])
  (.cond (.t 9) (.seq (.reg [⟨(some 2), none, .mv (.c (.bool false))⟩])
  .ret)
  .skip))
  (.seq (.seq (.reg [⟨(some 10), none, .ld true 5 (.t 1)⟩,
    ⟨(some 11), none, .call 6 [(.t 10)]⟩])
  (.cond (.t 11) (.seq (.reg [⟨(some 2), none, .mv (.c (.bool true))⟩])
  .ret)
  .skip))
  (.seq (.reg [⟨(some 13), none, .ld true 5 (.t 1)⟩,
    ⟨(some 14), none, .call 7 [(.t 13)]⟩,
    ⟨(some 12), none, .mv (.t 14)⟩,
    ⟨(some 15), none, .ext (.t 12) 0⟩,
    ⟨(some 16), none, .ext (.t 12) 1⟩,
    ⟨(some 3), none, .mv (.t 15)⟩,
    ⟨(some 4), none, .mv (.t 16)⟩])
  (.seq (.seq (.reg [⟨(some 17), none, .mv (.t 4)⟩,
    ⟨(some 18), none, .bin .neq (.t 17) (.c (.int .i64 0))⟩])
  (.cond (.t 18) (.seq (.reg [⟨(some 19), none, .mv (.t 3)⟩,
    ⟨(some 20), none, .bin .eql (.t 19) (.c (.str []))⟩,
    ⟨(some 2), none, .mv (.t 20)⟩])
  .ret)
  .skip))
  (.seq (.reg [⟨(some 22), none, .mv (.t 3)⟩,
    ⟨(some 23), none, .call 8 [(.t 22)]⟩,
    ⟨(some 21), none, .mv (.t 23)⟩,
    ⟨(some 24), none, .ext (.t 21) 0⟩,
    ⟨(some 25), none, .ext (.t 21) 1⟩,
    ⟨(some 26), none, .ext (.t 21) 2⟩,
    ⟨(some 5), none, .alloc [(.int .i64 0), (.str []), (.str []), (.bool false), .nils] 24⟩,
    ⟨none, none, .st 5 (.t 5) (.t 24)⟩,
    ⟨(some 6), none, .mv (.t 25)⟩,
    ⟨(some 7), none, .mv (.t 26)⟩])
  (.seq (.reg [⟨(some 27), none, .mv (.t 7)⟩,
    ⟨(some 28), none, .bin .eql (.t 27) (.c (.int .i64 0))⟩,
    ⟨(some 29), none, .mv (.t 28)⟩,
    ⟨(some 30), some (29, true), .ld true 5 (.t 5)⟩,
    ⟨(some 31), some (29, true), .ld true 5 (.t 1)⟩,
    ⟨(some 32), some (29, true), .call 9 [(.t 30), (.t 31)]⟩,
    ⟨(some 33), none, .pick (.t 29) (.t 32) (.c (.bool false))⟩,
    ⟨(some 2), none, .mv (.t 33)⟩])
  .ret))))))), [.tmp 2]⟩
theorem cF3 : cFn Go.Proofs.Tryd.prog 3 = some F3 := by kernel_rfl
variable {G : Gl}

theorem DLe_lst {cs cs' : List DV} {n sz : Nat} {tag : Option (Nat × Nat)} (h : DLes cs cs') : DLe (.lst cs n sz tag) (.lst cs' n sz none) := by
  intro w H Z v hv
  cases hv with
  | lst A n c sz cs tag vs h1 h2 h3 ho h4 h5 =>
    refine .lst A n c sz cs' none vs (by rw [← h.len]; exact h1) h2 (fun j hj => h3 j (by rw [h.len]; exact hj)) (fun j hj => ho j (by rw [h.len]; exact hj)) (fun j d' hd' => ?_) (fun b off e => by cases e)
    have hj := (List.getElem?_eq_some_iff.1 hd').1
    have hj2 : j < cs.length := by rw [h.len]; exact hj
    exact h.at j _ d' (List.getElem?_eq_getElem hj2) hd' w H Z _ (h4 j _ (List.getElem?_eq_getElem hj2))

def W1 : El := .mk 0 [68, 97, 116, 97] [97, 60, 98] false []
def B1 : El := .mk 1 [66] [97] false []
def X1 : El := .mk 0 [65] [] false [B1]
def doc1 : List UInt8 := [60, 63, 120, 109, 108, 32, 118, 101, 114, 115, 105, 111, 110, 61, 34, 49, 46, 48, 34, 63, 62, 60, 68, 97, 116, 97, 62, 97, 38, 108, 116, 59, 98, 60, 47, 68, 97, 116, 97, 62]
def doc2 : List UInt8 := [60, 65, 62, 60, 66, 32, 120, 109, 108, 110, 115, 61, 34, 115, 121, 110, 99, 109, 108, 58, 109, 101, 116, 105, 110, 102, 34, 62, 38, 35, 57, 55, 59, 60, 47, 66, 62, 10, 60, 47, 65, 62]
theorem wr1 : writeF W1 = (doc1, 0) := by kernel_rfl
theorem rd1 : readF doc2 = (X1, 0, 0) := by kernel_rfl
theorem rd2 : readF [60, 65, 62] = (El0, 3, 1) := by kernel_rfl
theorem fitX1 : fits X1 := ⟨by decide, ⟨by decide, trivial⟩, trivial⟩
theorem fitW1 : fits W1 := ⟨by decide, trivial⟩
theorem eC1 : elC B1 = [.int .i64 1, .str [66], .str [97], .bool false, .lst [] 0 5 none] := by rw [B1, elC]; rfl
theorem eX1 : elC X1 = [.int .i64 0, .str [65], .str [], .bool false, .lst (elsC [B1]) 1 5 none] := by rw [X1, elC]; rfl
theorem splE (x : El) : spliceL 0 (elC x) Z5 = elC x := by
  obtain ⟨p, n, t, o, ks⟩ := x
  rw [elC]; rfl

theorem works_ok (hG : GOK G) : PF Go.Proofs.Tryd.prog G 5 [] (.bool true) := by
  intro H
  have hW := Write_ok hG W1 fitW1
  rw [wr1] at hW
  have hR1 := Read_ok hG doc2
  rw [rd1] at hR1
  have hR2 := Read_ok hG [60, 65, 62]
  rw [rd2] at hR2
  have hL := Leaf_ok (G := G) 0 [68, 97, 116, 97] [97, 60, 98]
  have hS := Same_ok (G := G) X1 X1 fitX1 fitX1
  rw [sameF_refl] at hS
  refine CALL.of cF5 (Nat.le_of_ble_eq_true rfl) ?_
  refine AC.seq (AC.reg ?_)
  (first | refine RG.z0 ?_ | refine RG.z1 ?_ | refine RG.z2 ?_ | refine RG.z3 ?_ | refine RG.z4 ?_ | refine RG.z5 ?_ | refine RG.z6 ?_ | refine RG.z7 ?_ | refine RG.z8 ?_ | refine RG.z9 ?_ | refine RG.zA ?_ | refine RG.zB ?_ | refine RG.zC ?_)
  refine RG.nilS (AC.seq (AC.reg ?_))
  refine RG.callP (by first | exact trivial | exact rfl) rfl hL ?_
  refine RG.callP (by first | exact trivial | exact rfl) rfl hW ?_
  (first | refine RG.z0 ?_ | refine RG.z1 ?_ | refine RG.z2 ?_ | refine RG.z3 ?_ | refine RG.z4 ?_ | refine RG.z5 ?_ | refine RG.z6 ?_ | refine RG.z7 ?_ | refine RG.z8 ?_ | refine RG.z9 ?_ | refine RG.zA ?_ | refine RG.zB ?_ | refine RG.zC ?_)
  (first | refine RG.z0 ?_ | refine RG.z1 ?_ | refine RG.z2 ?_ | refine RG.z3 ?_ | refine RG.z4 ?_ | refine RG.z5 ?_ | refine RG.z6 ?_ | refine RG.z7 ?_ | refine RG.z8 ?_ | refine RG.z9 ?_ | refine RG.zA ?_ | refine RG.zB ?_ | refine RG.zC ?_)
  (first | refine RG.z0 ?_ | refine RG.z1 ?_ | refine RG.z2 ?_ | refine RG.z3 ?_ | refine RG.z4 ?_ | refine RG.z5 ?_ | refine RG.z6 ?_ | refine RG.z7 ?_ | refine RG.z8 ?_ | refine RG.z9 ?_ | refine RG.zA ?_ | refine RG.zB ?_ | refine RG.zC ?_)
  (first | refine RG.z0 ?_ | refine RG.z1 ?_ | refine RG.z2 ?_ | refine RG.z3 ?_ | refine RG.z4 ?_ | refine RG.z5 ?_ | refine RG.z6 ?_ | refine RG.z7 ?_ | refine RG.z8 ?_ | refine RG.z9 ?_ | refine RG.zA ?_ | refine RG.zB ?_ | refine RG.zC ?_)
  (first | refine RG.z0 ?_ | refine RG.z1 ?_ | refine RG.z2 ?_ | refine RG.z3 ?_ | refine RG.z4 ?_ | refine RG.z5 ?_ | refine RG.z6 ?_ | refine RG.z7 ?_ | refine RG.z8 ?_ | refine RG.z9 ?_ | refine RG.zA ?_ | refine RG.zB ?_ | refine RG.zC ?_)
  refine RG.nilS (AC.seq (AC.reg ?_))
  refine RG.callP (by first | exact trivial | exact rfl) rfl hR1 ?_
  (first | refine RG.z0 ?_ | refine RG.z1 ?_ | refine RG.z2 ?_ | refine RG.z3 ?_ | refine RG.z4 ?_ | refine RG.z5 ?_ | refine RG.z6 ?_ | refine RG.z7 ?_ | refine RG.z8 ?_ | refine RG.z9 ?_ | refine RG.zA ?_ | refine RG.zB ?_ | refine RG.zC ?_)
  (first | refine RG.z0 ?_ | refine RG.z1 ?_ | refine RG.z2 ?_ | refine RG.z3 ?_ | refine RG.z4 ?_ | refine RG.z5 ?_ | refine RG.z6 ?_ | refine RG.z7 ?_ | refine RG.z8 ?_ | refine RG.z9 ?_ | refine RG.zA ?_ | refine RG.zB ?_ | refine RG.zC ?_)
  (first | refine RG.z0 ?_ | refine RG.z1 ?_ | refine RG.z2 ?_ | refine RG.z3 ?_ | refine RG.z4 ?_ | refine RG.z5 ?_ | refine RG.z6 ?_ | refine RG.z7 ?_ | refine RG.z8 ?_ | refine RG.z9 ?_ | refine RG.zA ?_ | refine RG.zB ?_ | refine RG.zC ?_)
  (first | refine RG.z0 ?_ | refine RG.z1 ?_ | refine RG.z2 ?_ | refine RG.z3 ?_ | refine RG.z4 ?_ | refine RG.z5 ?_ | refine RG.z6 ?_ | refine RG.z7 ?_ | refine RG.z8 ?_ | refine RG.z9 ?_ | refine RG.zA ?_ | refine RG.zB ?_ | refine RG.zC ?_)
  refine RG.alloc (by first | exact trivial | exact rfl) fun b3 h3 => ?_
  refine RG.sto (d := .agg (elC X1)) (cs := Z5) (ty := elT) (by first | exact trivial | exact rfl) rfl Hp.upd_same rfl rfl (elC_length X1) (by exact Nat.le_refl _) ?_
  rw [Hp.upd_upd, splE]
  (first | refine RG.z0 ?_ | refine RG.z1 ?_ | refine RG.z2 ?_ | refine RG.z3 ?_ | refine RG.z4 ?_ | refine RG.z5 ?_ | refine RG.z6 ?_ | refine RG.z7 ?_ | refine RG.z8 ?_ | refine RG.z9 ?_ | refine RG.zA ?_ | refine RG.zB ?_ | refine RG.zC ?_)
  (first | refine RG.z0 ?_ | refine RG.z1 ?_ | refine RG.z2 ?_ | refine RG.z3 ?_ | refine RG.z4 ?_ | refine RG.z5 ?_ | refine RG.z6 ?_ | refine RG.z7 ?_ | refine RG.z8 ?_ | refine RG.z9 ?_ | refine RG.zA ?_ | refine RG.zB ?_ | refine RG.zC ?_)
  refine RG.nilS (AC.seq (AC.reg ?_))
  refine RG.callP (by first | exact trivial | exact rfl) rfl hR2 ?_
  (first | refine RG.z0 ?_ | refine RG.z1 ?_ | refine RG.z2 ?_ | refine RG.z3 ?_ | refine RG.z4 ?_ | refine RG.z5 ?_ | refine RG.z6 ?_ | refine RG.z7 ?_ | refine RG.z8 ?_ | refine RG.z9 ?_ | refine RG.zA ?_ | refine RG.zB ?_ | refine RG.zC ?_)
  (first | refine RG.z0 ?_ | refine RG.z1 ?_ | refine RG.z2 ?_ | refine RG.z3 ?_ | refine RG.z4 ?_ | refine RG.z5 ?_ | refine RG.z6 ?_ | refine RG.z7 ?_ | refine RG.z8 ?_ | refine RG.z9 ?_ | refine RG.zA ?_ | refine RG.zB ?_ | refine RG.zC ?_)
  (first | refine RG.z0 ?_ | refine RG.z1 ?_ | refine RG.z2 ?_ | refine RG.z3 ?_ | refine RG.z4 ?_ | refine RG.z5 ?_ | refine RG.z6 ?_ | refine RG.z7 ?_ | refine RG.z8 ?_ | refine RG.z9 ?_ | refine RG.zA ?_ | refine RG.zB ?_ | refine RG.zC ?_)
  (first | refine RG.z0 ?_ | refine RG.z1 ?_ | refine RG.z2 ?_ | refine RG.z3 ?_ | refine RG.z4 ?_ | refine RG.z5 ?_ | refine RG.z6 ?_ | refine RG.z7 ?_ | refine RG.z8 ?_ | refine RG.z9 ?_ | refine RG.zA ?_ | refine RG.zB ?_ | refine RG.zC ?_)
  refine RG.alloc (by first | exact trivial | exact rfl) fun b6 h6 => ?_
  have hne : b3 ≠ b6 := fun e => by rw [← e, Hp.upd_same] at h6; cases h6
  have h6' : H b6 = none := by rw [Hp.upd_ne (Ne.symm hne)] at h6; exact h6
  refine RG.sto (d := .agg (elC El0)) (cs := Z5) (ty := elT) (by first | exact trivial | exact rfl) rfl Hp.upd_same rfl rfl (elC_length El0) (by exact Nat.le_refl _) ?_
  rw [Hp.upd_upd, splE]
  (first | refine RG.z0 ?_ | refine RG.z1 ?_ | refine RG.z2 ?_ | refine RG.z3 ?_ | refine RG.z4 ?_ | refine RG.z5 ?_ | refine RG.z6 ?_ | refine RG.z7 ?_ | refine RG.z8 ?_ | refine RG.z9 ?_ | refine RG.zA ?_ | refine RG.zB ?_ | refine RG.zC ?_)
  (first | refine RG.z0 ?_ | refine RG.z1 ?_ | refine RG.z2 ?_ | refine RG.z3 ?_ | refine RG.z4 ?_ | refine RG.z5 ?_ | refine RG.z6 ?_ | refine RG.z7 ?_ | refine RG.z8 ?_ | refine RG.z9 ?_ | refine RG.zA ?_ | refine RG.zB ?_ | refine RG.zC ?_)
  have hb3 : ((H.upd b3 (some (.cells (elC X1) elT))).upd b6 (some (.cells (elC El0) elT))) b3 = some (.cells (elC X1) elT) := by rw [Hp.upd_ne hne]; exact Hp.upd_same
  have hsub : SubH H ((H.upd b3 (some (.cells (elC X1) elT))).upd b6 (some (.cells (elC El0) elT))) := SubH.over (SubH.over (SubH.refl H) h3) h6'
  generalize (H.upd b3 (some (.cells (elC X1) elT))).upd b6 (some (.cells (elC El0) elT)) = HH at hb3 hsub ⊢
  refine RG.nilS (AC.seq (AC.reg ?_))
  (first | refine RG.z0 ?_ | refine RG.z1 ?_ | refine RG.z2 ?_ | refine RG.z3 ?_ | refine RG.z4 ?_ | refine RG.z5 ?_ | refine RG.z6 ?_ | refine RG.z7 ?_ | refine RG.z8 ?_ | refine RG.z9 ?_ | refine RG.zA ?_ | refine RG.zB ?_ | refine RG.zC ?_)
  refine RG.p (d := .bool true) (by first | exact trivial | exact rfl) (by kernel_rfl) ?_
  (first | refine RG.z0 ?_ | refine RG.z1 ?_ | refine RG.z2 ?_ | refine RG.z3 ?_ | refine RG.z4 ?_ | refine RG.z5 ?_ | refine RG.z6 ?_ | refine RG.z7 ?_ | refine RG.z8 ?_ | refine RG.z9 ?_ | refine RG.zA ?_ | refine RG.zB ?_ | refine RG.zC ?_)
  (first | refine RG.z0 ?_ | refine RG.z1 ?_ | refine RG.z2 ?_ | refine RG.z3 ?_ | refine RG.z4 ?_ | refine RG.z5 ?_ | refine RG.z6 ?_ | refine RG.z7 ?_ | refine RG.z8 ?_ | refine RG.z9 ?_ | refine RG.zA ?_ | refine RG.zB ?_ | refine RG.zC ?_)
  refine RG.p (d := .bool true) (by first | exact trivial | exact rfl) (by kernel_rfl) ?_
  (first | refine RG.z0 ?_ | refine RG.z1 ?_ | refine RG.z2 ?_ | refine RG.z3 ?_ | refine RG.z4 ?_ | refine RG.z5 ?_ | refine RG.z6 ?_ | refine RG.z7 ?_ | refine RG.z8 ?_ | refine RG.z9 ?_ | refine RG.zA ?_ | refine RG.zB ?_ | refine RG.zC ?_)
  (first | refine RG.z0 ?_ | refine RG.z1 ?_ | refine RG.z2 ?_ | refine RG.z3 ?_ | refine RG.z4 ?_ | refine RG.z5 ?_ | refine RG.z6 ?_ | refine RG.z7 ?_ | refine RG.z8 ?_ | refine RG.z9 ?_ | refine RG.zA ?_ | refine RG.zB ?_ | refine RG.zC ?_)
  (first | refine RG.z0 ?_ | refine RG.z1 ?_ | refine RG.z2 ?_ | refine RG.z3 ?_ | refine RG.z4 ?_ | refine RG.z5 ?_ | refine RG.z6 ?_ | refine RG.z7 ?_ | refine RG.z8 ?_ | refine RG.z9 ?_ | refine RG.zA ?_ | refine RG.zB ?_ | refine RG.zC ?_)
  refine RG.p (d := .bool true) (by first | exact trivial | exact rfl) (by kernel_rfl) ?_
  (first | refine RG.z0 ?_ | refine RG.z1 ?_ | refine RG.z2 ?_ | refine RG.z3 ?_ | refine RG.z4 ?_ | refine RG.z5 ?_ | refine RG.z6 ?_ | refine RG.z7 ?_ | refine RG.z8 ?_ | refine RG.z9 ?_ | refine RG.zA ?_ | refine RG.zB ?_ | refine RG.zC ?_)
  (first | refine RG.z0 ?_ | refine RG.z1 ?_ | refine RG.z2 ?_ | refine RG.z3 ?_ | refine RG.z4 ?_ | refine RG.z5 ?_ | refine RG.z6 ?_ | refine RG.z7 ?_ | refine RG.z8 ?_ | refine RG.z9 ?_ | refine RG.zA ?_ | refine RG.zB ?_ | refine RG.zC ?_)
  (first | refine RG.z0 ?_ | refine RG.z1 ?_ | refine RG.z2 ?_ | refine RG.z3 ?_ | refine RG.z4 ?_ | refine RG.z5 ?_ | refine RG.z6 ?_ | refine RG.z7 ?_ | refine RG.z8 ?_ | refine RG.z9 ?_ | refine RG.zA ?_ | refine RG.zB ?_ | refine RG.zC ?_)
  refine RG.p (d := .bool true) (by first | exact trivial | exact rfl) (by kernel_rfl) ?_
  (first | refine RG.z0 ?_ | refine RG.z1 ?_ | refine RG.z2 ?_ | refine RG.z3 ?_ | refine RG.z4 ?_ | refine RG.z5 ?_ | refine RG.z6 ?_ | refine RG.z7 ?_ | refine RG.z8 ?_ | refine RG.z9 ?_ | refine RG.zA ?_ | refine RG.zB ?_ | refine RG.zC ?_)
  (first | refine RG.z0 ?_ | refine RG.z1 ?_ | refine RG.z2 ?_ | refine RG.z3 ?_ | refine RG.z4 ?_ | refine RG.z5 ?_ | refine RG.z6 ?_ | refine RG.z7 ?_ | refine RG.z8 ?_ | refine RG.z9 ?_ | refine RG.zA ?_ | refine RG.zB ?_ | refine RG.zC ?_)
  (first | refine RG.z0 ?_ | refine RG.z1 ?_ | refine RG.z2 ?_ | refine RG.z3 ?_ | refine RG.z4 ?_ | refine RG.z5 ?_ | refine RG.z6 ?_ | refine RG.z7 ?_ | refine RG.z8 ?_ | refine RG.z9 ?_ | refine RG.zA ?_ | refine RG.zB ?_ | refine RG.zC ?_)
  refine RG.p (d := .bool true) (by first | exact trivial | exact rfl) (by kernel_rfl) ?_
  (first | refine RG.z0 ?_ | refine RG.z1 ?_ | refine RG.z2 ?_ | refine RG.z3 ?_ | refine RG.z4 ?_ | refine RG.z5 ?_ | refine RG.z6 ?_ | refine RG.z7 ?_ | refine RG.z8 ?_ | refine RG.z9 ?_ | refine RG.zA ?_ | refine RG.zB ?_ | refine RG.zC ?_)
  (first | refine RG.z0 ?_ | refine RG.z1 ?_ | refine RG.z2 ?_ | refine RG.z3 ?_ | refine RG.z4 ?_ | refine RG.z5 ?_ | refine RG.z6 ?_ | refine RG.z7 ?_ | refine RG.z8 ?_ | refine RG.z9 ?_ | refine RG.zA ?_ | refine RG.zB ?_ | refine RG.zC ?_)
  (first | refine RG.z0 ?_ | refine RG.z1 ?_ | refine RG.z2 ?_ | refine RG.z3 ?_ | refine RG.z4 ?_ | refine RG.z5 ?_ | refine RG.z6 ?_ | refine RG.z7 ?_ | refine RG.z8 ?_ | refine RG.z9 ?_ | refine RG.zA ?_ | refine RG.zB ?_ | refine RG.zC ?_)
  refine RG.p (d := .bool true) (by first | exact trivial | exact rfl) (by kernel_rfl) ?_
  (first | refine RG.z0 ?_ | refine RG.z1 ?_ | refine RG.z2 ?_ | refine RG.z3 ?_ | refine RG.z4 ?_ | refine RG.z5 ?_ | refine RG.z6 ?_ | refine RG.z7 ?_ | refine RG.z8 ?_ | refine RG.z9 ?_ | refine RG.zA ?_ | refine RG.zB ?_ | refine RG.zC ?_)
  (first | refine RG.z0 ?_ | refine RG.z1 ?_ | refine RG.z2 ?_ | refine RG.z3 ?_ | refine RG.z4 ?_ | refine RG.z5 ?_ | refine RG.z6 ?_ | refine RG.z7 ?_ | refine RG.z8 ?_ | refine RG.z9 ?_ | refine RG.zA ?_ | refine RG.zB ?_ | refine RG.zC ?_)
  refine RG.ld (cs := elC X1) (ty := elT) (by first | exact trivial | exact rfl) rfl hb3 (ldEl X1) ?_
  refine RG.p (d := .agg [.int .i64 1, .str [66], .str [97], .bool false, .nils]) (by first | exact trivial | exact rfl) (by kernel_rfl) ?_
  refine RG.s (by first | exact trivial | exact rfl) (ST.bsl (cs := [.int .i64 1, .str [66], .str [97], .bool false, .nils]) rfl fun g hg => RG.drop (SubH.fresh hg) ?_)
  refine RG.leSet (d' := .lst (elsC [B1]) 1 5 none) (DLe_lst ?_) ?_
  · have e1 : elsC [B1] = [.int .i64 1, .str [66], .str [97], .bool false, .lst [] 0 5 none] := by rw [elsC, elsC, List.append_nil, eC1]
    rw [e1]
    exact .cons (DLe.refl _) (.cons (DLe.refl _) (.cons (DLe.refl _) (.cons (DLe.refl _) (.cons DLe.nils .nil))))
  refine RG.p (d := .agg (elC X1)) (by first | exact trivial | exact rfl) (by rw [eX1]; rfl) ?_
  refine RG.callP (by first | exact trivial | exact rfl) rfl hS ?_
  (first | refine RG.z0 ?_ | refine RG.z1 ?_ | refine RG.z2 ?_ | refine RG.z3 ?_ | refine RG.z4 ?_ | refine RG.z5 ?_ | refine RG.z6 ?_ | refine RG.z7 ?_ | refine RG.z8 ?_ | refine RG.z9 ?_ | refine RG.zA ?_ | refine RG.zB ?_ | refine RG.zC ?_)
  (first | refine RG.z0 ?_ | refine RG.z1 ?_ | refine RG.z2 ?_ | refine RG.z3 ?_ | refine RG.z4 ?_ | refine RG.z5 ?_ | refine RG.z6 ?_ | refine RG.z7 ?_ | refine RG.z8 ?_ | refine RG.z9 ?_ | refine RG.zA ?_ | refine RG.zB ?_ | refine RG.zC ?_)
  exact RG.nilS (AC.ret (finD (H' := H) rfl hsub ⟨rfl, rfl⟩))

/-- What is written is read again. -/
theorem back_law (e : El) : ((writeF e).2 = 0 → readF (writeF e).1 = (e, 0, 0)) ∧ ((writeF e).2 ≠ 0 → (writeF e).1 = []) := by
  unfold writeF
  cases h : checkF e == 0
  · refine ⟨fun h2 => ?_, fun _ => rfl⟩
    have : checkF e = 0 := h2
    rw [this] at h; cases h
  · have hc : checkF e = 0 := by simpa using h
    cases h2 : decide ((((docF e).length : Nat) : Int) > 12000)
    · have := of_decide_eq_false h2
      exact ⟨fun _ => read_doc hc (by omega), fun h => absurd rfl h⟩
    · exact ⟨fun h => (by cases h), fun _ => rfl⟩

theorem MarkupBack_ok (hG : GOK G) (e : El) (hfit : fits e) : PF Go.Proofs.Tryd.prog G 3 [.agg (elC e)] (.bool true) := by
  intro H
  refine CALL.of cF3 (Nat.le_of_ble_eq_true rfl) ?_
  refine AC.seq (AC.reg ?_)
  refine RG.box (ys := elC e) (by first | exact trivial | exact rfl) rfl rfl fun b1 h1 => ?_
  have hty : H.upd b1 (some (.cells (elC e) 24)) = H.upd b1 (some (.cells (elC e) elT)) := rfl
  rw [hty]
  (first | refine RG.z0 ?_ | refine RG.z1 ?_ | refine RG.z2 ?_ | refine RG.z3 ?_ | refine RG.z4 ?_ | refine RG.z5 ?_ | refine RG.z6 ?_ | refine RG.z7 ?_ | refine RG.z8 ?_ | refine RG.z9 ?_ | refine RG.zA ?_ | refine RG.zB ?_ | refine RG.zC ?_)
  refine RG.nilS (AC.seq (AC.seq (AC.reg ?_)))
  refine RG.callP (by first | exact trivial | exact rfl) rfl (works_ok hG) ?_
  (first | refine RG.z0 ?_ | refine RG.z1 ?_ | refine RG.z2 ?_ | refine RG.z3 ?_ | refine RG.z4 ?_ | refine RG.z5 ?_ | refine RG.z6 ?_ | refine RG.z7 ?_ | refine RG.z8 ?_ | refine RG.z9 ?_ | refine RG.zA ?_ | refine RG.zB ?_ | refine RG.zC ?_)
  refine RG.nilS (AC.cond_f rfl (AC.skip (AC.seq (AC.seq (AC.reg ?_)))))
  have hb1 : (H.upd b1 (some (.cells (elC e) elT))) b1 = some (.cells (elC e) elT) := Hp.upd_same
  have hsub : SubH H (H.upd b1 (some (.cells (elC e) elT))) := SubH.fresh h1
  refine RG.ld (cs := elC e) (ty := elT) (by first | exact trivial | exact rfl) rfl hb1 (ldEl e) ?_
  refine RG.call (by first | exact trivial | exact rfl) rfl (Great_ok e hfit _) (fun v H' ⟨⟨g, hv⟩, hH⟩ => ?_) (fun _ _ h => h.elim)
  subst hH; subst hv
  cases g
  case true =>
    refine RG.nilS (AC.cond_t rfl (AC.seq (AC.reg ?_)))
    (first | refine RG.z0 ?_ | refine RG.z1 ?_ | refine RG.z2 ?_ | refine RG.z3 ?_ | refine RG.z4 ?_ | refine RG.z5 ?_ | refine RG.z6 ?_ | refine RG.z7 ?_ | refine RG.z8 ?_ | refine RG.z9 ?_ | refine RG.zA ?_ | refine RG.zB ?_ | refine RG.zC ?_)
    exact RG.nilS (AC.ret (finD (H' := H) rfl hsub ⟨rfl, rfl⟩))
  refine RG.nilS (AC.cond_f rfl (AC.skip (AC.seq (AC.reg ?_))))
  refine RG.ld (cs := elC e) (ty := elT) (by first | exact trivial | exact rfl) rfl hb1 (ldEl e) ?_
  have hW := Write_ok hG e hfit
  obtain ⟨k1, k2⟩ := back_law e
  generalize writeF e = wf at hW k1 k2
  obtain ⟨s, f⟩ := wf
  dsimp only at hW k1 k2
  refine RG.callP (by first | exact trivial | exact rfl) rfl hW ?_
  (first | refine RG.z0 ?_ | refine RG.z1 ?_ | refine RG.z2 ?_ | refine RG.z3 ?_ | refine RG.z4 ?_ | refine RG.z5 ?_ | refine RG.z6 ?_ | refine RG.z7 ?_ | refine RG.z8 ?_ | refine RG.z9 ?_ | refine RG.zA ?_ | refine RG.zB ?_ | refine RG.zC ?_)
  (first | refine RG.z0 ?_ | refine RG.z1 ?_ | refine RG.z2 ?_ | refine RG.z3 ?_ | refine RG.z4 ?_ | refine RG.z5 ?_ | refine RG.z6 ?_ | refine RG.z7 ?_ | refine RG.z8 ?_ | refine RG.z9 ?_ | refine RG.zA ?_ | refine RG.zB ?_ | refine RG.zC ?_)
  (first | refine RG.z0 ?_ | refine RG.z1 ?_ | refine RG.z2 ?_ | refine RG.z3 ?_ | refine RG.z4 ?_ | refine RG.z5 ?_ | refine RG.z6 ?_ | refine RG.z7 ?_ | refine RG.z8 ?_ | refine RG.z9 ?_ | refine RG.zA ?_ | refine RG.zB ?_ | refine RG.zC ?_)
  (first | refine RG.z0 ?_ | refine RG.z1 ?_ | refine RG.z2 ?_ | refine RG.z3 ?_ | refine RG.z4 ?_ | refine RG.z5 ?_ | refine RG.z6 ?_ | refine RG.z7 ?_ | refine RG.z8 ?_ | refine RG.z9 ?_ | refine RG.zA ?_ | refine RG.zB ?_ | refine RG.zC ?_)
  (first | refine RG.z0 ?_ | refine RG.z1 ?_ | refine RG.z2 ?_ | refine RG.z3 ?_ | refine RG.z4 ?_ | refine RG.z5 ?_ | refine RG.z6 ?_ | refine RG.z7 ?_ | refine RG.z8 ?_ | refine RG.z9 ?_ | refine RG.zA ?_ | refine RG.zB ?_ | refine RG.zC ?_)
  refine RG.nilS (AC.seq (AC.seq (AC.reg ?_)))
  (first | refine RG.z0 ?_ | refine RG.z1 ?_ | refine RG.z2 ?_ | refine RG.z3 ?_ | refine RG.z4 ?_ | refine RG.z5 ?_ | refine RG.z6 ?_ | refine RG.z7 ?_ | refine RG.z8 ?_ | refine RG.z9 ?_ | refine RG.zA ?_ | refine RG.zB ?_ | refine RG.zC ?_)
  refine RG.p (d := .bool (!(f == 0))) (by first | exact trivial | exact rfl) rfl ?_
  cases hf : f == 0
  · have hs : s = [] := k2 (by simpa using hf)
    subst hs
    refine RG.nilS (AC.cond_t rfl (AC.seq (AC.reg ?_)))
    (first | refine RG.z0 ?_ | refine RG.z1 ?_ | refine RG.z2 ?_ | refine RG.z3 ?_ | refine RG.z4 ?_ | refine RG.z5 ?_ | refine RG.z6 ?_ | refine RG.z7 ?_ | refine RG.z8 ?_ | refine RG.z9 ?_ | refine RG.zA ?_ | refine RG.zB ?_ | refine RG.zC ?_)
    (first | refine RG.z0 ?_ | refine RG.z1 ?_ | refine RG.z2 ?_ | refine RG.z3 ?_ | refine RG.z4 ?_ | refine RG.z5 ?_ | refine RG.z6 ?_ | refine RG.z7 ?_ | refine RG.z8 ?_ | refine RG.z9 ?_ | refine RG.zA ?_ | refine RG.zB ?_ | refine RG.zC ?_)
    (first | refine RG.z0 ?_ | refine RG.z1 ?_ | refine RG.z2 ?_ | refine RG.z3 ?_ | refine RG.z4 ?_ | refine RG.z5 ?_ | refine RG.z6 ?_ | refine RG.z7 ?_ | refine RG.z8 ?_ | refine RG.z9 ?_ | refine RG.zA ?_ | refine RG.zB ?_ | refine RG.zC ?_)
    exact RG.nilS (AC.ret (finD (H' := H) rfl hsub ⟨rfl, rfl⟩))
  have hf0 : f = 0 := by simpa using hf
  have hR := Read_ok hG s
  rw [k1 hf0] at hR
  dsimp only at hR
  refine RG.nilS (AC.cond_f rfl (AC.skip (AC.seq (AC.reg ?_))))
  (first | refine RG.z0 ?_ | refine RG.z1 ?_ | refine RG.z2 ?_ | refine RG.z3 ?_ | refine RG.z4 ?_ | refine RG.z5 ?_ | refine RG.z6 ?_ | refine RG.z7 ?_ | refine RG.z8 ?_ | refine RG.z9 ?_ | refine RG.zA ?_ | refine RG.zB ?_ | refine RG.zC ?_)
  refine RG.callP (by first | exact trivial | exact rfl) rfl hR ?_
  (first | refine RG.z0 ?_ | refine RG.z1 ?_ | refine RG.z2 ?_ | refine RG.z3 ?_ | refine RG.z4 ?_ | refine RG.z5 ?_ | refine RG.z6 ?_ | refine RG.z7 ?_ | refine RG.z8 ?_ | refine RG.z9 ?_ | refine RG.zA ?_ | refine RG.zB ?_ | refine RG.zC ?_)
  (first | refine RG.z0 ?_ | refine RG.z1 ?_ | refine RG.z2 ?_ | refine RG.z3 ?_ | refine RG.z4 ?_ | refine RG.z5 ?_ | refine RG.z6 ?_ | refine RG.z7 ?_ | refine RG.z8 ?_ | refine RG.z9 ?_ | refine RG.zA ?_ | refine RG.zB ?_ | refine RG.zC ?_)
  (first | refine RG.z0 ?_ | refine RG.z1 ?_ | refine RG.z2 ?_ | refine RG.z3 ?_ | refine RG.z4 ?_ | refine RG.z5 ?_ | refine RG.z6 ?_ | refine RG.z7 ?_ | refine RG.z8 ?_ | refine RG.z9 ?_ | refine RG.zA ?_ | refine RG.zB ?_ | refine RG.zC ?_)
  (first | refine RG.z0 ?_ | refine RG.z1 ?_ | refine RG.z2 ?_ | refine RG.z3 ?_ | refine RG.z4 ?_ | refine RG.z5 ?_ | refine RG.z6 ?_ | refine RG.z7 ?_ | refine RG.z8 ?_ | refine RG.z9 ?_ | refine RG.zA ?_ | refine RG.zB ?_ | refine RG.zC ?_)
  refine RG.alloc (by first | exact trivial | exact rfl) fun b5 h5 => ?_
  have hne : b1 ≠ b5 := fun e => by rw [← e, hb1] at h5; cases h5
  have h5' : H b5 = none := by rw [Hp.upd_ne (Ne.symm hne)] at h5; exact h5
  refine RG.sto (d := .agg (elC e)) (cs := Z5) (ty := elT) (by first | exact trivial | exact rfl) rfl Hp.upd_same rfl rfl (elC_length e) (by exact Nat.le_refl _) ?_
  rw [Hp.upd_upd, splE]
  (first | refine RG.z0 ?_ | refine RG.z1 ?_ | refine RG.z2 ?_ | refine RG.z3 ?_ | refine RG.z4 ?_ | refine RG.z5 ?_ | refine RG.z6 ?_ | refine RG.z7 ?_ | refine RG.z8 ?_ | refine RG.z9 ?_ | refine RG.zA ?_ | refine RG.zB ?_ | refine RG.zC ?_)
  (first | refine RG.z0 ?_ | refine RG.z1 ?_ | refine RG.z2 ?_ | refine RG.z3 ?_ | refine RG.z4 ?_ | refine RG.z5 ?_ | refine RG.z6 ?_ | refine RG.z7 ?_ | refine RG.z8 ?_ | refine RG.z9 ?_ | refine RG.zA ?_ | refine RG.zB ?_ | refine RG.zC ?_)
  have hb1' : ((H.upd b1 (some (.cells (elC e) elT))).upd b5 (some (.cells (elC e) elT))) b1 = some (.cells (elC e) elT) := by rw [Hp.upd_ne hne]; exact hb1
  have hb5' : ((H.upd b1 (some (.cells (elC e) elT))).upd b5 (some (.cells (elC e) elT))) b5 = some (.cells (elC e) elT) := Hp.upd_same
  have hsub' : SubH H ((H.upd b1 (some (.cells (elC e) elT))).upd b5 (some (.cells (elC e) elT))) := SubH.over hsub h5'
  generalize (H.upd b1 (some (.cells (elC e) elT))).upd b5 (some (.cells (elC e) elT)) = HH at hb1' hb5' hsub' ⊢
  refine RG.nilS (AC.seq (AC.reg ?_))
  (first | refine RG.z0 ?_ | refine RG.z1 ?_ | refine RG.z2 ?_ | refine RG.z3 ?_ | refine RG.z4 ?_ | refine RG.z5 ?_ | refine RG.z6 ?_ | refine RG.z7 ?_ | refine RG.z8 ?_ | refine RG.z9 ?_ | refine RG.zA ?_ | refine RG.zB ?_ | refine RG.zC ?_)
  refine RG.p (d := .bool true) (by first | exact trivial | exact rfl) rfl ?_
  (first | refine RG.z0 ?_ | refine RG.z1 ?_ | refine RG.z2 ?_ | refine RG.z3 ?_ | refine RG.z4 ?_ | refine RG.z5 ?_ | refine RG.z6 ?_ | refine RG.z7 ?_ | refine RG.z8 ?_ | refine RG.z9 ?_ | refine RG.zA ?_ | refine RG.zB ?_ | refine RG.zC ?_)
  refine RG.ld (cs := elC e) (ty := elT) (by first | exact trivial | exact rfl) rfl hb5' (ldEl e) ?_
  refine RG.ld (cs := elC e) (ty := elT) (by first | exact trivial | exact rfl) rfl hb1' (ldEl e) ?_
  have hS := Same_ok (G := G) e e hfit hfit
  rw [sameF_refl] at hS
  refine RG.callP (by first | exact trivial | exact rfl) rfl hS ?_
  (first | refine RG.z0 ?_ | refine RG.z1 ?_ | refine RG.z2 ?_ | refine RG.z3 ?_ | refine RG.z4 ?_ | refine RG.z5 ?_ | refine RG.z6 ?_ | refine RG.z7 ?_ | refine RG.z8 ?_ | refine RG.z9 ?_ | refine RG.zA ?_ | refine RG.zB ?_ | refine RG.zC ?_)
  (first | refine RG.z0 ?_ | refine RG.z1 ?_ | refine RG.z2 ?_ | refine RG.z3 ?_ | refine RG.z4 ?_ | refine RG.z5 ?_ | refine RG.z6 ?_ | refine RG.z7 ?_ | refine RG.z8 ?_ | refine RG.z9 ?_ | refine RG.zA ?_ | refine RG.zB ?_ | refine RG.zC ?_)
  exact RG.nilS (AC.ret (finD (H' := H) rfl hsub' ⟨rfl, rfl⟩))
end Go.Run.Tryd
