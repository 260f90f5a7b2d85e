/- Right elements, walks over them. -/
import Derived.Test.YtfimjbflfkdkkaaDoorWH
/- Right texts; what is wrong with an element itself. -/
namespace Go.Run.Tryd
open Go Go.Run Go.RowKit
/-! cardcase/charset.Valid -/
def F18 : FN := ⟨5, (.seq (.reg [⟨(some 2), none, .mv (.c (.bool false))⟩])
  (.seq (.reg [⟨(some 3), none, .mv (.t 0)⟩,
    ⟨(some 4), none, .call 38 [(.t 3)]⟩,
    ⟨(some 2), none, .mv (.t 4)⟩])
  .ret)), [.tmp 2]⟩
theorem cF18 : cFn Go.Proofs.Tryd.prog 18 = some F18 := by kernel_rfl
/-! cardcase/tree.shown -/
def F54 : FN := ⟨11, (.seq (.reg [⟨(some 2), none, .mv (.c (.bool false))⟩])
  (.seq (.reg [⟨(some 3), none, .mv (.t 0)⟩,
    ⟨(some 4), none, .call 18 [(.t 3)]⟩,
    ⟨(some 5), none, .mv (.t 4)⟩,
    ⟨(some 6), some (5, true), .mv (.t 0)⟩,
    ⟨(some 7), some (5, true), .s2b 5 (.t 6)⟩,
    ⟨(some 8), some (5, true), .call 76 [(.t 7), (.c (.func (.func 78) [] []))]⟩,
    ⟨(some 9), some (5, true), .un .not (.t 8)⟩,
    ⟨(some 10), none, .pick (.t 5) (.t 9) (.c (.bool false))⟩,
    ⟨(some 2), none, .mv (.t 10)⟩])
  .ret)), [.tmp 2]⟩
theorem cF54 : cFn Go.Proofs.Tryd.prog 54 = some F54 := by kernel_rfl
/-! cardcase/tree.check -/
def F32 : FN := ⟨54, (.seq (.reg [⟨(some 1), none, .box 24 (.t 0)⟩,
    ⟨(some 2), none, .mv (.c (.int .i64 0))⟩])
  (.seq (.block 0 (.seq (.reg [⟨(some 4), none, .fadr 0 (.t 1)⟩,
    ⟨(some 5), none, .ld false 1 (.t 4)⟩,
    ⟨(some 6), none, .bin .lss (.t 5) (.c (.int .i64 0))⟩,
    ⟨(some 7), none, .mv (.t 6)⟩,
    ⟨(some 8), some (7, false), .fadr 0 (.t 1)⟩,
    ⟨(some 9), some (7, false), .ld false 1 (.t 8)⟩,
    ⟨(some 10), some (7, false), .bin .geq (.t 9) (.c (.int .i64 3))⟩,
    ⟨(some 11), none, .pick (.t 7) (.c (.bool true)) (.t 10)⟩,
    ⟨(some 3), none, .mv (.t 11)⟩])
  (.cond (.t 3) (.seq (.reg [⟨(some 2), none, .mv (.c (.int .i64 5))⟩])
  .ret)
  (.seq (.reg [⟨(some 13), none, .fadr 1 (.t 1)⟩,
    ⟨(some 14), none, .ld false 1 (.t 13)⟩,
    ⟨(some 15), none, .call 53 [(.t 14)]⟩,
    ⟨(some 16), none, .un .not (.t 15)⟩,
    ⟨(some 12), none, .mv (.t 16)⟩])
  (.cond (.t 12) (.seq (.reg [⟨(some 2), none, .mv (.c (.int .i64 14))⟩])
  .ret)
  (.seq (.reg [⟨(some 18), none, .fadr 4 (.t 1)⟩,
    ⟨(some 19), none, .ld false 1 (.t 18)⟩,
    ⟨(some 20), none, .len false (.t 19)⟩,
    ⟨(some 21), none, .bin .gtr (.t 20) (.c (.int .i64 200))⟩,
    ⟨(some 17), none, .mv (.t 21)⟩])
  (.cond (.t 17) (.seq (.reg [⟨(some 2), none, .mv (.c (.int .i64 4))⟩])
  .ret)
  (.seq (.reg [⟨(some 23), none, .fadr 4 (.t 1)⟩,
    ⟨(some 24), none, .ld false 1 (.t 23)⟩,
    ⟨(some 25), none, .len false (.t 24)⟩,
    ⟨(some 26), none, .bin .gtr (.t 25) (.c (.int .i64 0))⟩,
    ⟨(some 27), none, .mv (.t 26)⟩,
    ⟨(some 28), some (27, true), .fadr 2 (.t 1)⟩,
    ⟨(some 29), some (27, true), .ld false 1 (.t 28)⟩,
    ⟨(some 30), some (27, true), .bin .neq (.t 29) (.c (.str []))⟩,
    ⟨(some 31), none, .pick (.t 27) (.t 30) (.c (.bool false))⟩,
    ⟨(some 22), none, .mv (.t 31)⟩])
  (.cond (.t 22) (.seq (.reg [⟨(some 2), none, .mv (.c (.int .i64 7))⟩])
  .ret)
  (.seq (.reg [⟨(some 33), none, .fadr 2 (.t 1)⟩,
    ⟨(some 34), none, .ld false 1 (.t 33)⟩,
    ⟨(some 35), none, .len true (.t 34)⟩,
    ⟨(some 36), none, .bin .gtr (.t 35) (.c (.int .i64 4000))⟩,
    ⟨(some 32), none, .mv (.t 36)⟩])
  (.cond (.t 32) (.seq (.reg [⟨(some 2), none, .mv (.c (.int .i64 8))⟩])
  .ret)
  (.seq (.seq (.reg [⟨(some 38), none, .fadr 3 (.t 1)⟩,
    ⟨(some 39), none, .ld false 1 (.t 38)⟩,
    ⟨(some 40), none, .mv (.t 39)⟩,
    ⟨(some 41), some (40, true), .fadr 2 (.t 1)⟩,
    ⟨(some 42), some (40, true), .ld false 1 (.t 41)⟩,
    ⟨(some 43), some (40, true), .bin .eql (.t 42) (.c (.str []))⟩,
    ⟨(some 44), none, .pick (.t 40) (.t 43) (.c (.bool false))⟩,
    ⟨(some 37), none, .mv (.t 44)⟩])
  (.cond (.t 37) .skip
  (.reg [⟨(some 45), none, .fadr 3 (.t 1)⟩,
    ⟨(some 46), none, .ld false 1 (.t 45)⟩,
    ⟨(some 47), none, .un .not (.t 46)⟩,
    ⟨(some 48), none, .mv (.t 47)⟩,
    ⟨(some 49), some (48, true), .fadr 2 (.t 1)⟩,
    ⟨(some 50), some (48, true), .ld false 1 (.t 49)⟩,
    ⟨(some 51), some (48, true), .call 54 [(.t 50)]⟩,
    ⟨(some 52), some (48, true), .un .not (.t 51)⟩,
    ⟨(some 53), none, .pick (.t 48) (.t 52) (.c (.bool false))⟩,
    ⟨(some 37), none, .mv (.t 53)⟩])))
  (.cond (.t 37) (.seq (.reg [⟨(some 2), none, .mv (.c (.int .i64 3))⟩])
  .ret)
  .skip)))))))))))))
  (.seq (.reg [⟨(some 2), none, .mv (.c (.int .i64 0))⟩])
  .ret))), [.tmp 2]⟩
theorem cF32 : cFn Go.Proofs.Tryd.prog 32 = some F32 := by kernel_rfl
variable {G : Gl}

/-- What the constants hold. -/
structure GOK (G : Gl) : Prop where
  ml : ∃ m, G 2 = some [.int .i64 m]
  first : G 0 = some ((List.range 256).map fun c => .int .u8 (Lib.firstT c : Nat))
  acc : G 1 = some ((List.range 16).flatMap fun i => [.int .u8 (Lib.accLo i : Nat), .int .u8 (Lib.accHi i : Nat)])

theorem acc_at : ∀ i, i < 16 → ((List.range 16).flatMap fun i => [DV.int .u8 (Lib.accLo i : Nat), DV.int .u8 (Lib.accHi i : Nat)])[2 * i]? = some (.int .u8 (Lib.accLo i : Nat)) ∧
    ((List.range 16).flatMap fun i => [DV.int .u8 (Lib.accLo i : Nat), DV.int .u8 (Lib.accHi i : Nat)])[2 * i + 1]? = some (.int .u8 (Lib.accHi i : Nat))
  | 0, _ => ⟨rfl, rfl⟩ | 1, _ => ⟨rfl, rfl⟩ | 2, _ => ⟨rfl, rfl⟩ | 3, _ => ⟨rfl, rfl⟩ | 4, _ => ⟨rfl, rfl⟩ | 5, _ => ⟨rfl, rfl⟩ | 6, _ => ⟨rfl, rfl⟩ | 7, _ => ⟨rfl, rfl⟩
  | 8, _ => ⟨rfl, rfl⟩ | 9, _ => ⟨rfl, rfl⟩ | 10, _ => ⟨rfl, rfl⟩ | 11, _ => ⟨rfl, rfl⟩ | 12, _ => ⟨rfl, rfl⟩ | 13, _ => ⟨rfl, rfl⟩ | 14, _ => ⟨rfl, rfl⟩ | 15, _ => ⟨rfl, rfl⟩
  | n + 16, h => by omega

theorem glob_at {w : World} {H : Hp} {Z : Zn} {g : Nat} {cs : List DV} (hr : HR G w H Z) (hg : G g = some cs) {j : Nat} {k : IntKind} {n : Int} (h : cs[j]? = some (.int k n)) : w.cell? ⟨g, j, none⟩ = some (.int k n) := by
  have hv := hr.glob g cs hg
  obtain ⟨a, vs, e, hc⟩ := hv.cptr_inv
  cases e
  have hj : j < cs.length := (List.getElem?_eq_some_iff.1 h).1
  have h1 := (hc.cell j hj).1
  have h2 := hc.val j _ h
  rw [h2.int_inv, Nat.zero_add] at h1
  exact h1

theorem tabs_of {w : World} {H : Hp} {Z : Zn} (hG : GOK G) (hr : HR G w H Z) : Lib.Utf8Tabs 0 1 w :=
  ⟨fun c hc => glob_at hr hG.first (by simp [hc]), fun i hi => ⟨glob_at hr hG.acc (acc_at i hi).1, glob_at hr hG.acc (acc_at i hi).2⟩⟩

theorem validString_ok (hG : GOK G) (s : List UInt8) (hs : s.length ≤ 9223372036854775807) : PF Go.Proofs.Tryd.prog G 38 [.str s] (.bool (Lib.validD s)) := by
  refine PF.ofBelow Go.Proofs.Tryd.func38 (by rfl) (by rfl) fun w H Z vs hr hsz hv => ?_
  obtain ⟨v, rfl, k1⟩ := args1 hsz hv
  obtain ⟨q, rfl, hq⟩ := k1.str_inv
  have hlen : q.size ≤ 9223372036854775807 := by rw [Lib.size_eq, hq]; exact hs
  exact (Go.Proofs.Tryd.utf8_ValidString q w hlen (tabs_of hG hr)).mono fun e w' ⟨he, hw⟩ => ⟨_, he, fun _ _ _ => hq ▸ .bool _, hw⟩

theorem charsetValid_ok (hG : GOK G) (s : List UInt8) (hs : s.length ≤ 9223372036854775807) : PF Go.Proofs.Tryd.prog G 18 [.str s] (.bool (Lib.validD s)) := by
  intro H
  refine CALL.of cF18 (Nat.le_of_ble_eq_true rfl) ?_
  refine AC.seq (AC.reg ?_)
  repeat (first | refine RG.z0 ?_ | refine RG.z1 ?_ | refine RG.z2 ?_ | refine RG.z3 ?_ | refine RG.z4 ?_ | refine RG.z5 ?_ | refine RG.z6 ?_ | refine RG.z7 ?_ | refine RG.z8 ?_ | refine RG.z9 ?_ | refine RG.zA ?_ | refine RG.zB ?_ | refine RG.zC ?_)
  refine RG.nilS (AC.seq (AC.reg ?_))
  repeat (first | refine RG.z0 ?_ | refine RG.z1 ?_ | refine RG.z2 ?_ | refine RG.z3 ?_ | refine RG.z4 ?_ | refine RG.z5 ?_ | refine RG.z6 ?_ | refine RG.z7 ?_ | refine RG.z8 ?_ | refine RG.z9 ?_ | refine RG.zA ?_ | refine RG.zB ?_ | refine RG.zC ?_)
  refine RG.callP (by first | exact trivial | exact rfl) rfl (validString_ok hG s hs) ?_
  repeat (first | refine RG.z0 ?_ | refine RG.z1 ?_ | refine RG.z2 ?_ | refine RG.z3 ?_ | refine RG.z4 ?_ | refine RG.z5 ?_ | refine RG.z6 ?_ | refine RG.z7 ?_ | refine RG.z8 ?_ | refine RG.z9 ?_ | refine RG.zA ?_ | refine RG.zB ?_ | refine RG.zC ?_)
  exact RG.nilS (AC.ret (fin rfl ⟨rfl, rfl⟩))

theorem shown_ok (hG : GOK G) (s : List UInt8) (hs : s.length ≤ 4611686018427387904) : PF Go.Proofs.Tryd.prog G 54 [.str s] (.bool (shownF s)) := by
  intro H
  refine CALL.of cF54 (Nat.le_of_ble_eq_true rfl) ?_
  refine AC.seq (AC.reg ?_)
  repeat (first | refine RG.z0 ?_ | refine RG.z1 ?_ | refine RG.z2 ?_ | refine RG.z3 ?_ | refine RG.z4 ?_ | refine RG.z5 ?_ | refine RG.z6 ?_ | refine RG.z7 ?_ | refine RG.z8 ?_ | refine RG.z9 ?_ | refine RG.zA ?_ | refine RG.zB ?_ | refine RG.zC ?_)
  refine RG.nilS (AC.seq (AC.reg ?_))
  repeat (first | refine RG.z0 ?_ | refine RG.z1 ?_ | refine RG.z2 ?_ | refine RG.z3 ?_ | refine RG.z4 ?_ | refine RG.z5 ?_ | refine RG.z6 ?_ | refine RG.z7 ?_ | refine RG.z8 ?_ | refine RG.z9 ?_ | refine RG.zA ?_ | refine RG.zB ?_ | refine RG.zC ?_)
  refine RG.callP (by first | exact trivial | exact rfl) rfl (charsetValid_ok hG s (by omega)) ?_
  repeat (first | refine RG.z0 ?_ | refine RG.z1 ?_ | refine RG.z2 ?_ | refine RG.z3 ?_ | refine RG.z4 ?_ | refine RG.z5 ?_ | refine RG.z6 ?_ | refine RG.z7 ?_ | refine RG.z8 ?_ | refine RG.z9 ?_ | refine RG.zA ?_ | refine RG.zB ?_ | refine RG.zC ?_)
  cases e : Lib.validD s
  · repeat (first | refine RG.z0 ?_ | refine RG.z1 ?_ | refine RG.z2 ?_ | refine RG.z3 ?_ | refine RG.z4 ?_ | refine RG.z5 ?_ | refine RG.z6 ?_ | refine RG.z7 ?_ | refine RG.z8 ?_ | refine RG.z9 ?_ | refine RG.zA ?_ | refine RG.zB ?_ | refine RG.zC ?_)
    exact RG.nilS (AC.ret (fin rfl ⟨by rw [shownF, e]; rfl, rfl⟩))
  · repeat (first | refine RG.z0 ?_ | refine RG.z1 ?_ | refine RG.z2 ?_ | refine RG.z3 ?_ | refine RG.z4 ?_ | refine RG.z5 ?_ | refine RG.z6 ?_ | refine RG.z7 ?_ | refine RG.z8 ?_ | refine RG.z9 ?_ | refine RG.zA ?_ | refine RG.zB ?_ | refine RG.zC ?_)
    refine RG.s (by first | exact trivial | exact rfl) (ST.s2b rfl ?_)
    refine RG.callP (by first | exact trivial | exact rfl) rfl (containsFunc_ok shownC_ok s hs none) ?_
    repeat (first | refine RG.z0 ?_ | refine RG.z1 ?_ | refine RG.z2 ?_ | refine RG.z3 ?_ | refine RG.z4 ?_ | refine RG.z5 ?_ | refine RG.z6 ?_ | refine RG.z7 ?_ | refine RG.z8 ?_ | refine RG.z9 ?_ | refine RG.zA ?_ | refine RG.zB ?_ | refine RG.zC ?_)
    exact RG.nilS (AC.ret (fin rfl ⟨by rw [shownF, e]; rfl, rfl⟩))

theorem check1_call (hG : GOK G) (e : El) : PF Go.Proofs.Tryd.prog G 32 [.agg (elC e)] (.int .i64 (check1 e)) := by
  obtain ⟨p, n, t, o, ks⟩ := e
  have he : elC (.mk p n t o ks) = [.int .i64 p, .str n, .str t, .bool o, .lst (elsC ks) ks.length 5 none] := by rw [elC]
  rw [he]
  intro H
  refine CALL.of cF32 (Nat.le_of_ble_eq_true rfl) ?_
  refine AC.seq (AC.reg ?_)
  refine RG.box (by first | exact trivial | exact rfl) rfl rfl fun b hb => ?_
  repeat (first | refine RG.z0 ?_ | refine RG.z1 ?_ | refine RG.z2 ?_ | refine RG.z3 ?_ | refine RG.z4 ?_ | refine RG.z5 ?_ | refine RG.z6 ?_ | refine RG.z7 ?_ | refine RG.z8 ?_ | refine RG.z9 ?_ | refine RG.zA ?_ | refine RG.zB ?_ | refine RG.zC ?_)
  refine RG.nilS (AC.seq (AC.block (AC.seq (AC.reg ?_))))
  generalize hR : check1 (.mk p n t o ks) = R
  rw [check1] at hR
  have bad : ∀ {v : Int}, v = R → ∀ {fr : Fr}, fr 2 = .int .i64 v → Fin F32.rs (fun d' H' => d' = .int .i64 R ∧ H' = H) (fun _ _ => False) .ret fr (H.upd b (some (.cells [.int .i64 p, .str n, .str t, .bool o, .lst (elsC ks) ks.length 5 none] 24))) := by
    intro v hv fr h2
    exact finD (H' := H) rfl (SubH.fresh hb) ⟨by show fr 2 = _; rw [h2, hv], rfl⟩
  repeat (first | refine RG.z0 ?_ | refine RG.z1 ?_ | refine RG.z2 ?_ | refine RG.z3 ?_ | refine RG.z4 ?_ | refine RG.z5 ?_ | refine RG.z6 ?_ | refine RG.z7 ?_ | refine RG.z8 ?_ | refine RG.z9 ?_ | refine RG.zA ?_ | refine RG.zB ?_ | refine RG.zC ?_)
  cases d1 : decide (p < 0)
  case true =>
    repeat (first | refine RG.z0 ?_ | refine RG.z1 ?_ | refine RG.z2 ?_ | refine RG.z3 ?_ | refine RG.z4 ?_ | refine RG.z5 ?_ | refine RG.z6 ?_ | refine RG.z7 ?_ | refine RG.z8 ?_ | refine RG.z9 ?_ | refine RG.zA ?_ | refine RG.zB ?_ | refine RG.zC ?_)
    refine RG.nilS (AC.cond_t rfl (AC.seq (AC.reg ?_)))
    repeat (first | refine RG.z0 ?_ | refine RG.z1 ?_ | refine RG.z2 ?_ | refine RG.z3 ?_ | refine RG.z4 ?_ | refine RG.z5 ?_ | refine RG.z6 ?_ | refine RG.z7 ?_ | refine RG.z8 ?_ | refine RG.z9 ?_ | refine RG.zA ?_ | refine RG.zB ?_ | refine RG.zC ?_)
    exact RG.nilS (AC.ret (bad (by rw [← hR, d1]; rfl) rfl))
  repeat (first | refine RG.z0 ?_ | refine RG.z1 ?_ | refine RG.z2 ?_ | refine RG.z3 ?_ | refine RG.z4 ?_ | refine RG.z5 ?_ | refine RG.z6 ?_ | refine RG.z7 ?_ | refine RG.z8 ?_ | refine RG.z9 ?_ | refine RG.zA ?_ | refine RG.zB ?_ | refine RG.zC ?_)
  cases d2 : decide (p ≥ 3)
  case true =>
    refine RG.nilS (AC.cond_t rfl (AC.seq (AC.reg ?_)))
    repeat (first | refine RG.z0 ?_ | refine RG.z1 ?_ | refine RG.z2 ?_ | refine RG.z3 ?_ | refine RG.z4 ?_ | refine RG.z5 ?_ | refine RG.z6 ?_ | refine RG.z7 ?_ | refine RG.z8 ?_ | refine RG.z9 ?_ | refine RG.zA ?_ | refine RG.zB ?_ | refine RG.zC ?_)
    exact RG.nilS (AC.ret (bad (by rw [← hR, d1, d2]; rfl) rfl))
  rw [d1, d2, Bool.or_self, cond_false] at hR
  refine RG.nilS (AC.cond_f rfl (AC.seq (AC.reg ?_)))
  repeat (first | refine RG.z0 ?_ | refine RG.z1 ?_ | refine RG.z2 ?_ | refine RG.z3 ?_ | refine RG.z4 ?_ | refine RG.z5 ?_ | refine RG.z6 ?_ | refine RG.z7 ?_ | refine RG.z8 ?_ | refine RG.z9 ?_ | refine RG.zA ?_ | refine RG.zB ?_ | refine RG.zC ?_)
  refine RG.callP (by first | exact trivial | exact rfl) rfl (named_ok n) ?_
  repeat (first | refine RG.z0 ?_ | refine RG.z1 ?_ | refine RG.z2 ?_ | refine RG.z3 ?_ | refine RG.z4 ?_ | refine RG.z5 ?_ | refine RG.z6 ?_ | refine RG.z7 ?_ | refine RG.z8 ?_ | refine RG.z9 ?_ | refine RG.zA ?_ | refine RG.zB ?_ | refine RG.zC ?_)
  cases d3 : isName n
  case false =>
    refine RG.nilS (AC.cond_t rfl (AC.seq (AC.reg ?_)))
    repeat (first | refine RG.z0 ?_ | refine RG.z1 ?_ | refine RG.z2 ?_ | refine RG.z3 ?_ | refine RG.z4 ?_ | refine RG.z5 ?_ | refine RG.z6 ?_ | refine RG.z7 ?_ | refine RG.z8 ?_ | refine RG.z9 ?_ | refine RG.zA ?_ | refine RG.zB ?_ | refine RG.zC ?_)
    exact RG.nilS (AC.ret (bad (by rw [← hR, d3]; rfl) rfl))
  rw [d3, Bool.not_true, cond_false] at hR
  refine RG.nilS (AC.cond_f rfl (AC.seq (AC.reg ?_)))
  repeat (first | refine RG.z0 ?_ | refine RG.z1 ?_ | refine RG.z2 ?_ | refine RG.z3 ?_ | refine RG.z4 ?_ | refine RG.z5 ?_ | refine RG.z6 ?_ | refine RG.z7 ?_ | refine RG.z8 ?_ | refine RG.z9 ?_ | refine RG.zA ?_ | refine RG.zB ?_ | refine RG.zC ?_)
  cases d4 : decide (((ks.length : Nat) : Int) > 200)
  case true =>
    refine RG.nilS (AC.cond_t rfl (AC.seq (AC.reg ?_)))
    repeat (first | refine RG.z0 ?_ | refine RG.z1 ?_ | refine RG.z2 ?_ | refine RG.z3 ?_ | refine RG.z4 ?_ | refine RG.z5 ?_ | refine RG.z6 ?_ | refine RG.z7 ?_ | refine RG.z8 ?_ | refine RG.z9 ?_ | refine RG.zA ?_ | refine RG.zB ?_ | refine RG.zC ?_)
    exact RG.nilS (AC.ret (bad (by rw [← hR, d4]; rfl) rfl))
  rw [d4, cond_false] at hR
  generalize hHH : H.upd b (some (.cells [.int .i64 p, .str n, .str t, .bool o, .lst (elsC ks) ks.length 5 none] 24)) = HH at bad ⊢
  have hHb : HH b = some (.cells [.int .i64 p, .str n, .str t, .bool o, .lst (elsC ks) ks.length 5 none] 24) := by rw [← hHH]; exact Hp.upd_same
  refine RG.nilS (AC.cond_f rfl (AC.seqA (l := [(1, .ptr b 0), (22, .bool (decide (((ks.length : Nat) : Int) > 0) && !(t == [])))]) (H' := HH) (AC.reg ?_) ?_))
  · repeat (first | refine RG.z0 ?_ | refine RG.z1 ?_ | refine RG.z2 ?_ | refine RG.z3 ?_ | refine RG.z4 ?_ | refine RG.z5 ?_ | refine RG.z6 ?_ | refine RG.z7 ?_ | refine RG.z8 ?_ | refine RG.z9 ?_ | refine RG.zA ?_ | refine RG.zB ?_ | refine RG.zC ?_)
    cases d5 : decide (((ks.length : Nat) : Int) > 0)
    · repeat (first | refine RG.z0 ?_ | refine RG.z1 ?_ | refine RG.z2 ?_ | refine RG.z3 ?_ | refine RG.z4 ?_ | refine RG.z5 ?_ | refine RG.z6 ?_ | refine RG.z7 ?_ | refine RG.z8 ?_ | refine RG.z9 ?_ | refine RG.zA ?_ | refine RG.zB ?_ | refine RG.zC ?_)
      exact RG.nil ⟨rfl, rfl, rfl, trivial⟩
    · repeat (first | refine RG.z0 ?_ | refine RG.z1 ?_ | refine RG.z2 ?_ | refine RG.z3 ?_ | refine RG.z4 ?_ | refine RG.z5 ?_ | refine RG.z6 ?_ | refine RG.z7 ?_ | refine RG.z8 ?_ | refine RG.z9 ?_ | refine RG.zA ?_ | refine RG.zB ?_ | refine RG.zC ?_)
      exact RG.nil ⟨rfl, rfl, rfl, trivial⟩
  cases d5 : (decide (((ks.length : Nat) : Int) > 0) && !(t == []))
  case true =>
    refine AC.cond_t rfl (AC.seq (AC.reg ?_))
    repeat (first | refine RG.z0 ?_ | refine RG.z1 ?_ | refine RG.z2 ?_ | refine RG.z3 ?_ | refine RG.z4 ?_ | refine RG.z5 ?_ | refine RG.z6 ?_ | refine RG.z7 ?_ | refine RG.z8 ?_ | refine RG.z9 ?_ | refine RG.zA ?_ | refine RG.zB ?_ | refine RG.zC ?_)
    exact RG.nilS (AC.ret (bad (by rw [← hR, d5]; rfl) rfl))
  rw [d5, cond_false] at hR
  refine AC.cond_f rfl (AC.seq (AC.reg ?_))
  repeat (first | refine RG.z0 ?_ | refine RG.z1 ?_ | refine RG.z2 ?_ | refine RG.z3 ?_ | refine RG.z4 ?_ | refine RG.z5 ?_ | refine RG.z6 ?_ | refine RG.z7 ?_ | refine RG.z8 ?_ | refine RG.z9 ?_ | refine RG.zA ?_ | refine RG.zB ?_ | refine RG.zC ?_)
  cases d6 : decide (((t.length : Nat) : Int) > 4000)
  case true =>
    refine RG.nilS (AC.cond_t rfl (AC.seq (AC.reg ?_)))
    repeat (first | refine RG.z0 ?_ | refine RG.z1 ?_ | refine RG.z2 ?_ | refine RG.z3 ?_ | refine RG.z4 ?_ | refine RG.z5 ?_ | refine RG.z6 ?_ | refine RG.z7 ?_ | refine RG.z8 ?_ | refine RG.z9 ?_ | refine RG.zA ?_ | refine RG.zB ?_ | refine RG.zC ?_)
    exact RG.nilS (AC.ret (bad (by rw [← hR, d6]; rfl) rfl))
  rw [d6, cond_false] at hR
  have hlen := of_decide_eq_false d6
  refine RG.nilS (AC.cond_f rfl (AC.seqA (l := [(37, .bool ((o && t == []) || (!o && !shownF t)))]) (H' := HH) (AC.seq (AC.reg ?_)) ?_))
  · repeat (first | refine RG.z0 ?_ | refine RG.z1 ?_ | refine RG.z2 ?_ | refine RG.z3 ?_ | refine RG.z4 ?_ | refine RG.z5 ?_ | refine RG.z6 ?_ | refine RG.z7 ?_ | refine RG.z8 ?_ | refine RG.z9 ?_ | refine RG.zA ?_ | refine RG.zB ?_ | refine RG.zC ?_)
    cases o
    · repeat (first | refine RG.z0 ?_ | refine RG.z1 ?_ | refine RG.z2 ?_ | refine RG.z3 ?_ | refine RG.z4 ?_ | refine RG.z5 ?_ | refine RG.z6 ?_ | refine RG.z7 ?_ | refine RG.z8 ?_ | refine RG.z9 ?_ | refine RG.zA ?_ | refine RG.zB ?_ | refine RG.zC ?_)
      refine RG.nilS (AC.cond_f rfl (AC.reg ?_))
      repeat (first | refine RG.z0 ?_ | refine RG.z1 ?_ | refine RG.z2 ?_ | refine RG.z3 ?_ | refine RG.z4 ?_ | refine RG.z5 ?_ | refine RG.z6 ?_ | refine RG.z7 ?_ | refine RG.z8 ?_ | refine RG.z9 ?_ | refine RG.zA ?_ | refine RG.zB ?_ | refine RG.zC ?_)
      refine RG.callP (by first | exact trivial | exact rfl) rfl (shown_ok hG t (by omega)) ?_
      repeat (first | refine RG.z0 ?_ | refine RG.z1 ?_ | refine RG.z2 ?_ | refine RG.z3 ?_ | refine RG.z4 ?_ | refine RG.z5 ?_ | refine RG.z6 ?_ | refine RG.z7 ?_ | refine RG.z8 ?_ | refine RG.z9 ?_ | refine RG.zA ?_ | refine RG.zB ?_ | refine RG.zC ?_)
      exact RG.nil ⟨rfl, rfl, trivial⟩
    · repeat (first | refine RG.z0 ?_ | refine RG.z1 ?_ | refine RG.z2 ?_ | refine RG.z3 ?_ | refine RG.z4 ?_ | refine RG.z5 ?_ | refine RG.z6 ?_ | refine RG.z7 ?_ | refine RG.z8 ?_ | refine RG.z9 ?_ | refine RG.zA ?_ | refine RG.zB ?_ | refine RG.zC ?_)
      cases d7 : t == []
      · refine RG.nilS (AC.cond_f rfl (AC.reg ?_))
        repeat (first | refine RG.z0 ?_ | refine RG.z1 ?_ | refine RG.z2 ?_ | refine RG.z3 ?_ | refine RG.z4 ?_ | refine RG.z5 ?_ | refine RG.z6 ?_ | refine RG.z7 ?_ | refine RG.z8 ?_ | refine RG.z9 ?_ | refine RG.zA ?_ | refine RG.zB ?_ | refine RG.zC ?_)
        exact RG.nil ⟨rfl, rfl, trivial⟩
      · exact RG.nilS (AC.cond_t rfl (AC.skip ⟨rfl, rfl, trivial⟩))
  cases d7 : ((o && t == []) || (!o && !shownF t))
  case true =>
    refine AC.cond_t rfl (AC.seq (AC.reg ?_))
    repeat (first | refine RG.z0 ?_ | refine RG.z1 ?_ | refine RG.z2 ?_ | refine RG.z3 ?_ | refine RG.z4 ?_ | refine RG.z5 ?_ | refine RG.z6 ?_ | refine RG.z7 ?_ | refine RG.z8 ?_ | refine RG.z9 ?_ | refine RG.zA ?_ | refine RG.zB ?_ | refine RG.zC ?_)
    exact RG.nilS (AC.ret (bad (by rw [← hR, d7]; rfl) rfl))
  rw [d7, cond_false] at hR
  refine AC.cond_f rfl (AC.skip ?_)
  refine AC.seq (AC.reg ?_)
  repeat (first | refine RG.z0 ?_ | refine RG.z1 ?_ | refine RG.z2 ?_ | refine RG.z3 ?_ | refine RG.z4 ?_ | refine RG.z5 ?_ | refine RG.z6 ?_ | refine RG.z7 ?_ | refine RG.z8 ?_ | refine RG.z9 ?_ | refine RG.zA ?_ | refine RG.zB ?_ | refine RG.zC ?_)
  exact RG.nilS (AC.ret (bad hR rfl))
end Go.Run.Tryd
/- Elements told one by one. -/
namespace Go.Run.Tryd
open Go Go.Run Go.RowKit
/-! cardcase/tree.walk -/
def F52 : FN := ⟨34, (.seq (.reg [⟨(some 4), none, .box 24 (.t 0)⟩,
    ⟨(some 8), none, .mv (.c (.bool false))⟩])
  (.seq (.seq (.reg [⟨(some 11), none, .mv (.t 1)⟩,
    ⟨(some 12), none, .mv (.t 2)⟩,
    ⟨(some 13), none, .bin .gtr (.t 11) (.t 12)⟩])
  (.cond (.t 13) (.seq (.reg [⟨(some 8), none, .mv (.c (.bool true))⟩])
  .ret)
  .skip))
  (.seq (.seq (.reg [⟨(some 14), none, .mv (.t 3)⟩,
    ⟨(some 15), none, .mv (.t 1)⟩,
    ⟨(some 16), none, .ld true 5 (.t 4)⟩,
    ⟨(some 17), none, .calv (.t 14) [(.t 15), (.t 16)]⟩,
    ⟨(some 18), none, .un .not (.t 17)⟩])
  (.cond (.t 18) (.seq (.reg [⟨(some 8), none, .mv (.c (.bool false))⟩])
  .ret)
  .skip))
  (.seq (.seq (.reg [⟨(some 19), none, .fadr 4 (.t 4)⟩,
    ⟨(some 20), none, .ld false 1 (.t 19)⟩,
    ⟨(some 21), none, .len false (.t 20)⟩,
    ⟨(some 22), none, .mv (.c (.int .i64 0))⟩])
  (.block 0 (.loop (.seq (.reg [⟨(some 23), none, .bin .lss (.t 22) (.t 21)⟩])
  (.seq (.cond (.t 23) .skip
  (.exit 0))
  (.seq (.block 1 (.seq (.reg [⟨(some 24), none, .iadr 5 (.t 20) (.t 22)⟩,
    ⟨(some 25), none, .ld true 5 (.t 24)⟩,
    ⟨(some 10), none, .alloc [(.int .i64 0), (.str []), (.str []), (.bool false), .nils] 24⟩,
    ⟨none, none, .st 5 (.t 10) (.t 25)⟩])
  (.seq (.reg [⟨(some 26), none, .ld true 5 (.t 10)⟩,
    ⟨(some 27), none, .mv (.t 1)⟩,
    ⟨(some 28), none, .bin .add (.t 27) (.c (.int .i64 1))⟩,
    ⟨(some 29), none, .mv (.t 2)⟩,
    ⟨(some 30), none, .mv (.t 3)⟩,
    ⟨(some 31), none, .call 52 [(.t 26), (.t 28), (.t 29), (.t 30)]⟩,
    ⟨(some 32), none, .un .not (.t 31)⟩])
  (.cond (.t 32) (.seq (.reg [⟨(some 8), none, .mv (.c (.bool false))⟩])
  .ret)
  .skip))))
  (.reg [⟨(some 33), none, .bin .add (.t 22) (.c (.int .i64 1))⟩,
    ⟨(some 22), none, .mv (.t 33)⟩])))))))
  (.seq (.reg [⟨(some 8), none, .mv (.c (.bool true))⟩])
  .ret))))), [.tmp 8]⟩
theorem cF52 : cFn Go.Proofs.Tryd.prog 52 = some F52 := by kernel_rfl
/-! cardcase/tree.within -/
def F31 : FN := ⟨6, (.seq (.reg [⟨(some 2), none, .box 24 (.t 0)⟩,
    ⟨(some 3), none, .box 3 (.t 1)⟩,
    ⟨(some 4), none, .mv (.c .nilfn)⟩])
  (.seq (.reg [⟨(some 5), none, .mkfn (.func 51) [] [(.t 2), (.t 3)]⟩,
    ⟨(some 4), none, .mv (.t 5)⟩])
  .ret)), [.tmp 4]⟩
theorem cF31 : cFn Go.Proofs.Tryd.prog 31 = some F31 := by kernel_rfl
/-! cardcase/tree.within$1 -/
def F51 : FN := ⟨8, (.reg [⟨(some 4), none, .ld true 5 (.t 1)⟩,
    ⟨(some 5), none, .ld false 1 (.t 2)⟩,
    ⟨(some 6), none, .mv (.t 0)⟩,
    ⟨(some 7), none, .call 52 [(.t 4), (.c (.int .i64 1)), (.t 5), (.t 6)]⟩]), []⟩
theorem cF51 : cFn Go.Proofs.Tryd.prog 51 = some F51 := by kernel_rfl
variable {G : Gl}

def El.page : El → Int
  | .mk p _ _ _ _ => p
def El.name : El → List UInt8
  | .mk _ n _ _ _ => n
def El.text : El → List UInt8
  | .mk _ _ t _ _ => t
def El.op : El → Bool
  | .mk _ _ _ o _ => o
def El.kids : El → List El
  | .mk _ _ _ _ ks => ks

/-- What a 'yield' does to a state. -/
def YOK (G : Gl) {σ : Type} (yv : DV) (step : σ → Nat → El → σ × Bool) (h : σ → Hp) (ok : σ → Prop) : Prop :=
  ∀ (s : σ) (d : Nat) (x : El), ok s → d ≤ 1000000 → CALV Go.Proofs.Tryd.prog G yv [.int .i64 d, .agg (elC x)] (h s) (fun r H' => r = .bool (step s d x).2 ∧ H' = h (step s d x).1) (fun _ _ => False) ∧ ((step s d x).2 = true → ok (step s d x).1)

theorem runL_ok {σ : Type} {step : σ → Nat → El → σ × Bool} {ok : σ → Prop} (hk : ∀ (s : σ) (d : Nat) (x : El), ok s → d ≤ 1000000 → (step s d x).2 = true → ok (step s d x).1) : ∀ (l : List (Nat × El)) (s : σ), (∀ p ∈ l, p.1 ≤ 1000000) → ok s → (runL step s l).2 = true → ok (runL step s l).1
  | [], s, _, h, _ => h
  | p :: l, s, hl, h, h2 => by
    rw [runL] at h2 ⊢
    cases e : (step s p.1 p.2).2
    · rw [e] at h2; cases h2
    · rw [e] at h2
      exact runL_ok hk l _ (fun q hq => hl q (by simp [hq])) (hk s p.1 p.2 h (hl p (by simp)) e) h2

mutual
theorem pre_deep (m : Nat) : ∀ (e : El) (d : Nat), ∀ p ∈ pre m e d, p.1 ≤ m
  | .mk p n t o ks, d, q, h => by
    rw [pre] at h
    cases e : Nat.blt m d
    · rw [e, cond_false] at h
      have hd : d ≤ m := by
        by_cases hlt : m < d
        · rw [blt_iff.2 hlt] at e; cases e
        · omega
      rcases List.mem_cons.1 h with rfl | h
      · exact hd
      · exact pres_deep m ks (d + 1) q h
    · rw [e, cond_true] at h; simp at h
theorem pres_deep (m : Nat) : ∀ (ks : List El) (d : Nat), ∀ p ∈ pres m ks d, p.1 ≤ m
  | [], d, q, h => by simp [pres] at h
  | k :: ks, d, q, h => by
    rw [pres] at h
    rcases List.mem_append.1 h with h | h
    · exact pre_deep m k d q h
    · exact pres_deep m ks d q h
end

theorem pres_drop (m d : Nat) (ks : List El) (i : Nat) (hi : i < ks.length) : pres m (ks.drop i) d = pre m ks[i] d ++ pres m (ks.drop (i + 1)) d := by
  rw [List.drop_eq_getElem_cons hi, pres]

theorem El.eta : ∀ (e : El), .mk e.page e.name e.text e.op e.kids = e
  | .mk _ _ _ _ _ => rfl

def elT : TypeId := 24

theorem walk_ok {σ : Type} {yv : DV} {step : σ → Nat → El → σ × Bool} {h : σ → Hp} {ok : σ → Prop} (hy : YOK G yv step h ok) (M : Nat) (hM : M < 1000000) :
    ∀ (m : Nat) (e : El) (d : Nat) (s : σ), fits e → ok s → M + 1 ≤ d + m → d ≤ M + 1 → CALL Go.Proofs.Tryd.prog G 52 [.agg (elC e), .int .i64 d, .int .i64 M, yv] (h s)
      (fun r H' => r = .bool (runL step s (pre M e d)).2 ∧ H' = h (runL step s (pre M e d)).1) (fun _ _ => False) := by
  intro m
  induction m with
  | zero =>
    intro e d s hfit hs hm hd
    have hb : Nat.blt M d = true := blt_iff.2 (by omega)
    have hp : pre M e d = [] := by cases e; rw [pre, hb]; rfl
    rw [hp]
    refine CALL.of cF52 (Nat.le_of_ble_eq_true rfl) ?_
    refine AC.seq (AC.reg ?_)
    refine RG.box (by first | exact trivial | exact rfl) rfl rfl fun b hb => ?_
    repeat (first | refine RG.z0 ?_ | refine RG.z1 ?_ | refine RG.z2 ?_ | refine RG.z3 ?_ | refine RG.z4 ?_ | refine RG.z5 ?_ | refine RG.z6 ?_ | refine RG.z7 ?_ | refine RG.z8 ?_ | refine RG.z9 ?_ | refine RG.zA ?_ | refine RG.zB ?_ | refine RG.zC ?_)
    refine RG.nilS (AC.seq (AC.seq (AC.reg ?_)))
    repeat (first | refine RG.z0 ?_ | refine RG.z1 ?_ | refine RG.z2 ?_ | refine RG.z3 ?_ | refine RG.z4 ?_ | refine RG.z5 ?_ | refine RG.z6 ?_ | refine RG.z7 ?_ | refine RG.z8 ?_ | refine RG.z9 ?_ | refine RG.zA ?_ | refine RG.zB ?_ | refine RG.zC ?_)
    have e1 : decide ((d : Int) > M) = true := by simp; omega
    rw [e1]
    refine RG.nilS (AC.cond_t rfl (AC.seq (AC.reg ?_)))
    repeat (first | refine RG.z0 ?_ | refine RG.z1 ?_ | refine RG.z2 ?_ | refine RG.z3 ?_ | refine RG.z4 ?_ | refine RG.z5 ?_ | refine RG.z6 ?_ | refine RG.z7 ?_ | refine RG.z8 ?_ | refine RG.z9 ?_ | refine RG.zA ?_ | refine RG.zB ?_ | refine RG.zC ?_)
    exact RG.nilS (AC.ret (finD (H' := h s) rfl (SubH.fresh hb) ⟨rfl, rfl⟩))
  | succ m ih =>
    intro e d s hfit hs hm hd
    refine CALL.of cF52 (Nat.le_of_ble_eq_true rfl) ?_
    refine AC.seq (AC.reg ?_)
    refine RG.box (by first | exact trivial | exact rfl) rfl rfl fun b hb => ?_
    repeat (first | refine RG.z0 ?_ | refine RG.z1 ?_ | refine RG.z2 ?_ | refine RG.z3 ?_ | refine RG.z4 ?_ | refine RG.z5 ?_ | refine RG.z6 ?_ | refine RG.z7 ?_ | refine RG.z8 ?_ | refine RG.z9 ?_ | refine RG.zA ?_ | refine RG.zB ?_ | refine RG.zC ?_)
    refine RG.nilS (AC.seq (AC.seq (AC.reg ?_)))
    repeat (first | refine RG.z0 ?_ | refine RG.z1 ?_ | refine RG.z2 ?_ | refine RG.z3 ?_ | refine RG.z4 ?_ | refine RG.z5 ?_ | refine RG.z6 ?_ | refine RG.z7 ?_ | refine RG.z8 ?_ | refine RG.z9 ?_ | refine RG.zA ?_ | refine RG.zB ?_ | refine RG.zC ?_)
    cases e1 : decide ((d : Int) > M)
    case true =>
      have hlt := of_decide_eq_true e1
      have hbb : Nat.blt M d = true := blt_iff.2 (by omega)
      have hp : pre M e d = [] := by cases e; rw [pre, hbb]; rfl
      rw [hp]
      refine RG.nilS (AC.cond_t rfl (AC.seq (AC.reg ?_)))
      repeat (first | refine RG.z0 ?_ | refine RG.z1 ?_ | refine RG.z2 ?_ | refine RG.z3 ?_ | refine RG.z4 ?_ | refine RG.z5 ?_ | refine RG.z6 ?_ | refine RG.z7 ?_ | refine RG.z8 ?_ | refine RG.z9 ?_ | refine RG.zA ?_ | refine RG.zB ?_ | refine RG.zC ?_)
      exact RG.nilS (AC.ret (finD (H' := h s) rfl (SubH.fresh hb) ⟨rfl, rfl⟩))
    have hle := of_decide_eq_false e1
    have hbf : Nat.blt M d = false := blt_false (by omega)
    obtain ⟨p, n, t, o, ks⟩ := e
    obtain ⟨hkl, hks⟩ := hfit
    have he : elC (.mk p n t o ks) = [.int .i64 p, .str n, .str t, .bool o, .lst (elsC ks) ks.length 5 none] := by rw [elC]
    have hpre : pre M (.mk p n t o ks) d = (d, .mk p n t o ks) :: pres M ks (d + 1) := by rw [pre, hbf]; rfl
    rw [hpre, runL]
    dsimp only
    obtain ⟨hy1, hy2⟩ := hy s d (.mk p n t o ks) hs (by omega)
    refine RG.nilS (AC.cond_f rfl (AC.skip (AC.seq (AC.seq (AC.reg ?_)))))
    (first | refine RG.z0 ?_ | refine RG.z1 ?_ | refine RG.z2 ?_ | refine RG.z3 ?_ | refine RG.z4 ?_ | refine RG.z5 ?_ | refine RG.z6 ?_ | refine RG.z7 ?_ | refine RG.z8 ?_ | refine RG.z9 ?_ | refine RG.zA ?_ | refine RG.zB ?_ | refine RG.zC ?_)
    (first | refine RG.z0 ?_ | refine RG.z1 ?_ | refine RG.z2 ?_ | refine RG.z3 ?_ | refine RG.z4 ?_ | refine RG.z5 ?_ | refine RG.z6 ?_ | refine RG.z7 ?_ | refine RG.z8 ?_ | refine RG.z9 ?_ | refine RG.zA ?_ | refine RG.zB ?_ | refine RG.zC ?_)
    refine RG.ld (by first | exact trivial | exact rfl) (by conv => lhs; whnf) (by first | assumption | exact Hp.upd_same | (rw [Hp.upd_ne (by first | assumption | omega)]; first | assumption | exact Hp.upd_same | (rw [Hp.upd_ne (by first | assumption | omega)]; first | assumption | exact Hp.upd_same))) (d := .agg (elC (.mk p n t o ks))) (by rw [he]; rfl) ?_
    refine RG.calV (by first | exact trivial | exact rfl) rfl rfl (hy1.frame hb notF_cells) (fun r H' ⟨A', ⟨k1, k2⟩, k3, k4⟩ => ?_) (fun r H' ⟨_, k, _⟩ => k.elim)
    subst k1; subst k2; subst k4
    repeat (first | refine RG.z0 ?_ | refine RG.z1 ?_ | refine RG.z2 ?_ | refine RG.z3 ?_ | refine RG.z4 ?_ | refine RG.z5 ?_ | refine RG.z6 ?_ | refine RG.z7 ?_ | refine RG.z8 ?_ | refine RG.z9 ?_ | refine RG.zA ?_ | refine RG.zB ?_ | refine RG.zC ?_)
    generalize hs1 : (step s d (.mk p n t o ks)).1 = s1 at k3 hy2 ⊢
    cases e2 : (step s d (.mk p n t o ks)).2
    case false =>
      refine RG.nilS (AC.cond_t rfl (AC.seq (AC.reg ?_)))
      repeat (first | refine RG.z0 ?_ | refine RG.z1 ?_ | refine RG.z2 ?_ | refine RG.z3 ?_ | refine RG.z4 ?_ | refine RG.z5 ?_ | refine RG.z6 ?_ | refine RG.z7 ?_ | refine RG.z8 ?_ | refine RG.z9 ?_ | refine RG.zA ?_ | refine RG.zB ?_ | refine RG.zC ?_)
      exact RG.nilS (AC.ret (finD (H' := h s1) rfl (SubH.fresh k3) ⟨rfl, rfl⟩))
    have hok1 := hy2 e2
    refine RG.nilS (AC.cond_f rfl (AC.skip (AC.seq (AC.seq (AC.reg ?_)))))
    rw [cond_true, he]
    repeat (first | refine RG.z0 ?_ | refine RG.z1 ?_ | refine RG.z2 ?_ | refine RG.z3 ?_ | refine RG.z4 ?_ | refine RG.z5 ?_ | refine RG.z6 ?_ | refine RG.z7 ?_ | refine RG.z8 ?_ | refine RG.z9 ?_ | refine RG.zA ?_ | refine RG.zB ?_ | refine RG.zC ?_)
    refine RG.nilS ?_
    refine AC.bloopH (α := Nat × σ) (β := Unit) (fun a => ks.length - a.1) (fun a => [(1, .int .i64 d), (2, .int .i64 M), (3, yv), (20, .lst (elsC ks) ks.length 5 none), (21, .int .i64 ks.length), (22, .int .i64 a.1)])
      (fun a H' => a.1 ≤ ks.length ∧ ok a.2 ∧ h a.2 b = none ∧ H' = (h a.2).upd b (some (.cells [.int .i64 p, .str n, .str t, .bool o, .lst (elsC ks) ks.length 5 none] elT)) ∧ runL step s1 (pres M ks (d + 1)) = runL step a.2 (pres M (ks.drop a.1) (d + 1)))
      (fun _ => []) (fun _ H' => (runL step s1 (pres M ks (d + 1))).2 = true ∧ SubH (h (runL step s1 (pres M ks (d + 1))).1) H') ?_ ?_ (0, s1) _ ⟨Nat.zero_le _, hok1, k3, rfl, rfl⟩ ⟨rfl, rfl, rfl, rfl, rfl, rfl, trivial⟩
    · intro _ He fr ⟨h1, h2⟩ hfr
      refine AC.to _ hfr (AC.seq (AC.reg ?_))
      repeat (first | refine RG.z0 ?_ | refine RG.z1 ?_ | refine RG.z2 ?_ | refine RG.z3 ?_ | refine RG.z4 ?_ | refine RG.z5 ?_ | refine RG.z6 ?_ | refine RG.z7 ?_ | refine RG.z8 ?_ | refine RG.z9 ?_ | refine RG.zA ?_ | refine RG.zB ?_ | refine RG.zC ?_)
      exact RG.nilS (AC.ret (finD rfl h2 ⟨by rw [h1]; rfl, rfl⟩))
    · rintro ⟨i, s2⟩ H' ⟨h1, h2, h3, h4, h5⟩ ih2 ex
      subst h4
      dsimp only at h1 h2 h3 h5 ⊢
      refine AC.seq (AC.reg ?_)
      repeat (first | refine RG.z0 ?_ | refine RG.z1 ?_ | refine RG.z2 ?_ | refine RG.z3 ?_ | refine RG.z4 ?_ | refine RG.z5 ?_ | refine RG.z6 ?_ | refine RG.z7 ?_ | refine RG.z8 ?_ | refine RG.z9 ?_ | refine RG.zA ?_ | refine RG.zB ?_ | refine RG.zC ?_)
      cases e3 : decide ((i : Int) < ks.length)
      · have e := of_decide_eq_false e3
        have hd : ks.drop i = [] := List.drop_eq_nil_of_le (by omega)
        rw [hd] at h5
        have h6 : runL step s1 (pres M ks (d + 1)) = (s2, true) := h5
        exact RG.nilS (AC.seq (AC.cond_f rfl (AC.exit (ex () _ _ ⟨by rw [h6], by rw [h6]; exact SubH.fresh h3⟩ trivial))))
      · have e := of_decide_eq_true e3
        have hi : i < ks.length := by omega
        rw [pres_drop M (d + 1) ks i hi, runL_append] at h5
        obtain ⟨p', n', t', o', ks', hx⟩ : ∃ p' n' t' o' ks', ks[i] = .mk p' n' t' o' ks' := ⟨_, _, _, _, _, (El.eta ks[i]).symm⟩
        have he' : elC (.mk p' n' t' o' ks') = [.int .i64 p', .str n', .str t', .bool o', .lst (elsC ks') ks'.length 5 none] := by rw [elC]
        have hrow : ((elsC ks).drop (i * 5)).take 5 = elC (.mk p' n' t' o' ks') := elsC_at ks i _ (by rw [← hx]; exact List.getElem?_eq_getElem hi)
        rw [hx] at h5
        have hrow' : partD true 0 5 ((elsC ks).drop (((i : Nat) : Int).toNat * 5)) = some (.agg (elC (.mk p' n' t' o' ks'))) := partD_row (i := i) (sz := 5) hrow (by rw [elsC_length]; omega)
        refine RG.nilS (AC.seq (AC.cond_t rfl (AC.skip (AC.seq (AC.block (AC.seq (AC.reg ?_)))))))
        refine RG.p (by first | exact trivial | exact rfl) (evP_iadr (by conv => lhs; whnf) (by conv => lhs; whnf) (by omega)) ?_
        refine RG.p (by first | exact trivial | exact rfl) (evP_ldc (by conv => lhs; whnf) hrow') ?_
        refine RG.alloc (by first | exact trivial | exact rfl) fun q hq => ?_
        have hqb : q ≠ b := fun e => by rw [e, Hp.upd_same] at hq; cases hq
        have hq2 : h s2 q = none := by rw [Hp.upd_ne hqb] at hq; exact hq
        rw [he']
        repeat (first | refine RG.z0 ?_ | refine RG.z1 ?_ | refine RG.z2 ?_ | refine RG.z3 ?_ | refine RG.z4 ?_ | refine RG.z5 ?_ | refine RG.z6 ?_ | refine RG.z7 ?_ | refine RG.z8 ?_ | refine RG.z9 ?_ | refine RG.zA ?_ | refine RG.zB ?_ | refine RG.zC ?_)
        rw [Hp.upd_upd]
        refine RG.nilS (AC.seq (AC.reg ?_))
        refine RG.ld (by first | exact trivial | exact rfl) (by conv => lhs; whnf) Hp.upd_same (d := .agg (elC (.mk p' n' t' o' ks'))) (by rw [he']; rfl) ?_
        repeat (first | refine RG.z0 ?_ | refine RG.z1 ?_ | refine RG.z2 ?_ | refine RG.z3 ?_ | refine RG.z4 ?_ | refine RG.z5 ?_ | refine RG.z6 ?_ | refine RG.z7 ?_ | refine RG.z8 ?_ | refine RG.z9 ?_ | refine RG.zA ?_ | refine RG.zB ?_ | refine RG.zC ?_)
        have hc := ih (.mk p' n' t' o' ks') (d + 1) s2 (by rw [← hx]; exact fitss_mem ks hks _ (List.getElem_mem hi)) h2 (by omega) (by omega)
        have hc2 := (hc.frame (b := b) (o := .cells [.int .i64 p, .str n, .str t, .bool o, .lst (elsC ks) ks.length 5 none] elT) h3 notF_cells).frame (b := q) (o := .cells [.int .i64 p', .str n', .str t', .bool o', .lst (elsC ks') ks'.length 5 none] elT) (by rw [Hp.upd_ne hqb]; exact hq2) notF_cells
        refine RG.call (by first | exact trivial | exact rfl) rfl hc2 (fun r H' ⟨A', ⟨A2, ⟨k1, k2⟩, k3, k4⟩, k5, k6⟩ => ?_) (fun r H' ⟨_, ⟨_, k, _⟩, _⟩ => k.elim)
        subst k1; subst k2; subst k4; subst k6
        repeat (first | refine RG.z0 ?_ | refine RG.z1 ?_ | refine RG.z2 ?_ | refine RG.z3 ?_ | refine RG.z4 ?_ | refine RG.z5 ?_ | refine RG.z6 ?_ | refine RG.z7 ?_ | refine RG.z8 ?_ | refine RG.z9 ?_ | refine RG.zA ?_ | refine RG.zB ?_ | refine RG.zC ?_)
        have hok2 := runL_ok (fun s d x a b c => (hy s d x a b).2 c) (pre M (.mk p' n' t' o' ks') (d + 1)) s2 (fun q hq => by have := pre_deep M _ _ q hq; omega) h2
        generalize hR : runL step s2 (pre M (.mk p' n' t' o' ks') (d + 1)) = R at h5 k3 k5 hok2 ⊢
        cases e4 : R.2
        · rw [e4, cond_false] at h5
          refine RG.nilS (AC.cond_t rfl (AC.seq (AC.reg ?_)))
          repeat (first | refine RG.z0 ?_ | refine RG.z1 ?_ | refine RG.z2 ?_ | refine RG.z3 ?_ | refine RG.z4 ?_ | refine RG.z5 ?_ | refine RG.z6 ?_ | refine RG.z7 ?_ | refine RG.z8 ?_ | refine RG.z9 ?_ | refine RG.zA ?_ | refine RG.zB ?_ | refine RG.zC ?_)
          have hsub : SubH (h R.1) (((h R.1).upd b (some (.cells [.int .i64 p, .str n, .str t, .bool o, .lst (elsC ks) ks.length 5 none] elT))).upd q (some (.cells [.int .i64 p', .str n', .str t', .bool o', .lst (elsC ks') ks'.length 5 none] elT))) :=
            (SubH.fresh k3).trans (SubH.fresh k5)
          exact RG.nilS (AC.ret (finD (H' := h R.1) rfl hsub ⟨by rw [h5]; rfl, by rw [h5]⟩))
        · rw [e4, cond_true] at h5
          refine RG.nilS (AC.cond_f rfl (AC.skip ?_))
          refine AC.drop (SubH.fresh k5) (AC.reg ?_)
          repeat (first | refine RG.z0 ?_ | refine RG.z1 ?_ | refine RG.z2 ?_ | refine RG.z3 ?_ | refine RG.z4 ?_ | refine RG.z5 ?_ | refine RG.z6 ?_ | refine RG.z7 ?_ | refine RG.z8 ?_ | refine RG.z9 ?_ | refine RG.zA ?_ | refine RG.zB ?_ | refine RG.zC ?_)
          exact RG.nil (ih2 (i + 1, R.1) _ ⟨by dsimp only; omega, hok2 e4, k3, rfl, h5⟩ (by dsimp only; omega) _ ⟨rfl, rfl, rfl, rfl, rfl, rfl, trivial⟩)

/-- The blocks that 'within' makes. -/
def wH (H : Hp) (b1 b2 : Nat) (e : El) (M : Nat) : Hp := (H.upd b1 (some (.cells (elC e) elT))).upd b2 (some (.cells [.int .i64 M] 3))

theorem within_ok (e : El) (M : Nat) (H : Hp) : CALL Go.Proofs.Tryd.prog G 31 [.agg (elC e), .int .i64 M] H
    (fun r H' => ∃ b1 b2, H b1 = none ∧ H b2 = none ∧ b2 ≠ b1 ∧ r = .func (.func 51) [] [.ptr b1 0, .ptr b2 0] ∧ H' = wH H b1 b2 e M) (fun _ _ => False) := by
  refine CALL.of cF31 (Nat.le_of_ble_eq_true rfl) ?_
  refine AC.seq (AC.reg ?_)
  refine RG.box (by first | exact trivial | exact rfl) rfl rfl fun b1 hb1 => ?_
  refine RG.box (by first | exact trivial | exact rfl) rfl rfl fun b2 hb2 => ?_
  have hne : b2 ≠ b1 := fun e => by rw [e, Hp.upd_same] at hb2; cases hb2
  rw [Hp.upd_ne hne] at hb2
  repeat (first | refine RG.z0 ?_ | refine RG.z1 ?_ | refine RG.z2 ?_ | refine RG.z3 ?_ | refine RG.z4 ?_ | refine RG.z5 ?_ | refine RG.z6 ?_ | refine RG.z7 ?_ | refine RG.z8 ?_ | refine RG.z9 ?_ | refine RG.zA ?_ | refine RG.zB ?_ | refine RG.zC ?_)
  refine RG.nilS (AC.seq (AC.reg ?_))
  repeat (first | refine RG.z0 ?_ | refine RG.z1 ?_ | refine RG.z2 ?_ | refine RG.z3 ?_ | refine RG.z4 ?_ | refine RG.z5 ?_ | refine RG.z6 ?_ | refine RG.z7 ?_ | refine RG.z8 ?_ | refine RG.z9 ?_ | refine RG.zA ?_ | refine RG.zB ?_ | refine RG.zC ?_)
  exact RG.nilS (AC.ret (fin rfl ⟨b1, b2, hb1, hb2, hne, rfl, rfl⟩))

theorem within1_ok {σ : Type} {yv : DV} {step : σ → Nat → El → σ × Bool} {h : σ → Hp} {ok : σ → Prop} (hy : YOK G yv step h ok) (M : Nat) (hM : M < 1000000) (e : El) (hfit : fits e) (s : σ) (hs : ok s) {b1 b2 : Nat} (h1 : h s b1 = none) (h2 : h s b2 = none) (hne : b2 ≠ b1) :
    CALL Go.Proofs.Tryd.prog G 51 [yv, .ptr b1 0, .ptr b2 0] (wH (h s) b1 b2 e M) (fun _ H' => H' = wH (h (runL step s (pre M e 1)).1) b1 b2 e M ∧ h (runL step s (pre M e 1)).1 b1 = none ∧ h (runL step s (pre M e 1)).1 b2 = none) (fun _ _ => False) := by
  have hc := walk_ok hy M hM (M + 1) e 1 s hfit hs (by omega) (by omega)
  have hc2 := (hc.frame (b := b1) (o := .cells (elC e) elT) h1 notF_cells).frame (b := b2) (o := .cells [.int .i64 M] 3) (by rw [Hp.upd_ne hne]; exact h2) notF_cells
  have hw1 : wH (h s) b1 b2 e M b1 = some (.cells (elC e) elT) := by rw [wH, Hp.upd_ne (Ne.symm hne)]; exact Hp.upd_same
  have hw2 : wH (h s) b1 b2 e M b2 = some (.cells [.int .i64 M] 3) := Hp.upd_same
  refine CALL.of cF51 (Nat.le_of_ble_eq_true rfl) ?_
  refine AC.reg ?_
  refine RG.ld (by first | exact trivial | exact rfl) (by conv => lhs; whnf) hw1 (d := .agg (elC e)) (by obtain ⟨p, n, t, o, ks⟩ := e; rw [elC]; rfl) ?_
  refine RG.ld (by first | exact trivial | exact rfl) (by conv => lhs; whnf) hw2 (d := .int .i64 M) rfl ?_
  repeat (first | refine RG.z0 ?_ | refine RG.z1 ?_ | refine RG.z2 ?_ | refine RG.z3 ?_ | refine RG.z4 ?_ | refine RG.z5 ?_ | refine RG.z6 ?_ | refine RG.z7 ?_ | refine RG.z8 ?_ | refine RG.z9 ?_ | refine RG.zA ?_ | refine RG.zB ?_ | refine RG.zC ?_)
  refine RG.call (by first | exact trivial | exact rfl) rfl hc2 (fun r H' ⟨A', ⟨A2, ⟨k1, k2⟩, k3, k4⟩, k5, k6⟩ => ?_) (fun r H' ⟨_, ⟨_, k, _⟩, _⟩ => k.elim)
  subst k2; subst k4; subst k6
  exact RG.nil (fin rfl ⟨rfl, k3, by rw [Hp.upd_ne hne] at k5; exact k5⟩)
end Go.Run.Tryd
/- Weight. -/
namespace Go.Run.Tryd
open Go Go.Run Go.RowKit
/-! cardcase/tree.Weight -/
def F33 : FN := ⟨13, (.seq (.reg [⟨(some 1), none, .box 24 (.t 0)⟩,
    ⟨(some 2), none, .mv (.c (.int .i64 0))⟩])
  (.seq (.reg [⟨(some 3), none, .alloc [(.int .i64 0)] 3⟩,
    ⟨none, none, .st 1 (.t 3) (.c (.int .i64 0))⟩])
  (.seq (.seq (.reg [⟨(some 4), none, .ld true 5 (.t 1)⟩,
    ⟨(some 5), none, .call 31 [(.t 4), (.c (.int .i64 5000))]⟩])
  (.block 0 (.rng (.t 5) [6, 7] .skip
  (.block 1 (.seq (.reg [⟨(some 8), none, .ld false 1 (.t 3)⟩,
    ⟨(some 9), none, .bin .add (.t 8) (.c (.int .i64 1))⟩,
    ⟨none, none, .st 1 (.t 3) (.t 9)⟩])
  (.seq (.reg [⟨(some 10), none, .ld false 1 (.t 3)⟩,
    ⟨(some 11), none, .bin .eql (.t 10) (.c (.int .i64 5000))⟩])
  (.cond (.t 11) (.exit 0)
  .skip)))))))
  (.seq (.reg [⟨(some 12), none, .ld false 1 (.t 3)⟩,
    ⟨(some 2), none, .mv (.t 12)⟩])
  .ret)))), [.tmp 2]⟩
theorem cF33 : cFn Go.Proofs.Tryd.prog 33 = some F33 := by kernel_rfl
variable {G : Gl}

def stepW (n : Nat) (_ : Nat) (_ : El) : Nat × Bool := (n + 1, !(n + 1 == 5000))

theorem runW : ∀ (l : List (Nat × El)) (n : Nat), n < 5000 → (runL stepW n l).1 = n + (l.take (5000 - n)).length
  | [], n, _ => by simp [runL]
  | p :: l, n, h => by
    rw [runL]
    cases e : n + 1 == 5000
    · have hne : n + 1 ≠ 5000 := by simpa using e
      have := runW l (n + 1) (by omega)
      simp only [stepW, e, Bool.not_false, cond_true, this]
      obtain ⟨q, hq⟩ : ∃ q, 5000 - n = q + 1 := ⟨5000 - n - 1, by omega⟩
      rw [hq, List.take_succ_cons, List.length_cons, show 5000 - (n + 1) = q by omega]
      omega
    · have heq : n + 1 = 5000 := by simpa using e
      simp only [stepW, e, Bool.not_true, cond_false]
      rw [show 5000 - n = 1 by omega]
      simp

theorem Weight_ok (e : El) (hfit : fits e) : PF Go.Proofs.Tryd.prog G 33 [.agg (elC e)] (.int .i64 (weightF e : Nat)) := by
  intro H
  refine CALL.of cF33 (Nat.le_of_ble_eq_true rfl) ?_
  refine AC.seq (AC.reg ?_)
  refine RG.box (by first | exact trivial | exact rfl) rfl rfl fun be hbe => ?_
  repeat (first | refine RG.z0 ?_ | refine RG.z1 ?_ | refine RG.z2 ?_ | refine RG.z3 ?_ | refine RG.z4 ?_ | refine RG.z5 ?_ | refine RG.z6 ?_ | refine RG.z7 ?_ | refine RG.z8 ?_ | refine RG.z9 ?_ | refine RG.zA ?_ | refine RG.zB ?_ | refine RG.zC ?_)
  refine RG.nilS (AC.seq (AC.reg ?_))
  refine RG.alloc (by first | exact trivial | exact rfl) fun bn hbn => ?_
  have hne1 : bn ≠ be := fun e => by rw [e, Hp.upd_same] at hbn; cases hbn
  rw [Hp.upd_ne hne1] at hbn
  repeat (first | refine RG.z0 ?_ | refine RG.z1 ?_ | refine RG.z2 ?_ | refine RG.z3 ?_ | refine RG.z4 ?_ | refine RG.z5 ?_ | refine RG.z6 ?_ | refine RG.z7 ?_ | refine RG.z8 ?_ | refine RG.z9 ?_ | refine RG.zA ?_ | refine RG.zB ?_ | refine RG.zC ?_)
  rw [Hp.upd_upd]
  refine RG.nilS (AC.seq (AC.seq (AC.reg ?_)))
  refine RG.ld (by first | exact trivial | exact rfl) (by conv => lhs; whnf) (by rw [Hp.upd_ne (Ne.symm hne1)]; exact Hp.upd_same) (d := .agg (elC e)) (by obtain ⟨p, n, t, o, ks⟩ := e; rw [elC]; rfl) ?_
  refine RG.call (by first | exact trivial | exact rfl) rfl (within_ok e 5000 _) (fun r H' ⟨b1, b2, h1, h2, h3, h4, h5⟩ => ?_) (fun _ _ h => h.elim)
  subst h4; subst h5
  have n1 : b1 ≠ bn := fun e => by rw [e, Hp.upd_same] at h1; cases h1
  have n2 : b2 ≠ bn := fun e => by rw [e, Hp.upd_same] at h2; cases h2
  rw [Hp.upd_ne n1] at h1
  rw [Hp.upd_ne n2] at h2
  have n3 : b1 ≠ be := fun e => by rw [e, Hp.upd_same] at h1; cases h1
  have n4 : b2 ≠ be := fun e => by rw [e, Hp.upd_same] at h2; cases h2
  rw [Hp.upd_ne n3] at h1
  rw [Hp.upd_ne n4] at h2
  refine RG.nilS (AC.block ?_)
  generalize hfr : Fr.put _ (some 5) _ = fr
  have f3 : fr 3 = .ptr bn 0 := by rw [← hfr]; rfl
  have f5 : fr 5 = .func (.func 51) [] [.ptr b1 0, .ptr b2 0] := by rw [← hfr]; rfl
  clear hfr
  refine AC.rng f5 fun l asg bd has hbd hl => ?_
  have m1 : l ≠ b2 := fun e => by rw [e, wH, Hp.upd_same] at hl; cases hl
  rw [wH, Hp.upd_ne m1] at hl
  have m2 : l ≠ b1 := fun e => by rw [e, Hp.upd_same] at hl; cases hl
  rw [Hp.upd_ne m2] at hl
  have m3 : l ≠ bn := fun e => by rw [e, Hp.upd_same] at hl; cases hl
  rw [Hp.upd_ne m3] at hl
  have m4 : l ≠ be := fun e => by rw [e, Hp.upd_same] at hl; cases hl
  rw [Hp.upd_ne m4] at hl
  have hHl := hl
  let h : Nat → Hp := fun n => ((H.upd be (some (.cells (elC e) elT))).upd bn (some (.cells [.int .i64 n] 3))).upd l (some (.loop F33.N [6, 7] asg bd fr (bif n == 5000 then .done else .ready) (bif n == 5000 then some (.exit 0) else none)))
  have hy : YOK G (.func (.yield l) [] []) stepW h (fun n => n < 5000) := by
    intro n d x hok hd
    have en : (n == 5000) = false := by simp; omega
    refine ⟨.inr ⟨l, rfl, ?_⟩, fun hs => ?_⟩
    · refine YLD.of (N := F33.N) (ps := [6, 7]) (bd := bd) (fr := fr) (by simp only [h, en]; exact Hp.upd_same) rfl has hbd ?_
      refine AC.skip ⟨rfl, by simp only [h, en]; exact Hp.upd_same, ?_⟩
      refine AC.block (AC.seq (AC.reg ?_))
      have hh : (h n).upd l (some (.loop F33.N [6, 7] asg bd fr .busy none)) = ((H.upd be (some (.cells (elC e) elT))).upd bn (some (.cells [.int .i64 n] 3))).upd l (some (.loop F33.N [6, 7] asg bd fr .busy none)) := Hp.upd_upd
      rw [hh]
      have hc : (((H.upd be (some (.cells (elC e) elT))).upd bn (some (.cells [.int .i64 n] 3))).upd l (some (.loop F33.N [6, 7] asg bd fr .busy none))) bn = some (.cells [.int .i64 n] 3) := by
        rw [Hp.upd_ne (Ne.symm m3)]; exact Hp.upd_same
      refine RG.ld (by first | exact trivial | exact rfl) f3 hc (d := .int .i64 n) rfl ?_
      (first | refine RG.z0 ?_ | refine RG.z1 ?_ | refine RG.z2 ?_ | refine RG.z3 ?_ | refine RG.z4 ?_ | refine RG.z5 ?_ | refine RG.z6 ?_ | refine RG.z7 ?_ | refine RG.z8 ?_ | refine RG.z9 ?_ | refine RG.zA ?_ | refine RG.zB ?_ | refine RG.zC ?_)
      refine RG.sto (cs := [.int .i64 n]) (ty := 3) (by first | exact trivial | exact rfl) f3 hc (by conv => lhs; whnf) rfl rfl (Nat.le_refl _) ?_
      refine RG.nilS (AC.seq (AC.reg ?_))
      refine RG.ld (by first | exact trivial | exact rfl) f3 Hp.upd_same (d := .int .i64 ((n + 1 : Nat) : Int)) rfl ?_
      refine RG.p (d := .bool (n + 1 == 5000)) (by first | exact trivial | exact rfl) (by
        show some (DV.bool (((n + 1 : Nat) : Int) == 5000)) = _
        congr 2
        rw [Bool.eq_iff_iff]; simp only [beq_iff_eq]; omega) ?_
      cases en1 : n + 1 == 5000
      · refine RG.nilS (AC.cond_f rfl (AC.skip ?_))
        refine ⟨by rw [Hp.upd_ne m3]; exact Hp.upd_same, _, SubH.refl _, by simp only [stepW, en1]; rfl, ?_⟩
        simp only [stepW, h, en1, cond_false]
        (funext k; simp only [Hp.upd]; repeat (first | rfl | split); all_goals simp_all)
      · refine RG.nilS (AC.cond_t rfl (AC.exit ?_))
        refine ⟨by rw [Hp.upd_ne m3]; exact Hp.upd_same, _, SubH.refl _, by simp only [stepW, en1]; rfl, ?_⟩
        simp only [stepW, h, en1, cond_true]
        (funext k; simp only [Hp.upd]; repeat (first | rfl | split); all_goals simp_all)
    · have : (n + 1 == 5000) = false := by simpa [stepW] using hs
      have hne : n + 1 ≠ 5000 := by simpa using this
      simp only [stepW]; omega
  have h0 : (wH ((H.upd be (some (.cells (elC e) elT))).upd bn (some (.cells [.int .i64 0] 3))) b1 b2 e 5000).upd l (some (.loop F33.N [6, 7] asg bd fr .ready none)) = wH (h 0) b1 b2 e 5000 := by
    simp only [wH, h]
    rw [Hp.upd_comm (Ne.symm m1), Hp.upd_comm (Ne.symm m2)]
    rfl
  have hb1 : ∀ n, h n b1 = none := fun n => by
    simp only [h]
    rw [Hp.upd_ne (Ne.symm m2), Hp.upd_ne n1, Hp.upd_ne n3]; exact h1
  have hb2 : ∀ n, h n b2 = none := fun n => by
    simp only [h]
    rw [Hp.upd_ne (Ne.symm m1), Hp.upd_ne n2, Hp.upd_ne n4]; exact h2
  have hc := within1_ok hy 5000 (by omega) e hfit 0 (by omega) (hb1 0) (hb2 0) h3
  have hR := runW (pre 5000 e 1) 0 (by omega)
  generalize runL stepW 0 (pre 5000 e 1) = R at hc hR
  rw [Nat.zero_add] at hR
  have hw : R.1 = weightF e := hR
  have hz : (wH ((H.upd be (some (.cells (elC e) elT))).upd bn (some (.cells [.int .i64 0] 3))) b1 b2 e 5000).upd l (some (.loop F33.N [6, 7] asg bd fr .ready none)) = wH (h 0) b1 b2 e 5000 := h0
  have hnext : ∀ H2, H2 = wH (h R.1) b1 b2 e 5000 → AC Go.Proofs.Tryd.prog G none F33.N (.seq (.reg [⟨(some 12), none, .ld false 1 (.t 3)⟩, ⟨(some 2), none, .mv (.t 12)⟩]) .ret) (Fin F33.rs (fun d' H' => d' = .int .i64 (weightF e : Nat) ∧ H' = H) (fun _ _ => False)) fr (H2.upd l none) := by
    rintro H2 rfl
    refine AC.seq (AC.reg ?_)
    have hcb : ((wH (h R.1) b1 b2 e 5000).upd l none) bn = some (.cells [.int .i64 R.1] 3) := by
      rw [Hp.upd_ne (Ne.symm m3), wH, Hp.upd_ne (Ne.symm n2), Hp.upd_ne (Ne.symm n1)]
      simp only [h]
      rw [Hp.upd_ne (Ne.symm m3)]; exact Hp.upd_same
    refine RG.ld (by first | exact trivial | exact rfl) f3 hcb (d := .int .i64 R.1) rfl ?_
    repeat (first | refine RG.z0 ?_ | refine RG.z1 ?_ | refine RG.z2 ?_ | refine RG.z3 ?_ | refine RG.z4 ?_ | refine RG.z5 ?_ | refine RG.z6 ?_ | refine RG.z7 ?_ | refine RG.z8 ?_ | refine RG.z9 ?_ | refine RG.zA ?_ | refine RG.zB ?_ | refine RG.zC ?_)
    refine RG.nilS (AC.ret (finD (H' := H) rfl ?_ ⟨by rw [← hw]; rfl, rfl⟩))
    intro k o hk
    have k1 : k ≠ l := fun e => by rw [e, hHl] at hk; cases hk
    have k2 : k ≠ b2 := fun e => by rw [e, h2] at hk; cases hk
    have k3 : k ≠ b1 := fun e => by rw [e, h1] at hk; cases hk
    have k4 : k ≠ bn := fun e => by rw [e, hbn] at hk; cases hk
    have k5 : k ≠ be := fun e => by rw [e, hbe] at hk; cases hk
    simp only [h, wH]
    rw [Hp.upd_ne k1, Hp.upd_ne k2, Hp.upd_ne k3, Hp.upd_ne k1, Hp.upd_ne k4, Hp.upd_ne k5]
    exact hk
  have hfin : CALL Go.Proofs.Tryd.prog G 51 ([] ++ [.func (.yield l) [] []] ++ [.ptr b1 0, .ptr b2 0]) ((wH ((H.upd be (some (.cells (elC e) elT))).upd bn (some (.cells [.int .i64 0] 3))) b1 b2 e 5000).upd l (some (.loop F33.N [6, 7] asg bd fr .ready none)))
      (fun _ H' => H' = wH (h R.1) b1 b2 e 5000) (fun _ _ => False) := by
    rw [h0]
    exact hc.mono (fun _ _ hq => hq.1) (fun _ _ hq => hq)
  refine hfin.mono (fun _ H' hq => ?_) (fun _ _ hq => hq.elim)
  have hHl2 : H' l = some (.loop F33.N [6, 7] asg bd fr (bif R.1 == 5000 then .done else .ready) (bif R.1 == 5000 then some (.exit 0) else none)) := by
    rw [hq, wH, Hp.upd_ne m1, Hp.upd_ne m2]
    exact Hp.upd_same
  refine ⟨_, _, hHl2, ?_, ?_⟩
  · cases R.1 == 5000 <;> simp
  · cases R.1 == 5000
    · exact hnext H' hq
    · exact hnext H' hq
end Go.Run.Tryd
/- Check. -/
namespace Go.Run.Tryd
open Go Go.Run Go.RowKit
/-! cardcase/tree.Check -/
def F13 : FN := ⟨31, (.seq (.reg [⟨(some 1), none, .box 24 (.t 0)⟩,
    ⟨(some 2), none, .mv (.c (.int .i64 0))⟩])
  (.seq (.reg [⟨(some 3), none, .alloc [(.int .i64 0)] 3⟩,
    ⟨(some 4), none, .alloc [(.int .i64 0)] 3⟩,
    ⟨(some 5), none, .alloc [(.int .i64 0)] 27⟩,
    ⟨none, none, .st 1 (.t 3) (.c (.int .i64 0))⟩,
    ⟨none, none, .st 1 (.t 4) (.c (.int .i64 0))⟩,
    ⟨none, none, .st 1 (.t 5) (.c (.int .i64 0))⟩])
  (.seq (.seq (.reg [⟨(some 8), none, .ld true 5 (.t 1)⟩,
    ⟨(some 9), none, .call 31 [(.t 8), (.c (.int .i64 13))]⟩])
  (.block 0 (.rng (.t 9) [10, 11] (.seq (.reg [⟨(some 6), none, .mv (.t 10)⟩])
  (.reg [⟨(some 7), none, .alloc [(.int .i64 0), (.str []), (.str []), (.bool false), .nils] 24⟩,
    ⟨none, none, .st 5 (.t 7) (.t 11)⟩]))
  (.block 1 (.seq (.reg [⟨(some 12), none, .ld false 1 (.t 4)⟩,
    ⟨(some 13), none, .mv (.t 6)⟩,
    ⟨(some 14), none, .mx (.t 12) (.t 13)⟩,
    ⟨none, none, .st 1 (.t 4) (.t 14)⟩])
  (.seq (.seq (.reg [⟨(some 15), none, .ld false 1 (.t 5)⟩,
    ⟨(some 16), none, .bin .eql (.t 15) (.c (.int .i64 0))⟩])
  (.cond (.t 16) (.reg [⟨(some 17), none, .ld true 5 (.t 7)⟩,
    ⟨(some 18), none, .call 32 [(.t 17)]⟩,
    ⟨none, none, .st 1 (.t 5) (.t 18)⟩])
  .skip))
  (.seq (.reg [⟨(some 19), none, .ld false 1 (.t 3)⟩,
    ⟨(some 20), none, .bin .add (.t 19) (.c (.int .i64 1))⟩,
    ⟨none, none, .st 1 (.t 3) (.t 20)⟩])
  (.seq (.reg [⟨(some 21), none, .ld false 1 (.t 3)⟩,
    ⟨(some 22), none, .bin .eql (.t 21) (.c (.int .i64 5000))⟩])
  (.cond (.t 22) (.exit 0)
  .skip)))))))))
  (.seq (.block 2 (.seq (.reg [⟨(some 24), none, .ld false 1 (.t 4)⟩,
    ⟨(some 25), none, .bin .gtr (.t 24) (.c (.int .i64 12))⟩,
    ⟨(some 23), none, .mv (.t 25)⟩])
  (.cond (.t 23) (.seq (.reg [⟨(some 2), none, .mv (.c (.int .i64 9))⟩])
  .ret)
  (.seq (.reg [⟨(some 27), none, .ld true 5 (.t 1)⟩,
    ⟨(some 28), none, .call 33 [(.t 27)]⟩,
    ⟨(some 29), none, .bin .gtr (.t 28) (.c (.int .i64 2000))⟩,
    ⟨(some 26), none, .mv (.t 29)⟩])
  (.cond (.t 26) (.seq (.reg [⟨(some 2), none, .mv (.c (.int .i64 4))⟩])
  .ret)
  .skip)))))
  (.seq (.reg [⟨(some 30), none, .ld false 1 (.t 5)⟩,
    ⟨(some 2), none, .mv (.t 30)⟩])
  .ret))))), [.tmp 2]⟩
theorem cF13 : cFn Go.Proofs.Tryd.prog 13 = some F13 := by kernel_rfl
variable {G : Gl}

def stepC (s : Nat × Nat × Int) (d : Nat) (x : El) : (Nat × Nat × Int) × Bool := ((s.1 + 1, max s.2.1 d, bif s.2.2 == 0 then check1 x else s.2.2), !(s.1 + 1 == 5000))

def maxF : Nat → List (Nat × El) → Nat
  | m, [] => m
  | m, p :: l => maxF (max m p.1) l
def errF : Int → List (Nat × El) → Int
  | f, [] => f
  | f, p :: l => errF (bif f == 0 then check1 p.2 else f) l

theorem runC : ∀ (l : List (Nat × El)) (n m : Nat) (f : Int), n < 5000 → (runL stepC (n, m, f) l).1 = (n + (l.take (5000 - n)).length, maxF m (l.take (5000 - n)), errF f (l.take (5000 - n)))
  | [], n, m, f, _ => by simp [runL, maxF, errF]
  | p :: l, n, m, f, h => by
    rw [runL]
    obtain ⟨q, hq⟩ : ∃ q, 5000 - n = q + 1 := ⟨5000 - n - 1, by omega⟩
    rw [hq, List.take_succ_cons, List.length_cons, maxF, errF]
    cases e : n + 1 == 5000
    · have hne : n + 1 ≠ 5000 := by simpa using e
      have := runC l (n + 1) (max m p.1) (bif f == 0 then check1 p.2 else f) (by omega)
      simp only [stepC, e, Bool.not_false, cond_true, this, show 5000 - (n + 1) = q by omega]
      rw [show n + 1 + (List.take q l).length = n + ((List.take q l).length + 1) by omega]
    · have heq : n + 1 = 5000 := by simpa using e
      have : q = 0 := by omega
      subst this
      simp only [stepC, e, Bool.not_true, cond_false, List.take_zero, List.length_nil, maxF, errF]

theorem maxF_any : ∀ (l : List (Nat × El)) (m : Nat), decide (12 < maxF m l) = (decide (12 < m) || l.any (fun p => decide (12 < p.1)))
  | [], m => by rw [List.any_nil, Bool.or_false]; rfl
  | p :: l, m => by
    rw [maxF, maxF_any l, List.any_cons, ← Bool.or_assoc]
    congr 1
    rw [Bool.eq_iff_iff]
    simp only [decide_eq_true_eq, Bool.or_eq_true]
    omega
theorem errF_first : ∀ (l : List (Nat × El)) (f : Int), errF f l = bif f == 0 then firstErr l else f
  | [], f => by
    cases e : f == 0
    · rfl
    · have : f = 0 := by simpa using e
      subst this; rfl
  | p :: l, f => by
    rw [errF, errF_first l]
    cases e : f == 0
    · simp only [cond_false, e]
    · simp only [cond_true, firstErr]

def chkX (H : Hp) (be bn bd bf : Nat) (e : El) (s : Nat × Nat × Int) : Hp :=
  (((H.upd be (some (.cells (elC e) elT))).upd bn (some (.cells [.int .i64 s.1] 3))).upd bd (some (.cells [.int .i64 s.2.1] 3))).upd bf (some (.cells [.int .i64 s.2.2] 27))

section
variable {H : Hp} {be bn bd bf q l : Nat} {e : El} {K L : Option DO}
/-- .. with the round's element and the loop's record. -/
def chkY (H : Hp) (be bn bd bf q l : Nat) (e : El) (K L : Option DO) (s : Nat × Nat × Int) : Hp := ((chkX H be bn bd bf e s).upd q K).upd l L

structure Apart (H : Hp) (be bn bd bf l : Nat) : Prop where
  a1 : bn ≠ be
  a2 : bd ≠ bn
  a3 : bd ≠ be
  a4 : bf ≠ bd
  a5 : bf ≠ bn
  a6 : bf ≠ be
  l1 : l ≠ bf
  l2 : l ≠ bd
  l3 : l ≠ bn
  l4 : l ≠ be

theorem chkY_setN (h : Apart H be bn bd bf l) (hq : Apart H be bn bd bf q) (s : Nat × Nat × Int) (n : Nat) : (chkY H be bn bd bf q l e K L s).upd bn (some (.cells [.int .i64 n] 3)) = chkY H be bn bd bf q l e K L (n, s.2) := by
  simp only [chkY, chkX]
  rw [Hp.upd_comm h.l3, Hp.upd_comm hq.l3, Hp.upd_comm h.a5, Hp.upd_comm h.a2, Hp.upd_upd]
theorem chkY_setD (h : Apart H be bn bd bf l) (hq : Apart H be bn bd bf q) (s : Nat × Nat × Int) (m : Nat) : (chkY H be bn bd bf q l e K L s).upd bd (some (.cells [.int .i64 m] 3)) = chkY H be bn bd bf q l e K L (s.1, m, s.2.2) := by
  simp only [chkY, chkX]
  rw [Hp.upd_comm h.l2, Hp.upd_comm hq.l2, Hp.upd_comm h.a4, Hp.upd_upd]
theorem chkY_setF (h : Apart H be bn bd bf l) (hq : Apart H be bn bd bf q) (s : Nat × Nat × Int) (f : Int) : (chkY H be bn bd bf q l e K L s).upd bf (some (.cells [.int .i64 f] 27)) = chkY H be bn bd bf q l e K L (s.1, s.2.1, f) := by
  simp only [chkY, chkX]
  rw [Hp.upd_comm h.l1, Hp.upd_comm hq.l1, Hp.upd_upd]
theorem chkY_setL (s : Nat × Nat × Int) (L' : Option DO) : (chkY H be bn bd bf q l e K L s).upd l L' = chkY H be bn bd bf q l e K L' s := Hp.upd_upd
theorem chkX_n (h : Apart H be bn bd bf l) (s : Nat × Nat × Int) : chkX H be bn bd bf e s bn = some (.cells [.int .i64 s.1] 3) := by
  rw [chkX, Hp.upd_ne (Ne.symm h.a5), Hp.upd_ne (Ne.symm h.a2)]; exact Hp.upd_same
theorem chkX_d (h : Apart H be bn bd bf l) (s : Nat × Nat × Int) : chkX H be bn bd bf e s bd = some (.cells [.int .i64 s.2.1] 3) := by
  rw [chkX, Hp.upd_ne (Ne.symm h.a4)]; exact Hp.upd_same
theorem chkX_f (s : Nat × Nat × Int) : chkX H be bn bd bf e s bf = some (.cells [.int .i64 s.2.2] 27) := Hp.upd_same
theorem chkX_e (h : Apart H be bn bd bf l) (s : Nat × Nat × Int) : chkX H be bn bd bf e s be = some (.cells (elC e) elT) := by
  rw [chkX, Hp.upd_ne (Ne.symm h.a6), Hp.upd_ne (Ne.symm h.a3), Hp.upd_ne (Ne.symm h.a1)]; exact Hp.upd_same
theorem chkY_n (h : Apart H be bn bd bf l) (hq : Apart H be bn bd bf q) (s : Nat × Nat × Int) : chkY H be bn bd bf q l e K L s bn = some (.cells [.int .i64 s.1] 3) := by
  rw [chkY, Hp.upd_ne (Ne.symm h.l3), Hp.upd_ne (Ne.symm hq.l3)]; exact chkX_n h s
theorem chkY_d (h : Apart H be bn bd bf l) (hq : Apart H be bn bd bf q) (s : Nat × Nat × Int) : chkY H be bn bd bf q l e K L s bd = some (.cells [.int .i64 s.2.1] 3) := by
  rw [chkY, Hp.upd_ne (Ne.symm h.l2), Hp.upd_ne (Ne.symm hq.l2)]; exact chkX_d h s
theorem chkY_f (h : Apart H be bn bd bf l) (hq : Apart H be bn bd bf q) (s : Nat × Nat × Int) : chkY H be bn bd bf q l e K L s bf = some (.cells [.int .i64 s.2.2] 27) := by
  rw [chkY, Hp.upd_ne (Ne.symm h.l1), Hp.upd_ne (Ne.symm hq.l1)]; exact chkX_f s
theorem chkY_q (hql : q ≠ l) (s : Nat × Nat × Int) : chkY H be bn bd bf q l e K L s q = K := by
  rw [chkY, Hp.upd_ne hql]; exact Hp.upd_same
theorem chkX_free {s : Nat × Nat × Int} {k : Nat} (hk : chkX H be bn bd bf e s k = none) : k ≠ bf ∧ k ≠ bd ∧ k ≠ bn ∧ k ≠ be ∧ H k = none := by
  rw [chkX] at hk
  have m1 : k ≠ bf := fun e => by rw [e, Hp.upd_same] at hk; cases hk
  rw [Hp.upd_ne m1] at hk
  have m2 : k ≠ bd := fun e => by rw [e, Hp.upd_same] at hk; cases hk
  rw [Hp.upd_ne m2] at hk
  have m3 : k ≠ bn := fun e => by rw [e, Hp.upd_same] at hk; cases hk
  rw [Hp.upd_ne m3] at hk
  have m4 : k ≠ be := fun e => by rw [e, Hp.upd_same] at hk; cases hk
  rw [Hp.upd_ne m4] at hk
  exact ⟨m1, m2, m3, m4, hk⟩
theorem chkX_none {s : Nat × Nat × Int} {k : Nat} (h : k ≠ bf ∧ k ≠ bd ∧ k ≠ bn ∧ k ≠ be ∧ H k = none) : chkX H be bn bd bf e s k = none := by
  obtain ⟨h1, h2, h3, h4, h5⟩ := h
  rw [chkX, Hp.upd_ne h1, Hp.upd_ne h2, Hp.upd_ne h3, Hp.upd_ne h4]; exact h5
end

/-- The heap view between rounds. -/
def chkH (H : Hp) (be bn bd bf l : Nat) (e : El) (asg bdy : Code) (fr : Fr) (s : Nat × Nat × Int) : Hp :=
  (chkX H be bn bd bf e s).upd l (some (.loop F13.N [10, 11] asg bdy fr (bif s.1 == 5000 then .done else .ready) (bif s.1 == 5000 then some (.exit 0) else none)))

theorem chk_yok (hG : GOK G) {H : Hp} {be bn bd bf l : Nat} {e : El} {asg bdy : Code} {fr : Fr} (ha : Apart H be bn bd bf l) (f3 : fr 3 = .ptr bn 0) (f4 : fr 4 = .ptr bd 0) (f5 : fr 5 = .ptr bf 0)
    (has : cCode Go.Proofs.Tryd.prog F13.N asg = some (rngA F13.c)) (hbdy : cCode Go.Proofs.Tryd.prog F13.N bdy = some (rngB F13.c)) :
    YOK G (.func (.yield l) [] []) stepC (chkH H be bn bd bf l e asg bdy fr) (fun s => s.1 < 5000) := by
  rintro ⟨n, m, f⟩ d x hok hd
  dsimp only at hok
  have en : (n == 5000) = false := by simp; omega
  refine ⟨.inr ⟨l, rfl, ?_⟩, fun hs => ?_⟩
  · have hl0 : chkH H be bn bd bf l e asg bdy fr (n, m, f) l = some (.loop F13.N [10, 11] asg bdy fr .ready none) := by simp only [chkH, en]; exact Hp.upd_same
    refine YLD.of (N := F13.N) (ps := [10, 11]) (bd := bdy) (fr := fr) hl0 rfl has hbdy ?_
    refine AC.seq (AC.reg ?_)
    repeat (first | refine RG.z0 ?_ | refine RG.z1 ?_ | refine RG.z2 ?_ | refine RG.z3 ?_ | refine RG.z4 ?_ | refine RG.z5 ?_ | refine RG.z6 ?_ | refine RG.z7 ?_ | refine RG.z8 ?_ | refine RG.z9 ?_ | refine RG.zA ?_ | refine RG.zB ?_ | refine RG.zC ?_)
    refine RG.nilS (AC.reg ?_)
    refine RG.alloc (by first | exact trivial | exact rfl) fun q hq => ?_
    have hql : q ≠ l := fun e => by rw [e, hl0] at hq; cases hq
    have hq2 : chkX H be bn bd bf e (n, m, f) q = none := by rw [chkH, Hp.upd_ne hql] at hq; exact hq
    have hqs := chkX_free hq2
    have hqa : Apart H be bn bd bf q := ⟨ha.a1, ha.a2, ha.a3, ha.a4, ha.a5, ha.a6, hqs.1, hqs.2.1, hqs.2.2.1, hqs.2.2.2.1⟩
    obtain ⟨p', n', t', o', ks'⟩ := x
    have he' : elC (.mk p' n' t' o' ks') = [.int .i64 p', .str n', .str t', .bool o', .lst (elsC ks') ks'.length 5 none] := by rw [elC]
    refine RG.sto (cs := [.int .i64 0, .str [], .str [], .bool false, .nils]) (ty := elT) (d := .agg (elC (.mk p' n' t' o' ks'))) (ys := elC (.mk p' n' t' o' ks')) (by first | exact trivial | exact rfl) (by conv => lhs; whnf) Hp.upd_same (by conv => lhs; whnf) rfl (elC_length _) (by exact Nat.le_refl _) ?_
    have hsp : spliceL 0 (elC (.mk p' n' t' o' ks')) [.int .i64 0, .str [], .str [], .bool false, .nils] = elC (.mk p' n' t' o' ks') := by rw [he']; rfl
    rw [hsp, Hp.upd_upd]
    refine RG.nil ⟨rfl, by rw [Hp.upd_ne (Ne.symm hql)]; exact hl0, ?_⟩
    have hHH : ((chkH H be bn bd bf l e asg bdy fr (n, m, f)).upd q (some (.cells (elC (.mk p' n' t' o' ks')) elT))).upd l (some (.loop F13.N [10, 11] asg bdy fr .busy none)) =
        chkY H be bn bd bf q l e (some (.cells (elC (.mk p' n' t' o' ks')) elT)) (some (.loop F13.N [10, 11] asg bdy fr .busy none)) (n, m, f) := by
      rw [chkH, chkY, Hp.upd_comm (Ne.symm hql), Hp.upd_upd]
    rw [hHH]
    generalize hK : some (DO.cells (elC (.mk p' n' t' o' ks')) elT) = K
    generalize hL : some (DO.loop F13.N [10, 11] asg bdy fr .busy none) = L
    refine AC.to [(3, .ptr bn 0), (4, .ptr bd 0), (5, .ptr bf 0), (6, .int .i64 d), (7, .ptr q 0)] ⟨f3, f4, f5, rfl, rfl, trivial⟩ ?_
    refine AC.block (AC.seq (AC.reg ?_))
    refine RG.ld (by first | exact trivial | exact rfl) (by conv => lhs; whnf) (chkY_d ha hqa _) (d := .int .i64 m) rfl ?_
    (first | refine RG.z0 ?_ | refine RG.z1 ?_ | refine RG.z2 ?_ | refine RG.z3 ?_ | refine RG.z4 ?_ | refine RG.z5 ?_ | refine RG.z6 ?_ | refine RG.z7 ?_ | refine RG.z8 ?_ | refine RG.z9 ?_ | refine RG.zA ?_ | refine RG.zB ?_ | refine RG.zC ?_)
    refine RG.p (d := .int .i64 ((max m d : Nat) : Int)) (by first | exact trivial | exact rfl) (by
      show some (DV.int .i64 (if (d : Int) > (m : Int) then (d : Int) else (m : Int))) = _
      congr 2
      split <;> omega) ?_
    refine RG.sto1 (by first | exact trivial | exact rfl) (by conv => lhs; whnf) (chkY_d ha hqa _) (by conv => lhs; whnf) rfl ?_
    rw [chkY_setD ha hqa]
    dsimp only
    refine RG.nilS ?_
    refine AC.seqA (l := [(3, .ptr bn 0)]) (H' := chkY H be bn bd bf q l e K L (n, max m d, bif f == 0 then check1 (.mk p' n' t' o' ks') else f)) (AC.seq (AC.reg ?_)) ?_
    · refine RG.ld (by first | exact trivial | exact rfl) (by conv => lhs; whnf) (chkY_f ha hqa _) (d := .int .i64 f) rfl ?_
      repeat (first | refine RG.z0 ?_ | refine RG.z1 ?_ | refine RG.z2 ?_ | refine RG.z3 ?_ | refine RG.z4 ?_ | refine RG.z5 ?_ | refine RG.z6 ?_ | refine RG.z7 ?_ | refine RG.z8 ?_ | refine RG.z9 ?_ | refine RG.zA ?_ | refine RG.zB ?_ | refine RG.zC ?_)
      cases ef : f == 0
      · exact RG.nilS (AC.cond_f rfl (AC.skip ⟨rfl, rfl, trivial⟩))
      · have : f = 0 := by simpa using ef
        subst this
        refine RG.nilS (AC.cond_t rfl (AC.reg ?_))
        refine RG.ld (cs := elC (.mk p' n' t' o' ks')) (ty := elT) (by first | exact trivial | exact rfl) (by conv => lhs; whnf) (by rw [chkY_q hql]; exact hK.symm) (d := .agg (elC (.mk p' n' t' o' ks'))) (by rw [he']; rfl) ?_
        refine RG.callP (by first | exact trivial | exact rfl) rfl (check1_call hG _) ?_
        refine RG.sto1 (by first | exact trivial | exact rfl) (by conv => lhs; whnf) (chkY_f ha hqa _) (by conv => lhs; whnf) rfl ?_
        rw [chkY_setF ha hqa]
        exact RG.nil ⟨rfl, rfl, trivial⟩
    generalize hf' : (bif f == 0 then check1 (.mk p' n' t' o' ks') else f) = f'
    refine AC.seq (AC.reg ?_)
    refine RG.ld (by first | exact trivial | exact rfl) (by conv => lhs; whnf) (chkY_n ha hqa _) (d := .int .i64 n) rfl ?_
    (first | refine RG.z0 ?_ | refine RG.z1 ?_ | refine RG.z2 ?_ | refine RG.z3 ?_ | refine RG.z4 ?_ | refine RG.z5 ?_ | refine RG.z6 ?_ | refine RG.z7 ?_ | refine RG.z8 ?_ | refine RG.z9 ?_ | refine RG.zA ?_ | refine RG.zB ?_ | refine RG.zC ?_)
    refine RG.sto1 (d := .int .i64 ((n + 1 : Nat) : Int)) (by first | exact trivial | exact rfl) (by conv => lhs; whnf) (chkY_n ha hqa _) (by exact rfl) rfl ?_
    rw [chkY_setN ha hqa]
    refine RG.nilS (AC.seq (AC.reg ?_))
    refine RG.ld (by first | exact trivial | exact rfl) (by conv => lhs; whnf) (chkY_n ha hqa _) (d := .int .i64 ((n + 1 : Nat) : Int)) rfl ?_
    refine RG.p (d := .bool (n + 1 == 5000)) (by first | exact trivial | exact rfl) (by
      show some (DV.bool (((n + 1 : Nat) : Int) == 5000)) = _
      congr 2
      rw [Bool.eq_iff_iff]; simp only [beq_iff_eq]; omega) ?_
    have hsub : ∀ L' s', SubH ((chkX H be bn bd bf e s').upd l L') (chkY H be bn bd bf q l e K L' s') := fun L' s' => by
      rw [chkY, Hp.upd_comm hql]
      exact SubH.fresh (by rw [Hp.upd_ne hql]; exact chkX_none hqs)
    cases en1 : n + 1 == 5000
    · refine RG.nilS (AC.cond_f rfl (AC.skip ⟨by rw [hL]; exact Hp.upd_same, chkH H be bn bd bf l e asg bdy fr (n + 1, max m d, f'), ?_, by simp only [stepC, en1]; rfl, by simp only [stepC, hf']⟩))
      rw [chkY_setL]
      simp only [chkH, en1, cond_false]
      exact hsub _ _
    · refine RG.nilS (AC.cond_t rfl (AC.exit ⟨by rw [hL]; exact Hp.upd_same, chkH H be bn bd bf l e asg bdy fr (n + 1, max m d, f'), ?_, by simp only [stepC, en1]; rfl, by simp only [stepC, hf']⟩))
      rw [chkY_setL]
      simp only [chkH, en1, cond_true]
      exact hsub _ _
  · have : (n + 1 == 5000) = false := by simpa [stepC] using hs
    have hne : n + 1 ≠ 5000 := by simpa using this
    simp only [stepC]; omega
theorem Check_ok (hG : GOK G) (e : El) (hfit : fits e) : PF Go.Proofs.Tryd.prog G 13 [.agg (elC e)] (.int .i64 (checkF e)) := by
  intro H
  refine CALL.of cF13 (Nat.le_of_ble_eq_true rfl) ?_
  refine AC.seq (AC.reg ?_)
  refine RG.box (by first | exact trivial | exact rfl) rfl rfl fun be hbe => ?_
  repeat (first | refine RG.z0 ?_ | refine RG.z1 ?_ | refine RG.z2 ?_ | refine RG.z3 ?_ | refine RG.z4 ?_ | refine RG.z5 ?_ | refine RG.z6 ?_ | refine RG.z7 ?_ | refine RG.z8 ?_ | refine RG.z9 ?_ | refine RG.zA ?_ | refine RG.zB ?_ | refine RG.zC ?_)
  refine RG.nilS (AC.seq (AC.reg ?_))
  refine RG.alloc (by first | exact trivial | exact rfl) fun bn hbn => ?_
  have hne1 : bn ≠ be := fun e => by rw [e, Hp.upd_same] at hbn; cases hbn
  rw [Hp.upd_ne hne1] at hbn
  refine RG.alloc (by first | exact trivial | exact rfl) fun bd hbd => ?_
  have hne2 : bd ≠ bn := fun e => by rw [e, Hp.upd_same] at hbd; cases hbd
  rw [Hp.upd_ne hne2] at hbd
  have hne3 : bd ≠ be := fun e => by rw [e, Hp.upd_same] at hbd; cases hbd
  rw [Hp.upd_ne hne3] at hbd
  refine RG.alloc (by first | exact trivial | exact rfl) fun bf hbf => ?_
  have hne4 : bf ≠ bd := fun e => by rw [e, Hp.upd_same] at hbf; cases hbf
  rw [Hp.upd_ne hne4] at hbf
  have hne5 : bf ≠ bn := fun e => by rw [e, Hp.upd_same] at hbf; cases hbf
  rw [Hp.upd_ne hne5] at hbf
  have hne6 : bf ≠ be := fun e => by rw [e, Hp.upd_same] at hbf; cases hbf
  rw [Hp.upd_ne hne6] at hbf
  have hHX : ((((H.upd be (some (.cells (elC e) 24))).upd bn (some (.cells [.int .i64 0] 3))).upd bd (some (.cells [.int .i64 0] 3))).upd bf (some (.cells [.int .i64 0] 27))) = chkX H be bn bd bf e (0, 0, 0) := rfl
  rw [hHX]
  refine RG.sto1 (ty := 3) (by first | exact trivial | exact rfl) (by conv => lhs; whnf) (by rw [← hHX]; exact (by repeat (first | exact Hp.upd_same | assumption | rw [Hp.upd_ne (by omega)]))) (by conv => lhs; whnf) rfl ?_
  rw [Hp.upd_id (by rw [← hHX]; exact (by repeat (first | exact Hp.upd_same | assumption | rw [Hp.upd_ne (by omega)])))]
  refine RG.sto1 (ty := 3) (by first | exact trivial | exact rfl) (by conv => lhs; whnf) (by rw [← hHX]; exact (by repeat (first | exact Hp.upd_same | assumption | rw [Hp.upd_ne (by omega)]))) (by conv => lhs; whnf) rfl ?_
  rw [Hp.upd_id (by rw [← hHX]; exact (by repeat (first | exact Hp.upd_same | assumption | rw [Hp.upd_ne (by omega)])))]
  refine RG.sto1 (ty := 27) (by first | exact trivial | exact rfl) (by conv => lhs; whnf) (by rw [← hHX]; exact (by repeat (first | exact Hp.upd_same | assumption | rw [Hp.upd_ne (by omega)]))) (by conv => lhs; whnf) rfl ?_
  rw [Hp.upd_id (by rw [← hHX]; exact (by repeat (first | exact Hp.upd_same | assumption | rw [Hp.upd_ne (by omega)])))]
  refine RG.nilS (AC.seq (AC.seq (AC.reg ?_)))
  refine RG.ld (cs := elC e) (ty := elT) (by first | exact trivial | exact rfl) (by conv => lhs; whnf) (by rw [← hHX]; exact (by repeat (first | exact Hp.upd_same | assumption | rw [Hp.upd_ne (by omega)]))) (d := .agg (elC e)) (by obtain ⟨p, n, t, o, ks⟩ := e; rw [elC]; rfl) ?_
  refine RG.call (by first | exact trivial | exact rfl) rfl (within_ok e 13 _) (fun r H' ⟨b1, b2, h1, h2, h3, h4, h5⟩ => ?_) (fun _ _ h => h.elim)
  subst h4; subst h5
  obtain ⟨p1, p2, p3, p4, p5⟩ := chkX_free h1
  obtain ⟨q1, q2, q3, q4, q5⟩ := chkX_free h2
  refine RG.nilS (AC.block ?_)
  generalize hfr : Fr.put _ (some 9) _ = fr
  have f1 : fr 1 = .ptr be 0 := by rw [← hfr]; rfl
  have f3 : fr 3 = .ptr bn 0 := by rw [← hfr]; rfl
  have f4 : fr 4 = .ptr bd 0 := by rw [← hfr]; rfl
  have f5 : fr 5 = .ptr bf 0 := by rw [← hfr]; rfl
  have f9 : fr 9 = .func (.func 51) [] [.ptr b1 0, .ptr b2 0] := by rw [← hfr]; rfl
  clear hfr
  refine AC.rng f9 fun l asg bdy has hbdy hl => ?_
  have m1 : l ≠ b2 := fun e => by rw [e, wH, Hp.upd_same] at hl; cases hl
  rw [wH, Hp.upd_ne m1] at hl
  have m2 : l ≠ b1 := fun e => by rw [e, Hp.upd_same] at hl; cases hl
  rw [Hp.upd_ne m2] at hl
  obtain ⟨l1, l2, l3, l4, l5⟩ := chkX_free hl
  have ha : Apart H be bn bd bf l := ⟨hne1, hne2, hne3, hne4, hne5, hne6, l1, l2, l3, l4⟩
  have hy := chk_yok hG (H := H) (e := e) (asg := asg) (bdy := bdy) ha f3 f4 f5 has hbdy
  have h0 : (wH (chkX H be bn bd bf e (0, 0, 0)) b1 b2 e 13).upd l (some (.loop F13.N [10, 11] asg bdy fr .ready none)) = wH (chkH H be bn bd bf l e asg bdy fr (0, 0, 0)) b1 b2 e 13 := by
    simp only [wH, chkH]
    rw [Hp.upd_comm (Ne.symm m1), Hp.upd_comm (Ne.symm m2)]
    rfl
  have hb1 : ∀ s, chkH H be bn bd bf l e asg bdy fr s b1 = none := fun s => by rw [chkH, Hp.upd_ne (Ne.symm m2)]; exact chkX_none ⟨p1, p2, p3, p4, p5⟩
  have hb2 : ∀ s, chkH H be bn bd bf l e asg bdy fr s b2 = none := fun s => by rw [chkH, Hp.upd_ne (Ne.symm m1)]; exact chkX_none ⟨q1, q2, q3, q4, q5⟩
  have hc := within1_ok hy 13 (by omega) e hfit (0, 0, 0) (by simp) (hb1 _) (hb2 _) h3
  have hR := runC (pre 13 e 1) 0 0 0 (by omega)
  generalize runL stepC (0, 0, 0) (pre 13 e 1) = R at hc hR
  have hlk : (pre 13 e 1).take (5000 - 0) = looked e := rfl
  rw [hlk, Nat.zero_add] at hR
  have hR2 : R.1.2.1 = maxF 0 (looked e) := by rw [hR]
  have hR3 : R.1.2.2 = errF 0 (looked e) := by rw [hR]
  clear hR
  generalize hS : R.1 = S at hc hR2 hR3
  have hnext : ∀ H2, H2 = wH (chkH H be bn bd bf l e asg bdy fr S) b1 b2 e 13 → AC Go.Proofs.Tryd.prog G none F13.N (.seq (.block 2 (.seq (.reg [⟨(some 24), none, .ld false 1 (.t 4)⟩,
    ⟨(some 25), none, .bin .gtr (.t 24) (.c (.int .i64 12))⟩,
    ⟨(some 23), none, .mv (.t 25)⟩])
  (.cond (.t 23) (.seq (.reg [⟨(some 2), none, .mv (.c (.int .i64 9))⟩])
  .ret)
  (.seq (.reg [⟨(some 27), none, .ld true 5 (.t 1)⟩,
    ⟨(some 28), none, .call 33 [(.t 27)]⟩,
    ⟨(some 29), none, .bin .gtr (.t 28) (.c (.int .i64 2000))⟩,
    ⟨(some 26), none, .mv (.t 29)⟩])
  (.cond (.t 26) (.seq (.reg [⟨(some 2), none, .mv (.c (.int .i64 4))⟩])
  .ret)
  .skip)))))
  (.seq (.reg [⟨(some 30), none, .ld false 1 (.t 5)⟩,
    ⟨(some 2), none, .mv (.t 30)⟩])
  .ret)) (Fin F13.rs (fun d' H' => d' = .int .i64 (checkF e) ∧ H' = H) (fun _ _ => False)) fr (H2.upd l none) := by
    rintro H2 rfl
    have hsub : SubH H ((wH (chkH H be bn bd bf l e asg bdy fr S) b1 b2 e 13).upd l none) := by
      intro k o hk
      have k1 : k ≠ l := fun e => by rw [e, l5] at hk; cases hk
      have k2 : k ≠ b2 := fun e => by rw [e, q5] at hk; cases hk
      have k3 : k ≠ b1 := fun e => by rw [e, p5] at hk; cases hk
      have k4 : k ≠ bn := fun e => by rw [e, hbn] at hk; cases hk
      have k5 : k ≠ be := fun e => by rw [e, hbe] at hk; cases hk
      have k6 : k ≠ bd := fun e => by rw [e, hbd] at hk; cases hk
      have k7 : k ≠ bf := fun e => by rw [e, hbf] at hk; cases hk
      rw [wH, Hp.upd_ne k1, Hp.upd_ne k2, Hp.upd_ne k3, chkH, Hp.upd_ne k1, chkX, Hp.upd_ne k7, Hp.upd_ne k6, Hp.upd_ne k4, Hp.upd_ne k5]
      exact hk
    have look : ∀ k, k ≠ l → k ≠ b1 → k ≠ b2 → ((wH (chkH H be bn bd bf l e asg bdy fr S) b1 b2 e 13).upd l none) k = chkX H be bn bd bf e S k := fun k a b c => by
      rw [wH, Hp.upd_ne a, Hp.upd_ne c, Hp.upd_ne b, chkH, Hp.upd_ne a]
    have cd := (look bd (Ne.symm l2) (Ne.symm p2) (Ne.symm q2)).trans (chkX_d ha S)
    have cf := (look bf (Ne.symm l1) (Ne.symm p1) (Ne.symm q1)).trans (chkX_f S)
    have ce := (look be (Ne.symm l4) (Ne.symm p4) (Ne.symm q4)).trans (chkX_e ha S)
    generalize (wH (chkH H be bn bd bf l e asg bdy fr S) b1 b2 e 13).upd l none = HH at hsub cd cf ce
    have hany : decide (12 < S.2.1) = (looked e).any (fun p => decide (12 < p.1)) := by rw [hR2, maxF_any]; simp
    have hfst : S.2.2 = firstErr (looked e) := by rw [hR3, errF_first]; rfl
    refine AC.seq (AC.block (AC.seq (AC.reg ?_)))
    refine RG.ld (by first | exact trivial | exact rfl) f4 cd (d := .int .i64 S.2.1) rfl ?_
    refine RG.p (d := .bool (decide (12 < S.2.1))) (by first | exact trivial | exact rfl) (by
      show some (DV.bool (decide ((S.2.1 : Int) > 12))) = _
      congr 2
      rw [decide_eq_decide]; omega) ?_
    (first | refine RG.z0 ?_ | refine RG.z1 ?_ | refine RG.z2 ?_ | refine RG.z3 ?_ | refine RG.z4 ?_ | refine RG.z5 ?_ | refine RG.z6 ?_ | refine RG.z7 ?_ | refine RG.z8 ?_ | refine RG.z9 ?_ | refine RG.zA ?_ | refine RG.zB ?_ | refine RG.zC ?_)
    cases g1 : decide (12 < S.2.1)
    case true =>
      refine RG.nilS (AC.cond_t rfl (AC.seq (AC.reg ?_)))
      repeat (first | refine RG.z0 ?_ | refine RG.z1 ?_ | refine RG.z2 ?_ | refine RG.z3 ?_ | refine RG.z4 ?_ | refine RG.z5 ?_ | refine RG.z6 ?_ | refine RG.z7 ?_ | refine RG.z8 ?_ | refine RG.z9 ?_ | refine RG.zA ?_ | refine RG.zB ?_ | refine RG.zC ?_)
      exact RG.nilS (AC.ret (finD (H' := H) rfl hsub ⟨by rw [checkF, ← hany, g1]; rfl, rfl⟩))
    refine RG.nilS (AC.cond_f rfl (AC.seq (AC.reg ?_)))
    refine RG.ld (by first | exact trivial | exact rfl) f1 ce (d := .agg (elC e)) (by obtain ⟨p, n, t, o, ks⟩ := e; rw [elC]; rfl) ?_
    refine RG.callP (by first | exact trivial | exact rfl) rfl (Weight_ok e hfit) ?_
    refine RG.p (d := .bool (decide (2000 < weightF e))) (by first | exact trivial | exact rfl) (by
      show some (DV.bool (decide ((weightF e : Int) > 2000))) = _
      congr 2
      rw [decide_eq_decide]; omega) ?_
    (first | refine RG.z0 ?_ | refine RG.z1 ?_ | refine RG.z2 ?_ | refine RG.z3 ?_ | refine RG.z4 ?_ | refine RG.z5 ?_ | refine RG.z6 ?_ | refine RG.z7 ?_ | refine RG.z8 ?_ | refine RG.z9 ?_ | refine RG.zA ?_ | refine RG.zB ?_ | refine RG.zC ?_)
    cases g2 : decide (2000 < weightF e)
    case true =>
      refine RG.nilS (AC.cond_t rfl (AC.seq (AC.reg ?_)))
      repeat (first | refine RG.z0 ?_ | refine RG.z1 ?_ | refine RG.z2 ?_ | refine RG.z3 ?_ | refine RG.z4 ?_ | refine RG.z5 ?_ | refine RG.z6 ?_ | refine RG.z7 ?_ | refine RG.z8 ?_ | refine RG.z9 ?_ | refine RG.zA ?_ | refine RG.zB ?_ | refine RG.zC ?_)
      exact RG.nilS (AC.ret (finD (H' := H) rfl hsub ⟨by rw [checkF, ← hany, g1, g2]; rfl, rfl⟩))
    refine RG.nilS (AC.cond_f rfl (AC.skip ?_))
    refine AC.seq (AC.reg ?_)
    refine RG.ld (by first | exact trivial | exact rfl) f5 cf (d := .int .i64 S.2.2) rfl ?_
    repeat (first | refine RG.z0 ?_ | refine RG.z1 ?_ | refine RG.z2 ?_ | refine RG.z3 ?_ | refine RG.z4 ?_ | refine RG.z5 ?_ | refine RG.z6 ?_ | refine RG.z7 ?_ | refine RG.z8 ?_ | refine RG.z9 ?_ | refine RG.zA ?_ | refine RG.zB ?_ | refine RG.zC ?_)
    exact RG.nilS (AC.ret (finD (H' := H) rfl hsub ⟨by rw [checkF, ← hany, g1, g2, ← hfst]; rfl, rfl⟩))
  have hfin : CALL Go.Proofs.Tryd.prog G 51 ([] ++ [.func (.yield l) [] []] ++ [.ptr b1 0, .ptr b2 0]) ((wH (chkX H be bn bd bf e (0, 0, 0)) b1 b2 e 13).upd l (some (.loop F13.N [10, 11] asg bdy fr .ready none)))
      (fun _ H' => H' = wH (chkH H be bn bd bf l e asg bdy fr S) b1 b2 e 13) (fun _ _ => False) := by
    rw [h0]
    exact hc.mono (fun _ _ hq => hq.1) (fun _ _ hq => hq)
  refine hfin.mono (fun _ H' hq => ?_) (fun _ _ hq => hq.elim)
  have hHl2 : H' l = some (.loop F13.N [10, 11] asg bdy fr (bif S.1 == 5000 then .done else .ready) (bif S.1 == 5000 then some (.exit 0) else none)) := by
    rw [hq, wH, Hp.upd_ne m1, Hp.upd_ne m2]
    exact Hp.upd_same
  refine ⟨_, _, hHl2, ?_, ?_⟩
  · cases S.1 == 5000 <;> simp
  · cases S.1 == 5000
    · exact hnext H' hq
    · exact hnext H' hq
end Go.Run.Tryd
