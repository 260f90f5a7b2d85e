/- A document read; all elements as a row. -/
import Derived.Test.YtfimjbflfkdkkaaDoorWK
import Derived.Test.YtfimjbflfkdkkaaDoorWE
/- Read. -/
namespace Go.Run.Tryd
open Go Go.Run Go.RowKit
/-! cardcase/markup.Read -/
def F8 : FN := ⟨46, (.seq (.reg [⟨(some 2), none, .alloc [(.int .i64 0), (.str []), (.str []), (.bool false), .nils] 24⟩,
    ⟨(some 3), none, .alloc [(.int .i64 0)] 3⟩,
    ⟨(some 4), none, .alloc [(.int .i64 0)] 27⟩])
  (.seq (.block 0 (.seq (.reg [⟨(some 8), none, .mv (.t 0)⟩,
    ⟨(some 9), none, .len true (.t 8)⟩,
    ⟨(some 10), none, .bin .gtr (.t 9) (.c (.int .i64 12000))⟩,
    ⟨(some 7), none, .mv (.t 10)⟩])
  (.cond (.t 7) (.seq (.reg [⟨(some 11), none, .bld [(.int .i64 0), (.str []), (.str []), (.bool false), .nils] []⟩,
    ⟨none, none, .st 5 (.t 2) (.t 11)⟩,
    ⟨none, none, .st 1 (.t 3) (.c (.int .i64 0))⟩,
    ⟨none, none, .st 1 (.t 4) (.c (.int .i64 8))⟩])
  .ret)
  (.seq (.reg [⟨(some 13), none, .mv (.t 0)⟩,
    ⟨(some 14), none, .call 18 [(.t 13)]⟩,
    ⟨(some 15), none, .un .not (.t 14)⟩,
    ⟨(some 12), none, .mv (.t 15)⟩])
  (.cond (.t 12) (.seq (.reg [⟨(some 16), none, .bld [(.int .i64 0), (.str []), (.str []), (.bool false), .nils] []⟩,
    ⟨none, none, .st 5 (.t 2) (.t 16)⟩,
    ⟨none, none, .st 1 (.t 3) (.c (.int .i64 0))⟩,
    ⟨none, none, .st 1 (.t 4) (.c (.int .i64 16))⟩])
  .ret)
  .skip)))))
  (.seq (.reg [⟨(some 17), none, .mkfn (.func 19) [] [(.t 2), (.t 3), (.t 4)]⟩,
    ⟨none, none, .oth (.defer ⟨.value (.tmp 17), #[], #[]⟩)⟩])
  (.seq (.reg [⟨(some 18), none, .mv (.t 0)⟩,
    ⟨(some 19), none, .bld [(.str []), (.int .i64 0)] [(0, 1, (.t 18))]⟩,
    ⟨(some 20), none, .box 56 (.t 19)⟩,
    ⟨(some 5), none, .mv (.t 20)⟩])
  (.seq (.seq (.reg [⟨(some 21), none, .mv (.t 5)⟩,
    ⟨(some 22), none, .call 20 [(.t 21), (.c (.str [60, 63, 120, 109, 108]))]⟩])
  (.cond (.t 22) (.reg [⟨(some 23), none, .mv (.t 5)⟩,
    ⟨(some 24), none, .call 21 [(.t 23), (.c (.str [63, 62]))]⟩])
  .skip))
  (.seq (.reg [⟨(some 25), none, .mv (.t 5)⟩,
    ⟨(some 26), none, .call 22 [(.t 25)]⟩])
  (.seq (.reg [⟨(some 27), none, .mv (.t 5)⟩,
    ⟨(some 28), none, .call 23 [(.t 27), (.c (.int .i64 0)), (.c (.int .i64 1))]⟩,
    ⟨none, none, .st 5 (.t 2) (.t 28)⟩])
  (.seq (.reg [⟨(some 29), none, .mv (.t 5)⟩,
    ⟨(some 30), none, .call 22 [(.t 29)]⟩])
  (.seq (.draw [⟨(some 31), none, .mv (.t 5)⟩,
    ⟨(some 32), none, .call 25 [(.t 31)]⟩,
    ⟨(some 33), none, .bin .eql (.t 32) (.c (.str []))⟩,
    ⟨(some 34), none, .mv (.t 5)⟩,
    ⟨(some 35), none, .nilc (.t 34)⟩,
    ⟨(some 36), none, .fadr 1 (.t 35)⟩,
    ⟨(some 37), none, .ld false 1 (.t 36)⟩,
    ⟨(some 38), none, .call 24 [(.t 33), (.t 37), (.c (.int .i64 6))]⟩] [[], [0], [1], [], [3], [4], [5], [2, 6, 1]])
  (.seq (.seq (.reg [⟨(some 39), none, .ld true 5 (.t 2)⟩,
    ⟨(some 40), none, .call 13 [(.t 39)]⟩,
    ⟨(some 6), none, .mv (.t 40)⟩])
  (.seq (.reg [⟨(some 41), none, .mv (.t 6)⟩,
    ⟨(some 42), none, .bin .neq (.t 41) (.c (.int .i64 0))⟩])
  (.cond (.t 42) (.seq (.reg [⟨(some 43), none, .bld [(.int .i64 0), (.str []), (.str []), (.bool false), .nils] []⟩,
    ⟨(some 44), none, .mv (.t 6)⟩,
    ⟨none, none, .st 5 (.t 2) (.t 43)⟩,
    ⟨none, none, .st 1 (.t 3) (.c (.int .i64 0))⟩,
    ⟨none, none, .st 1 (.t 4) (.t 44)⟩])
  .ret)
  .skip)))
  (.seq (.reg [⟨(some 45), none, .ld true 5 (.t 2)⟩,
    ⟨none, none, .st 5 (.t 2) (.t 45)⟩,
    ⟨none, none, .st 1 (.t 3) (.c (.int .i64 0))⟩,
    ⟨none, none, .st 1 (.t 4) (.c (.int .i64 0))⟩])
  .ret))))))))))), [.cell 2 true 5, .cell 3 false 1, .cell 4 false 1]⟩
theorem cF8 : cFn Go.Proofs.Tryd.prog 8 = some F8 := by kernel_rfl
/-! cardcase/markup.Read$1 -/
def F19 : FN := ⟨16, (.seq (.reg [⟨(some 6), none, .oth (.call ⟨.builtin .recover, #[], #[]⟩)⟩,
    ⟨(some 7), none, .oth (.typeAssert (.tmp 6) 20 52 true)⟩,
    ⟨(some 5), none, .mv (.t 7)⟩,
    ⟨(some 8), none, .ext (.t 5) 0⟩,
    ⟨(some 9), none, .ext (.t 5) 1⟩,
    ⟨(some 3), none, .alloc [(.int .i64 0), (.int .i64 0)] 52⟩,
    ⟨none, none, .st 2 (.t 3) (.t 8)⟩,
    ⟨(some 4), none, .mv (.t 9)⟩])
  (.seq (.reg [⟨(some 10), none, .mv (.t 4)⟩])
  (.cond (.t 10) (.draw [⟨(some 11), none, .bld [(.int .i64 0), (.str []), (.str []), (.bool false), .nils] []⟩,
    ⟨(some 12), none, .fadr 0 (.t 3)⟩,
    ⟨(some 13), none, .ld false 1 (.t 12)⟩,
    ⟨(some 14), none, .fadr 1 (.t 3)⟩,
    ⟨(some 15), none, .ld false 1 (.t 14)⟩,
    ⟨none, none, .st 5 (.t 0) (.t 11)⟩,
    ⟨none, none, .st 1 (.t 1) (.t 13)⟩,
    ⟨none, none, .st 1 (.t 2) (.t 15)⟩] [[], [], [1], [], [3], [0, 0], [2, 5, 0, 1, 2, 5], [4, 6, 0, 1, 2, 3, 4, 5, 6]])
  .skip))), []⟩
theorem cF19 : cFn Go.Proofs.Tryd.prog 19 = some F19 := by kernel_rfl
variable {G : Gl}

/-- A store as an effect. -/
theorem EF_sto {x y : X} {b off sz N : Nat} {r dst : Option Nat} {fr : Fr} {H : Hp} {d : DV} {cs ys : List DV} {ty : TypeId} (hx : XV G fr x = .ptr b off) (hb : H b = some (.cells cs ty)) (hy : XV G fr y = d) (hc : cellsD d = some ys) (hl : ys.length = sz) (hle : off + sz ≤ cs.length) :
    EF Go.Proofs.Tryd.prog G r N ⟨dst, none, .st sz x y⟩ (fun d' H' => d' = .junk ∧ H' = H.upd b (some (.cells (spliceL off ys cs) ty))) (fun _ _ => False) fr H := by
  intro fr1 l Q hs k kp
  have e : ∀ z, z = x ∨ z = y → XV G fr1 z = XV G fr z := fun z hz => XV_congr fun t ht => hs t (by
    unfold slotsI; exact List.mem_append_left _ (List.mem_flatMap.2 ⟨z, by rcases hz with rfl | rfl <;> simp [opX], ht⟩))
  exact RG.sto (g := none) trivial ((e x (.inl rfl)).trans hx) hb ((e y (.inr rfl)).trans hy) hc hl hle (k _ _ ⟨rfl, rfl⟩)

noncomputable def faultFs : Array Field := match (Go.Proofs.Tryd.prog).underlying 52 with | some (.struct fs) => fs | _ => #[]
theorem fault_under : (Go.Proofs.Tryd.prog).underlying 52 = some (.struct faultFs) := by kernel_rfl
theorem fault_info : (Go.Proofs.Tryd.prog).info? 52 = some Go.Proofs.Tryd.t52 := by kernel_rfl

theorem spl2 (a b c d : DV) : spliceL 0 [a, b] [c, d] = [a, b] := rfl

theorem read1_some {b2 b3 b4 : Nat} {y0 y1 y2 y3 y4 x3 x4 : DV} {t2 t3 t4 : TypeId} {H : Hp} (h2 : H b2 = some (.cells [y0, y1, y2, y3, y4] t2)) (h3 : H b3 = some (.cells [x3] t3)) (h4 : H b4 = some (.cells [x4] t4)) (h23 : b2 ≠ b3) (h24 : b2 ≠ b4) (h34 : b3 ≠ b4) (a e : Int) :
    DCALL Go.Proofs.Tryd.prog G 19 [.ptr b2 0, .ptr b3 0, .ptr b4 0] (some (fault a e)) H (fun H' => SubH (((H.upd b2 (some (.cells Z5 t2))).upd b3 (some (.cells [.int .i64 a] t3))).upd b4 (some (.cells [.int .i64 e] t4))) H') := by
  refine DCALL.of cF19 (Nat.le_of_ble_eq_true rfl) rfl rfl rfl ?_
  refine RG.st (ST.assertY fault_under rfl ?_)
  (first | refine RG.z0 ?_ | refine RG.z1 ?_ | refine RG.z2 ?_ | refine RG.z3 ?_ | refine RG.z4 ?_ | refine RG.z5 ?_ | refine RG.z6 ?_ | refine RG.z7 ?_ | refine RG.z8 ?_ | refine RG.z9 ?_ | refine RG.zA ?_ | refine RG.zB ?_ | refine RG.zC ?_)
  (first | refine RG.z0 ?_ | refine RG.z1 ?_ | refine RG.z2 ?_ | refine RG.z3 ?_ | refine RG.z4 ?_ | refine RG.z5 ?_ | refine RG.z6 ?_ | refine RG.z7 ?_ | refine RG.z8 ?_ | refine RG.z9 ?_ | refine RG.zA ?_ | refine RG.zB ?_ | refine RG.zC ?_)
  (first | refine RG.z0 ?_ | refine RG.z1 ?_ | refine RG.z2 ?_ | refine RG.z3 ?_ | refine RG.z4 ?_ | refine RG.z5 ?_ | refine RG.z6 ?_ | refine RG.z7 ?_ | refine RG.z8 ?_ | refine RG.z9 ?_ | refine RG.zA ?_ | refine RG.zB ?_ | refine RG.zC ?_)
  refine RG.alloc (by first | exact trivial | exact rfl) fun q hq => ?_
  have hq2 : q ≠ b2 := fun e => by rw [e, h2] at hq; cases hq
  have hq3 : q ≠ b3 := fun e => by rw [e, h3] at hq; cases hq
  have hq4 : q ≠ b4 := fun e => by rw [e, h4] at hq; cases hq
  refine RG.sto (ys := [.int .i64 a, .int .i64 e]) (by first | exact trivial | exact rfl) (by conv => lhs; whnf) Hp.upd_same (by exact rfl) rfl rfl (by exact Nat.le_refl _) ?_
  rw [Hp.upd_upd, spl2]
  have hqq : (H.upd q (some (.cells [.int .i64 a, .int .i64 e] 52))) q = some (.cells [.int .i64 a, .int .i64 e] 52) := Hp.upd_same
  have hk2 : (H.upd q (some (.cells [.int .i64 a, .int .i64 e] 52))) b2 = some (.cells [y0, y1, y2, y3, y4] t2) := by rw [Hp.upd_ne (Ne.symm hq2)]; exact h2
  have hk3 : (H.upd q (some (.cells [.int .i64 a, .int .i64 e] 52))) b3 = some (.cells [x3] t3) := by rw [Hp.upd_ne (Ne.symm hq3)]; exact h3
  have hk4 : (H.upd q (some (.cells [.int .i64 a, .int .i64 e] 52))) b4 = some (.cells [x4] t4) := by rw [Hp.upd_ne (Ne.symm hq4)]; exact h4
  have hsub : SubH (((H.upd b2 (some (.cells Z5 t2))).upd b3 (some (.cells [.int .i64 a] t3))).upd b4 (some (.cells [.int .i64 e] t4))) ((((H.upd q (some (.cells [.int .i64 a, .int .i64 e] 52))).upd b2 (some (.cells Z5 t2))).upd b3 (some (.cells [.int .i64 a] t3))).upd b4 (some (.cells [.int .i64 e] t4))) :=
    SubH.updB (SubH.updB (SubH.updB (SubH.fresh hq) b2 _) b3 _) b4 _
  generalize H.upd q (some (.cells [.int .i64 a, .int .i64 e] 52)) = HH at hqq hk2 hk3 hk4 hsub ⊢
  repeat (first | refine RG.z0 ?_ | refine RG.z1 ?_ | refine RG.z2 ?_ | refine RG.z3 ?_ | refine RG.z4 ?_ | refine RG.z5 ?_ | refine RG.z6 ?_ | refine RG.z7 ?_ | refine RG.z8 ?_ | refine RG.z9 ?_ | refine RG.zA ?_ | refine RG.zB ?_ | refine RG.zC ?_)
  refine RG.nilS (AC.seq (AC.reg ?_))
  repeat (first | refine RG.z0 ?_ | refine RG.z1 ?_ | refine RG.z2 ?_ | refine RG.z3 ?_ | refine RG.z4 ?_ | refine RG.z5 ?_ | refine RG.z6 ?_ | refine RG.z7 ?_ | refine RG.z8 ?_ | refine RG.z9 ?_ | refine RG.zA ?_ | refine RG.zB ?_ | refine RG.zC ?_)
  refine RG.nilS (AC.cond_t rfl (AC.drawV [5, 6, 7] rfl ?_))
  first | refine VD.z0 0 ?_ | refine VD.z1 0 ?_ | refine VD.z2 0 ?_ | refine VD.z3 0 ?_ | refine VD.z4 0 ?_ | refine VD.z5 0 ?_
  first | refine VD.z0 1 ?_ | refine VD.z1 1 ?_ | refine VD.z2 1 ?_ | refine VD.z3 1 ?_ | refine VD.z4 1 ?_ | refine VD.z5 1 ?_
  first | refine VD.z0 2 ?_ | refine VD.z1 2 ?_ | refine VD.z2 2 ?_ | refine VD.z3 2 ?_ | refine VD.z4 2 ?_ | refine VD.z5 2 ?_
  first | refine VD.z0 3 ?_ | refine VD.z1 3 ?_ | refine VD.z2 3 ?_ | refine VD.z3 3 ?_ | refine VD.z4 3 ?_ | refine VD.z5 3 ?_
  first | refine VD.z0 4 ?_ | refine VD.z1 4 ?_ | refine VD.z2 4 ?_ | refine VD.z3 4 ?_ | refine VD.z4 4 ?_ | refine VD.z5 4 ?_
  refine VD.pe 5 rfl rfl (EF_sto (d := .agg Z5) (cs := [y0, y1, y2, y3, y4]) (ty := t2) rfl hk2 rfl rfl rfl (by exact Nat.le_refl _)) (fun _ _ _ h => h.elim) (fun d H' ⟨f1, f2⟩ => ⟨?_, ?_⟩)
  · subst f2; exact (by (repeat (refine stabAll_cons rfl (by first | exact Stab.ld rfl (by first | assumption | exact Hp.upd_same | (rw [Hp.upd_ne (by first | assumption | omega)]; first | assumption | exact Hp.upd_same | (rw [Hp.upd_ne (by first | assumption | omega)]; first | assumption | exact Hp.upd_same))) rfl rfl | exact Stab.of rfl rfl) ?_)); exact stabAll_nil)
  subst f1; subst f2
  refine VD.pe 6 rfl rfl (EF_sto (d := .int .i64 a) (cs := [x3]) (ty := t3) rfl (by rw [Hp.upd_ne (Ne.symm h23)]; exact hk3) rfl rfl rfl (by exact Nat.le_refl _)) (fun _ _ _ h => h.elim) (fun d H' ⟨f1, f2⟩ => ⟨?_, ?_⟩)
  · subst f2; exact (by (repeat (refine stabAll_cons rfl (by first | exact Stab.ld rfl (by first | assumption | exact Hp.upd_same | (rw [Hp.upd_ne (by first | assumption | omega)]; first | assumption | exact Hp.upd_same | (rw [Hp.upd_ne (by first | assumption | omega)]; first | assumption | exact Hp.upd_same))) rfl rfl | exact Stab.of rfl rfl) ?_)); exact stabAll_nil)
  subst f1; subst f2
  refine VD.pe 7 rfl rfl (EF_sto (d := .int .i64 e) (cs := [x4]) (ty := t4) rfl (by rw [Hp.upd_ne (Ne.symm h34), Hp.upd_ne (Ne.symm h24)]; exact hk4) rfl rfl rfl (by exact Nat.le_refl _)) (fun _ _ _ h => h.elim) (fun d H' ⟨f1, f2⟩ => ⟨?_, ?_⟩)
  · subst f2; exact (by (repeat (refine stabAll_cons rfl (by first | exact Stab.ld rfl (by first | assumption | exact Hp.upd_same | (rw [Hp.upd_ne (by first | assumption | omega)]; first | assumption | exact Hp.upd_same | (rw [Hp.upd_ne (by first | assumption | omega)]; first | assumption | exact Hp.upd_same))) rfl rfl | exact Stab.of rfl rfl) ?_)); exact stabAll_nil)
  subst f1; subst f2
  refine VD.pd rfl ?_
  exact hsub

theorem read1_none {b2 b3 b4 : Nat} {H : Hp} : DCALL Go.Proofs.Tryd.prog G 19 [.ptr b2 0, .ptr b3 0, .ptr b4 0] none H (fun H' => SubH H H') := by
  refine DCALL.of cF19 (Nat.le_of_ble_eq_true rfl) rfl rfl rfl ?_
  refine RG.st (ST.assertN (d0 := .agg [.int .i64 0, .int .i64 0]) fault_under fault_info (z0 := .agg #[.int .i64 0, .int .i64 0]) rfl ?_ rfl ?_)
  · intro w H Z
    refine .agg _ _ rfl (fun j v h => ?_) (fun j v d h1 h2 => ?_)
    · match j with
      | 0 => simp at h; subst h; rfl
      | 1 => simp at h; subst h; rfl
      | j + 2 => simp at h
    · match j with
      | 0 => simp at h1 h2; subst h1; subst h2; exact .int _ _
      | 1 => simp at h1 h2; subst h1; subst h2; exact .int _ _
      | j + 2 => simp at h2
  (first | refine RG.z0 ?_ | refine RG.z1 ?_ | refine RG.z2 ?_ | refine RG.z3 ?_ | refine RG.z4 ?_ | refine RG.z5 ?_ | refine RG.z6 ?_ | refine RG.z7 ?_ | refine RG.z8 ?_ | refine RG.z9 ?_ | refine RG.zA ?_ | refine RG.zB ?_ | refine RG.zC ?_)
  (first | refine RG.z0 ?_ | refine RG.z1 ?_ | refine RG.z2 ?_ | refine RG.z3 ?_ | refine RG.z4 ?_ | refine RG.z5 ?_ | refine RG.z6 ?_ | refine RG.z7 ?_ | refine RG.z8 ?_ | refine RG.z9 ?_ | refine RG.zA ?_ | refine RG.zB ?_ | refine RG.zC ?_)
  (first | refine RG.z0 ?_ | refine RG.z1 ?_ | refine RG.z2 ?_ | refine RG.z3 ?_ | refine RG.z4 ?_ | refine RG.z5 ?_ | refine RG.z6 ?_ | refine RG.z7 ?_ | refine RG.z8 ?_ | refine RG.z9 ?_ | refine RG.zA ?_ | refine RG.zB ?_ | refine RG.zC ?_)
  refine RG.alloc (by first | exact trivial | exact rfl) fun q hq => ?_
  refine RG.sto (ys := [.int .i64 0, .int .i64 0]) (by first | exact trivial | exact rfl) (by conv => lhs; whnf) Hp.upd_same (by exact rfl) rfl rfl (by exact Nat.le_refl _) ?_
  rw [Hp.upd_upd]
  repeat (first | refine RG.z0 ?_ | refine RG.z1 ?_ | refine RG.z2 ?_ | refine RG.z3 ?_ | refine RG.z4 ?_ | refine RG.z5 ?_ | refine RG.z6 ?_ | refine RG.z7 ?_ | refine RG.z8 ?_ | refine RG.z9 ?_ | refine RG.zA ?_ | refine RG.zB ?_ | refine RG.zC ?_)
  refine RG.nilS (AC.seq (AC.reg ?_))
  repeat (first | refine RG.z0 ?_ | refine RG.z1 ?_ | refine RG.z2 ?_ | refine RG.z3 ?_ | refine RG.z4 ?_ | refine RG.z5 ?_ | refine RG.z6 ?_ | refine RG.z7 ?_ | refine RG.z8 ?_ | refine RG.z9 ?_ | refine RG.zA ?_ | refine RG.zB ?_ | refine RG.zC ?_)
  refine RG.nilS (AC.cond_f rfl (AC.skip ?_))
  exact SubH.fresh hq

def rdRs : List RV := [.cell 2 true 5, .cell 3 false 1, .cell 4 false 1]
theorem rd3 {fr : Fr} {He : Hp} {b2 b3 b4 : Nat} {y0 y1 y2 y3 y4 x3 x4 : DV} {t2 t3 t4 : TypeId} (e2 : fr 2 = .ptr b2 0) (e3 : fr 3 = .ptr b3 0) (e4 : fr 4 = .ptr b4 0) (h2 : He b2 = some (.cells [y0, y1, y2, y3, y4] t2)) (h3 : He b3 = some (.cells [x3] t3)) (h4 : He b4 = some (.cells [x4] t4)) :
    evRes He fr rdRs = some [.agg [y0, y1, y2, y3, y4], x3, x4] := by
  have k2 : ldD He true 5 (.ptr b2 0) = some (.agg [y0, y1, y2, y3, y4]) := by unfold ldD; dsimp only; rw [h2]; rfl
  have k3 : ldD He false 1 (.ptr b3 0) = some x3 := by unfold ldD; dsimp only; rw [h3]; rfl
  have k4 : ldD He false 1 (.ptr b4 0) = some x4 := by unfold ldD; dsimp only; rw [h4]; rfl
  simp only [rdRs, evRes, e2, e3, e4, k2, k3, k4, Option.bind_some]

def KrR (s : List UInt8) (H : Hp) : DV → Hp → Prop := fun d H' => d = .tup [.agg (elC (readF s).1), .int .i64 (readF s).2.1, .int .i64 (readF s).2.2] ∧ H' = H

theorem finR_ok {s : List UInt8} {H : Hp} {fr : Fr} {He : Hp} {b2 b3 b4 : Nat} {y0 y1 y2 y3 y4 : DV} {t2 t3 t4 : TypeId} {x : El} {a e : Int} (hR : readF s = (x, a, e)) (e2 : fr 2 = .ptr b2 0) (e3 : fr 3 = .ptr b3 0) (e4 : fr 4 = .ptr b4 0)
    (h2 : He b2 = some (.cells [y0, y1, y2, y3, y4] t2)) (h3 : He b3 = some (.cells [.int .i64 a] t3)) (h4 : He b4 = some (.cells [.int .i64 e] t4)) (hle : DLe (.agg [y0, y1, y2, y3, y4]) (.agg (elC x))) (hs : SubH H He) : FinR rdRs (KrR s H) fr He := by
  refine ⟨_, .tup [.agg (elC x), .int .i64 a, .int .i64 e], H, rd3 e2 e3 e4 h2 h3 h4, Cv.of ?_ hs, ?_, rfl⟩
  · exact (DLes.cons hle (.cons (DLe.refl _) (.cons (DLe.refl _) .nil))).tup
  · rw [hR]

theorem el0_le : DLe (.agg [.int .i64 0, .str [], .str [], .bool false, .nils]) (.agg (elC El0)) := by
  have : elC El0 = [.int .i64 0, .str [], .str [], .bool false, .lst [] 0 5 none] := by rw [El0, elC]; rfl
  rw [this]
  exact (DLes.cons (DLe.refl _) (.cons (DLe.refl _) (.cons (DLe.refl _) (.cons (DLe.refl _) (.cons DLe.nils .nil))))).agg

/-- The reader gave up. -/
theorem badR {s : List UInt8} {H : Hp} {fr : Fr} {He : Hp} {b2 b3 b4 : Nat} {y0 y1 y2 y3 y4 x3 x4 : DV} {t2 t3 t4 : TypeId} {a e : Int} (hR : readF s = (El0, a, e)) (e2 : fr 2 = .ptr b2 0) (e3 : fr 3 = .ptr b3 0) (e4 : fr 4 = .ptr b4 0)
    (h2 : He b2 = some (.cells [y0, y1, y2, y3, y4] t2)) (h3 : He b3 = some (.cells [x3] t3)) (h4 : He b4 = some (.cells [x4] t4)) (h23 : b2 ≠ b3) (h24 : b2 ≠ b4) (h34 : b3 ≠ b4) (g2 : H b2 = none) (g3 : H b3 = none) (g4 : H b4 = none) (hs : SubH H He) :
    FinD Go.Proofs.Tryd.prog G 19 [.ptr b2 0, .ptr b3 0, .ptr b4 0] rdRs (KrR s H) (.panic (fault a e)) fr He := by
  refine (read1_some h2 h3 h4 h23 h24 h34 a e).mono fun H' hk => ?_
  refine finR_ok (t2 := t2) (t3 := t3) (t4 := t4) hR e2 e3 e4 (hk _ _ ?_) (hk _ _ ?_) (hk _ _ ?_) el0_le (SubH.trans (SubH.over (SubH.over (SubH.over hs g2) g3) g4) hk)
  · rw [Hp.upd_ne h24, Hp.upd_ne h23]; exact Hp.upd_same
  · rw [Hp.upd_ne h34]; exact Hp.upd_same
  · exact Hp.upd_same

/-- The reader came to its end. -/
theorem goodR {s : List UInt8} {H : Hp} {fr : Fr} {He : Hp} {b2 b3 b4 : Nat} {y0 y1 y2 y3 y4 : DV} {t2 t3 t4 : TypeId} {x : El} {a e : Int} (hR : readF s = (x, a, e)) (e2 : fr 2 = .ptr b2 0) (e3 : fr 3 = .ptr b3 0) (e4 : fr 4 = .ptr b4 0)
    (h2 : He b2 = some (.cells [y0, y1, y2, y3, y4] t2)) (h3 : He b3 = some (.cells [.int .i64 a] t3)) (h4 : He b4 = some (.cells [.int .i64 e] t4)) (hle : DLe (.agg [y0, y1, y2, y3, y4]) (.agg (elC x))) (hs : SubH H He) :
    FinD Go.Proofs.Tryd.prog G 19 [.ptr b2 0, .ptr b3 0, .ptr b4 0] rdRs (KrR s H) .ret fr He :=
  read1_none.mono fun _ hk => finR_ok hR e2 e3 e4 (hk _ _ h2) (hk _ _ h3) (hk _ _ h4) hle (hs.trans hk)

theorem noDst {l : List Ins} {t : Nat} (h : l.all (fun y => !(y.dst == some t)) = true) : ∀ (j : Nat) (y : Ins), l[j]? = some y → y.dst ≠ some t := by
  intro j y hj e
  have := List.all_eq_true.1 h y (List.mem_of_getElem? hj)
  rw [e] at this
  simp at this

def R3 (H : Hp) (b2 b3 b4 : Nat) (c2 : List DV) (x3 x4 : DV) : Hp := ((H.upd b2 (some (.cells c2 elT))).upd b3 (some (.cells [x3] 3))).upd b4 (some (.cells [x4] 27))

theorem Read_ok (hG : GOK G) (s : List UInt8) : PF Go.Proofs.Tryd.prog G 8 [.str s] (.tup [.agg (elC (readF s).1), .int .i64 (readF s).2.1, .int .i64 (readF s).2.2]) := by
  intro H
  show CALL Go.Proofs.Tryd.prog G 8 [.str s] H (KrR s H) (fun _ _ => False)
  refine CALL.ofD cF8 (Nat.le_of_ble_eq_true rfl) rfl rfl rfl (by decide) (fun fr He => ∃ b2 b3 b4, Agrees fr [(0, .str s), (2, .ptr b2 0), (3, .ptr b3 0), (4, .ptr b4 0)] ∧ He = R3 H b2 b3 b4 Z5 (.int .i64 0) (.int .i64 0) ∧ H b2 = none ∧ H b3 = none ∧ H b4 = none ∧ b2 ≠ b3 ∧ b2 ≠ b4 ∧ b3 ≠ b4 ∧ decide (((s.length : Nat) : Int) > 12000) = false ∧ Lib.validD s = true) ?_ ?_ ?_
  · refine AC.reg ?_
    refine RG.alloc (by first | exact trivial | exact rfl) fun b2 g2 => ?_
    refine RG.alloc (by first | exact trivial | exact rfl) fun b3 g3' => ?_
    refine RG.alloc (by first | exact trivial | exact rfl) fun b4 g4' => ?_
    have h23 : b2 ≠ b3 := fun e => by rw [← e, Hp.upd_same] at g3'; cases g3'
    have h34 : b3 ≠ b4 := fun e => by rw [← e, Hp.upd_same] at g4'; cases g4'
    have h24 : b2 ≠ b4 := fun e => by rw [← e, Hp.upd_ne h23, Hp.upd_same] at g4'; cases g4'
    have g3 : H b3 = none := by rw [Hp.upd_ne (Ne.symm h23)] at g3'; exact g3'
    have g4 : H b4 = none := by rw [Hp.upd_ne (Ne.symm h34), Hp.upd_ne (Ne.symm h24)] at g4'; exact g4'
    have hk2 : (R3 H b2 b3 b4 Z5 (.int .i64 0) (.int .i64 0)) b2 = some (.cells Z5 elT) := by unfold R3; rw [Hp.upd_ne h24, Hp.upd_ne h23]; exact Hp.upd_same
    have hk3 : (R3 H b2 b3 b4 Z5 (.int .i64 0) (.int .i64 0)) b3 = some (.cells [.int .i64 0] 3) := by unfold R3; rw [Hp.upd_ne h34]; exact Hp.upd_same
    have hk4 : (R3 H b2 b3 b4 Z5 (.int .i64 0) (.int .i64 0)) b4 = some (.cells [.int .i64 0] 27) := by unfold R3; exact Hp.upd_same
    have hsub : SubH H (R3 H b2 b3 b4 Z5 (.int .i64 0) (.int .i64 0)) := SubH.over (SubH.over (SubH.over (SubH.refl H) g2) g3) g4
    have hHH : ((H.upd b2 (some (.cells [.int .i64 0, .str [], .str [], .bool false, .nils] 24))).upd b3 (some (.cells [.int .i64 0] 3))).upd b4 (some (.cells [.int .i64 0] 27)) = R3 H b2 b3 b4 Z5 (.int .i64 0) (.int .i64 0) := rfl
    rw [hHH]
    -- an early end
    have early : ∀ {e : Int} {fr : Fr} {He : Hp}, readF s = (El0, 0, e) → fr 2 = .ptr b2 0 → fr 3 = .ptr b3 0 → fr 4 = .ptr b4 0 → He = ((((R3 H b2 b3 b4 Z5 (.int .i64 0) (.int .i64 0)).upd b2 (some (.cells Z5 elT))).upd b3 (some (.cells [.int .i64 0] 3))).upd b4 (some (.cells [.int .i64 e] 27))) →
        Fin rdRs (KrR s H) (fun _ _ => False) .ret fr He := by
      intro e fr He hR e2 e3 e4 hHe
      subst hHe
      refine finR_ok (t2 := elT) (t3 := 3) (t4 := 27) hR e2 e3 e4 ?_ ?_ ?_ el0_le (SubH.over (SubH.over (SubH.over hsub g2) g3) g4)
      · rw [Hp.upd_ne h24, Hp.upd_ne h23]; exact Hp.upd_same
      · rw [Hp.upd_ne h34]; exact Hp.upd_same
      · exact Hp.upd_same
    generalize hRR : R3 H b2 b3 b4 Z5 (.int .i64 0) (.int .i64 0) = HH at hk2 hk3 hk4 early ⊢
    refine RG.nilS (AC.block (AC.seq (AC.reg ?_)))
    (first | refine RG.z0 ?_ | refine RG.z1 ?_ | refine RG.z2 ?_ | refine RG.z3 ?_ | refine RG.z4 ?_ | refine RG.z5 ?_ | refine RG.z6 ?_ | refine RG.z7 ?_ | refine RG.z8 ?_ | refine RG.z9 ?_ | refine RG.zA ?_ | refine RG.zB ?_ | refine RG.zC ?_)
    (first | refine RG.z0 ?_ | refine RG.z1 ?_ | refine RG.z2 ?_ | refine RG.z3 ?_ | refine RG.z4 ?_ | refine RG.z5 ?_ | refine RG.z6 ?_ | refine RG.z7 ?_ | refine RG.z8 ?_ | refine RG.z9 ?_ | refine RG.zA ?_ | refine RG.zB ?_ | refine RG.zC ?_)
    refine RG.p (d := .bool (decide (((s.length : Nat) : Int) > 12000))) (by first | exact trivial | exact rfl) rfl ?_
    (first | refine RG.z0 ?_ | refine RG.z1 ?_ | refine RG.z2 ?_ | refine RG.z3 ?_ | refine RG.z4 ?_ | refine RG.z5 ?_ | refine RG.z6 ?_ | refine RG.z7 ?_ | refine RG.z8 ?_ | refine RG.z9 ?_ | refine RG.zA ?_ | refine RG.zB ?_ | refine RG.zC ?_)
    cases e1 : decide (((s.length : Nat) : Int) > 12000)
    case true =>
      refine RG.nilS (AC.cond_t rfl (AC.seq (AC.reg ?_)))
      (first | refine RG.z0 ?_ | refine RG.z1 ?_ | refine RG.z2 ?_ | refine RG.z3 ?_ | refine RG.z4 ?_ | refine RG.z5 ?_ | refine RG.z6 ?_ | refine RG.z7 ?_ | refine RG.z8 ?_ | refine RG.z9 ?_ | refine RG.zA ?_ | refine RG.zB ?_ | refine RG.zC ?_)
      refine RG.sto (d := .agg Z5) (cs := Z5) (ty := elT) (by first | exact trivial | exact rfl) rfl hk2 rfl rfl rfl (by exact Nat.le_refl _) ?_
      refine RG.sto1 (by first | exact trivial | exact rfl) rfl (by rw [Hp.upd_ne (Ne.symm h23)]; exact hk3) rfl rfl ?_
      refine RG.sto1 (by first | exact trivial | exact rfl) rfl (by rw [Hp.upd_ne (Ne.symm h34), Hp.upd_ne (Ne.symm h24)]; exact hk4) rfl rfl ?_
      exact RG.nilS (AC.ret (early (by rw [readF, e1, cond_true]) rfl rfl rfl rfl))
    refine RG.nilS (AC.cond_f rfl (AC.seq (AC.reg ?_)))
    have hle := of_decide_eq_false e1
    (first | refine RG.z0 ?_ | refine RG.z1 ?_ | refine RG.z2 ?_ | refine RG.z3 ?_ | refine RG.z4 ?_ | refine RG.z5 ?_ | refine RG.z6 ?_ | refine RG.z7 ?_ | refine RG.z8 ?_ | refine RG.z9 ?_ | refine RG.zA ?_ | refine RG.zB ?_ | refine RG.zC ?_)
    refine RG.callP (ds := [.str s]) (d := .bool (Lib.validD s)) (by first | exact trivial | exact rfl) (by exact rfl) ?_ ?_
    · exact charsetValid_ok hG s (by omega)
    refine RG.p (d := .bool (!(Lib.validD s))) (by first | exact trivial | exact rfl) rfl ?_
    (first | refine RG.z0 ?_ | refine RG.z1 ?_ | refine RG.z2 ?_ | refine RG.z3 ?_ | refine RG.z4 ?_ | refine RG.z5 ?_ | refine RG.z6 ?_ | refine RG.z7 ?_ | refine RG.z8 ?_ | refine RG.z9 ?_ | refine RG.zA ?_ | refine RG.zB ?_ | refine RG.zC ?_)
    cases e2 : Lib.validD s
    · refine RG.nilS (AC.cond_t rfl (AC.seq (AC.reg ?_)))
      (first | refine RG.z0 ?_ | refine RG.z1 ?_ | refine RG.z2 ?_ | refine RG.z3 ?_ | refine RG.z4 ?_ | refine RG.z5 ?_ | refine RG.z6 ?_ | refine RG.z7 ?_ | refine RG.z8 ?_ | refine RG.z9 ?_ | refine RG.zA ?_ | refine RG.zB ?_ | refine RG.zC ?_)
      refine RG.sto (d := .agg Z5) (cs := Z5) (ty := elT) (by first | exact trivial | exact rfl) rfl hk2 rfl rfl rfl (by exact Nat.le_refl _) ?_
      refine RG.sto1 (by first | exact trivial | exact rfl) rfl (by rw [Hp.upd_ne (Ne.symm h23)]; exact hk3) rfl rfl ?_
      refine RG.sto1 (by first | exact trivial | exact rfl) rfl (by rw [Hp.upd_ne (Ne.symm h34), Hp.upd_ne (Ne.symm h24)]; exact hk4) rfl rfl ?_
      exact RG.nilS (AC.ret (early (by rw [readF, e1, e2, cond_false, Bool.not_false, cond_true]) rfl rfl rfl rfl))
    refine RG.nilS (AC.cond_f rfl (AC.skip ?_))
    exact ⟨b2, b3, b4, ⟨rfl, rfl, rfl, rfl, trivial⟩, hRR.symm, g2, g3, g4, h23, h24, h34, (by first | rfl | exact e1), (by first | rfl | exact e2)⟩
  · rintro fr He ⟨b2, b3, b4, ⟨f0, f2, f3, f4, _⟩, rfl, g2, g3, g4, h23, h24, h34, e1, e2⟩
    have hv : [X.t 2, X.t 3, X.t 4].map (XV G fr) = [.ptr b2 0, .ptr b3 0, .ptr b4 0] := by
      show [fr 2, fr 3, fr 4] = _
      rw [f2, f3, f4]
    rw [hv]
    refine AC.to [(0, .str s), (2, .ptr b2 0), (3, .ptr b3 0), (4, .ptr b4 0)] ⟨f0, f2, f3, f4, trivial⟩ ?_
    have hle := of_decide_eq_false e1
    have hRF : readF s = match readR s with | .error e => (El0, e.1, e.2) | .ok x => (x, 0, 0) := by rw [readF, e1, e2, cond_false, Bool.not_true, cond_false]; rfl
    have hk2 : (R3 H b2 b3 b4 Z5 (.int .i64 0) (.int .i64 0)) b2 = some (.cells Z5 elT) := by unfold R3; rw [Hp.upd_ne h24, Hp.upd_ne h23]; exact Hp.upd_same
    have hk3 : (R3 H b2 b3 b4 Z5 (.int .i64 0) (.int .i64 0)) b3 = some (.cells [.int .i64 0] 3) := by unfold R3; rw [Hp.upd_ne h34]; exact Hp.upd_same
    have hk4 : (R3 H b2 b3 b4 Z5 (.int .i64 0) (.int .i64 0)) b4 = some (.cells [.int .i64 0] 27) := by unfold R3; exact Hp.upd_same
    have hsub : SubH H (R3 H b2 b3 b4 Z5 (.int .i64 0) (.int .i64 0)) := SubH.over (SubH.over (SubH.over (SubH.refl H) g2) g3) g4
    generalize R3 H b2 b3 b4 Z5 (.int .i64 0) (.int .i64 0) = HH at hk2 hk3 hk4 hsub ⊢
    refine AC.seq (AC.reg ?_)
    (first | refine RG.z0 ?_ | refine RG.z1 ?_ | refine RG.z2 ?_ | refine RG.z3 ?_ | refine RG.z4 ?_ | refine RG.z5 ?_ | refine RG.z6 ?_ | refine RG.z7 ?_ | refine RG.z8 ?_ | refine RG.z9 ?_ | refine RG.zA ?_ | refine RG.zB ?_ | refine RG.zC ?_)
    (first | refine RG.z0 ?_ | refine RG.z1 ?_ | refine RG.z2 ?_ | refine RG.z3 ?_ | refine RG.z4 ?_ | refine RG.z5 ?_ | refine RG.z6 ?_ | refine RG.z7 ?_ | refine RG.z8 ?_ | refine RG.z9 ?_ | refine RG.zA ?_ | refine RG.zB ?_ | refine RG.zC ?_)
    refine RG.box (ys := [.str s, .int .i64 0]) (by first | exact trivial | exact rfl) rfl rfl fun b hb => ?_
    have hb2 : b2 ≠ b := fun e => by rw [← e, hk2] at hb; cases hb
    have hb3 : b3 ≠ b := fun e => by rw [← e, hk3] at hb; cases hb
    have hb4 : b4 ≠ b := fun e => by rw [← e, hk4] at hb; cases hb
    have gb : H b = none := by
      cases h : H b with
      | none => rfl
      | some o => rw [hsub _ _ h] at hb; cases hb
    (first | refine RG.z0 ?_ | refine RG.z1 ?_ | refine RG.z2 ?_ | refine RG.z3 ?_ | refine RG.z4 ?_ | refine RG.z5 ?_ | refine RG.z6 ?_ | refine RG.z7 ?_ | refine RG.z8 ?_ | refine RG.z9 ?_ | refine RG.zA ?_ | refine RG.zB ?_ | refine RG.zC ?_)
    have hHb : HH.upd b (some (.cells [.str s, .int .i64 0] 56)) = HH.upd b (rd s 0 56) := rfl
    rw [hHb]
    -- where the reader stands at 'i'
    have bad : ∀ {HX : Hp} {y0 y1 y2 y3 y4 : DV} {i : Nat} {e : Int × Int} {fr : Fr}, HX b2 = some (.cells [y0, y1, y2, y3, y4] elT) → HX b3 = some (.cells [.int .i64 0] 3) → HX b4 = some (.cells [.int .i64 0] 27) → SubH H HX → readR s = .error e → fr 2 = .ptr b2 0 → fr 3 = .ptr b3 0 → fr 4 = .ptr b4 0 → FinD Go.Proofs.Tryd.prog G 19 [.ptr b2 0, .ptr b3 0, .ptr b4 0] rdRs (KrR s H) (.panic (fault e.1 e.2)) fr (HX.upd b (rd s i 56)) := by
      intro HX y0 y1 y2 y3 y4 i e fr hk2 hk3 hk4 hsub hR e2 e3 e4
      exact badR (by rw [hRF, hR]) e2 e3 e4 (by rw [Hp.upd_ne hb2]; exact hk2) (by rw [Hp.upd_ne hb3]; exact hk3) (by rw [Hp.upd_ne hb4]; exact hk4) h23 h24 h34 g2 g3 g4 (SubH.over hsub gb)
    refine RG.nilS (AC.seqI (I := fun fr' H2 => ∃ v i, (bif List.isPrefixOf headB s then uptoF s headE 5 else .ok ([], 0)) = .ok (v, i) ∧ i ≤ s.length ∧ H2 = HH.upd b (rd s i 56) ∧ Agrees fr' [(2, .ptr b2 0), (3, .ptr b3 0), (4, .ptr b4 0), (5, .ptr b 0)]) ?_ ?_)
    · refine AC.seq (AC.reg ?_)
      (first | refine RG.z0 ?_ | refine RG.z1 ?_ | refine RG.z2 ?_ | refine RG.z3 ?_ | refine RG.z4 ?_ | refine RG.z5 ?_ | refine RG.z6 ?_ | refine RG.z7 ?_ | refine RG.z8 ?_ | refine RG.z9 ?_ | refine RG.zA ?_ | refine RG.zB ?_ | refine RG.zC ?_)
      refine RG.callR (by first | exact trivial | exact rfl) rfl (has_ok (t := headB) Hp.upd_same (by omega) (by have : headB.length = 5 := rfl; omega)) ?_
      rw [Hp.upd_upd, List.drop_zero]
      cases e3 : List.isPrefixOf headB s
      · refine RG.nilS (AC.cond_f rfl (AC.skip ?_))
        exact ⟨[], 0, rfl, by omega, rfl, rfl, rfl, rfl, rfl, trivial⟩
      · have hpl := prefix_le (t := headB) (s := s) (i := 0) (by rw [List.drop_zero]; exact e3) (by simp [headB])
        have h5 : headB.length = 5 := rfl
        rw [h5] at hpl
        rw [cond_true, h5]
        refine RG.nilS (AC.cond_t rfl (AC.reg ?_))
        (first | refine RG.z0 ?_ | refine RG.z1 ?_ | refine RG.z2 ?_ | refine RG.z3 ?_ | refine RG.z4 ?_ | refine RG.z5 ?_ | refine RG.z6 ?_ | refine RG.z7 ?_ | refine RG.z8 ?_ | refine RG.z9 ?_ | refine RG.zA ?_ | refine RG.zB ?_ | refine RG.zC ?_)
        refine RG.call (by first | exact trivial | exact rfl) rfl (upto_ok' hG (t := headE) (i := 0 + 5) Hp.upd_same (by omega) (by have : headE.length = 2 := rfl; omega)) (fun d H3 ⟨⟨v, k2⟩, u1, u2, u3⟩ => ?_) (fun d H3 ⟨e, k2, u1, u2, u3, u4⟩ => ?_)
        · subst u3
          rw [Hp.upd_upd]
          have hp := uptoF_prog u1 (by omega)
          exact RG.nil ⟨v, k2, u1, hp.2, rfl, rfl, rfl, rfl, rfl, trivial⟩
        · subst u2; subst u4
          rw [Hp.upd_upd]
          refine bad hk2 hk3 hk4 hsub ?_ rfl rfl rfl
          have u1' : uptoF s headE 5 = .error e := u1
          rw [readR, e3, cond_true, u1']
    rintro fr' H2 ⟨v, i, hX, hi, rfl, hag⟩
    refine AC.to [(2, .ptr b2 0), (3, .ptr b3 0), (4, .ptr b4 0), (5, .ptr b 0)] hag ?_
    have hw := wsN_le (s.drop i)
    rw [List.length_drop] at hw
    refine AC.seq (AC.reg ?_)
    (first | refine RG.z0 ?_ | refine RG.z1 ?_ | refine RG.z2 ?_ | refine RG.z3 ?_ | refine RG.z4 ?_ | refine RG.z5 ?_ | refine RG.z6 ?_ | refine RG.z7 ?_ | refine RG.z8 ?_ | refine RG.z9 ?_ | refine RG.zA ?_ | refine RG.zB ?_ | refine RG.zC ?_)
    refine RG.callR (by first | exact trivial | exact rfl) rfl (space_ok Hp.upd_same hi (by omega)) ?_
    rw [Hp.upd_upd]
    refine RG.nilS (AC.seq (AC.reg ?_))
    (first | refine RG.z0 ?_ | refine RG.z1 ?_ | refine RG.z2 ?_ | refine RG.z3 ?_ | refine RG.z4 ?_ | refine RG.z5 ?_ | refine RG.z6 ?_ | refine RG.z7 ?_ | refine RG.z8 ?_ | refine RG.z9 ?_ | refine RG.zA ?_ | refine RG.zB ?_ | refine RG.zC ?_)
    refine RG.call (by first | exact trivial | exact rfl) rfl (elem_ok hG (by omega) 11 1 rfl 0 (i + wsN (s.drop i)) _ Hp.upd_same (by omega)) (fun d H3 ⟨⟨x, j⟩, u1, u2, u3⟩ => ?_) (fun d H3 ⟨e, k2, u1, u2, u3, u4⟩ => ?_)
    rotate_left
    · subst u2; subst u4
      rw [Hp.upd_upd]
      refine bad hk2 hk3 hk4 hsub ?_ rfl rfl rfl
      rw [readR, hX]
      dsimp only
      rw [u1]
    subst u2; subst u3
    rw [Hp.upd_upd]
    obtain ⟨hj1, hj2, hfit⟩ := elemF_prog 11 0 _ x j (by omega) u1
    obtain ⟨c0, c1, c2, c3, c4, hC⟩ : ∃ c0 c1 c2 c3 c4, elC x = [c0, c1, c2, c3, c4] := by
      obtain ⟨p, n, t, o, ks⟩ := x
      exact ⟨_, _, _, _, _, by rw [elC]⟩
    refine RG.sto (d := .agg (elC x)) (cs := Z5) (ty := elT) (by first | exact trivial | exact rfl) rfl (by rw [Hp.upd_ne hb2]; exact hk2) rfl rfl (elC_length x) (by exact Nat.le_refl _) ?_
    have hspl : spliceL 0 (elC x) Z5 = elC x := by rw [hC]; rfl
    rw [hspl, Hp.upd_comm (Ne.symm hb2)]
    have hRE : readR s = bif s.drop (j + wsN (s.drop j)) == [] then (bif checkF x == 0 then .ok x else .error (0, checkF x)) else .error (((j + wsN (s.drop j) : Nat) : Int), 6) := by
      rw [readR, hX]
      dsimp only
      rw [u1]
    have x2 : (HH.upd b2 (some (.cells (elC x) elT))) b2 = some (.cells [c0, c1, c2, c3, c4] elT) := by rw [hC]; exact Hp.upd_same
    have x3 : (HH.upd b2 (some (.cells (elC x) elT))) b3 = some (.cells [.int .i64 0] 3) := by rw [Hp.upd_ne (Ne.symm h23)]; exact hk3
    have x4 : (HH.upd b2 (some (.cells (elC x) elT))) b4 = some (.cells [.int .i64 0] 27) := by rw [Hp.upd_ne (Ne.symm h24)]; exact hk4
    have xsub : SubH H (HH.upd b2 (some (.cells (elC x) elT))) := SubH.over hsub g2
    generalize HH.upd b2 (some (.cells (elC x) elT)) = HX at x2 x3 x4 xsub ⊢
    have hwj := wsN_le (s.drop j)
    rw [List.length_drop] at hwj
    refine RG.nilS (AC.seq (AC.reg ?_))
    (first | refine RG.z0 ?_ | refine RG.z1 ?_ | refine RG.z2 ?_ | refine RG.z3 ?_ | refine RG.z4 ?_ | refine RG.z5 ?_ | refine RG.z6 ?_ | refine RG.z7 ?_ | refine RG.z8 ?_ | refine RG.z9 ?_ | refine RG.zA ?_ | refine RG.zB ?_ | refine RG.zC ?_)
    refine RG.callR (by first | exact trivial | exact rfl) rfl (space_ok (i := j) Hp.upd_same hj2 (by omega)) ?_
    rw [Hp.upd_upd]
    generalize hk : j + wsN (s.drop j) = k at hRE ⊢
    have hkl : k ≤ s.length := by omega
    refine RG.nilS (AC.seq (AC.drawVf [1, 7] rfl ?_))
    first | (refine VDf.pm 0 rfl rfl (by conv => lhs; whnf) ?_) | (refine VDf.pv 0 rfl rfl (evP_ld (by conv => lhs; whnf) (by first | assumption | exact Hp.upd_same | (rw [Hp.upd_ne (by first | assumption | omega)]; first | assumption | exact Hp.upd_same | (rw [Hp.upd_ne (by first | assumption | omega)]; first | assumption | exact Hp.upd_same))) (by conv => lhs; whnf)) ?_) | (refine VDf.pv 0 rfl rfl (evP_from (by conv => lhs; whnf) (by conv => lhs; whnf) (by omega)) ?_) | (refine VDf.pv 0 rfl rfl (evP_upto (by conv => lhs; whnf) (by conv => lhs; whnf) (by omega)) ?_) | (refine VDf.pv 0 rfl rfl (evP_addI (by conv => lhs; whnf) (by conv => lhs; whnf) (by omega)) ?_) | (refine VDf.pv 0 rfl rfl (by conv => lhs; whnf) ?_)
    first | (refine VDf.pm 3 rfl rfl (by conv => lhs; whnf) ?_) | (refine VDf.pv 3 rfl rfl (evP_ld (by conv => lhs; whnf) (by first | assumption | exact Hp.upd_same | (rw [Hp.upd_ne (by first | assumption | omega)]; first | assumption | exact Hp.upd_same | (rw [Hp.upd_ne (by first | assumption | omega)]; first | assumption | exact Hp.upd_same))) (by conv => lhs; whnf)) ?_) | (refine VDf.pv 3 rfl rfl (evP_from (by conv => lhs; whnf) (by conv => lhs; whnf) (by omega)) ?_) | (refine VDf.pv 3 rfl rfl (evP_upto (by conv => lhs; whnf) (by conv => lhs; whnf) (by omega)) ?_) | (refine VDf.pv 3 rfl rfl (evP_addI (by conv => lhs; whnf) (by conv => lhs; whnf) (by omega)) ?_) | (refine VDf.pv 3 rfl rfl (by conv => lhs; whnf) ?_)
    first | (refine VDf.pm 4 rfl rfl (by conv => lhs; whnf) ?_) | (refine VDf.pv 4 rfl rfl (evP_ld (by conv => lhs; whnf) (by first | assumption | exact Hp.upd_same | (rw [Hp.upd_ne (by first | assumption | omega)]; first | assumption | exact Hp.upd_same | (rw [Hp.upd_ne (by first | assumption | omega)]; first | assumption | exact Hp.upd_same))) (by conv => lhs; whnf)) ?_) | (refine VDf.pv 4 rfl rfl (evP_from (by conv => lhs; whnf) (by conv => lhs; whnf) (by omega)) ?_) | (refine VDf.pv 4 rfl rfl (evP_upto (by conv => lhs; whnf) (by conv => lhs; whnf) (by omega)) ?_) | (refine VDf.pv 4 rfl rfl (evP_addI (by conv => lhs; whnf) (by conv => lhs; whnf) (by omega)) ?_) | (refine VDf.pv 4 rfl rfl (by conv => lhs; whnf) ?_)
    first | (refine VDf.pm 5 rfl rfl (by conv => lhs; whnf) ?_) | (refine VDf.pv 5 rfl rfl (evP_ld (by conv => lhs; whnf) (by first | assumption | exact Hp.upd_same | (rw [Hp.upd_ne (by first | assumption | omega)]; first | assumption | exact Hp.upd_same | (rw [Hp.upd_ne (by first | assumption | omega)]; first | assumption | exact Hp.upd_same))) (by conv => lhs; whnf)) ?_) | (refine VDf.pv 5 rfl rfl (evP_from (by conv => lhs; whnf) (by conv => lhs; whnf) (by omega)) ?_) | (refine VDf.pv 5 rfl rfl (evP_upto (by conv => lhs; whnf) (by conv => lhs; whnf) (by omega)) ?_) | (refine VDf.pv 5 rfl rfl (evP_addI (by conv => lhs; whnf) (by conv => lhs; whnf) (by omega)) ?_) | (refine VDf.pv 5 rfl rfl (by conv => lhs; whnf) ?_)
    first | (refine VDf.pm 6 rfl rfl (by conv => lhs; whnf) ?_) | (refine VDf.pv 6 rfl rfl (evP_ld (by conv => lhs; whnf) (by first | assumption | exact Hp.upd_same | (rw [Hp.upd_ne (by first | assumption | omega)]; first | assumption | exact Hp.upd_same | (rw [Hp.upd_ne (by first | assumption | omega)]; first | assumption | exact Hp.upd_same))) (by conv => lhs; whnf)) ?_) | (refine VDf.pv 6 rfl rfl (evP_from (by conv => lhs; whnf) (by conv => lhs; whnf) (by omega)) ?_) | (refine VDf.pv 6 rfl rfl (evP_upto (by conv => lhs; whnf) (by conv => lhs; whnf) (by omega)) ?_) | (refine VDf.pv 6 rfl rfl (evP_addI (by conv => lhs; whnf) (by conv => lhs; whnf) (by omega)) ?_) | (refine VDf.pv 6 rfl rfl (by conv => lhs; whnf) ?_)
    refine VDf.pe (K := fun d H' => d = .str (s.drop k) ∧ H' = HX.upd b (rd s k 56)) (Kp := fun _ _ => False) 1 rfl rfl (EFf.call rfl (left_ok Hp.upd_same hkl)) (fun _ _ _ h => h.elim) (fun d H' ⟨f1, f2⟩ => ?_)
    subst f1; subst f2
    refine ⟨(by (repeat (refine stabAll_cons rfl (by first | exact Stab.ld rfl (by first | assumption | exact Hp.upd_same | (rw [Hp.upd_ne (by first | assumption | omega)]; first | assumption | exact Hp.upd_same | (rw [Hp.upd_ne (by first | assumption | omega)]; first | assumption | exact Hp.upd_same))) rfl rfl | exact Stab.of rfl rfl) ?_)); exact stabAll_nil), ?_⟩
    first | (refine VDf.pm 2 rfl rfl (by conv => lhs; whnf) ?_) | (refine VDf.pv 2 rfl rfl (evP_ld (by conv => lhs; whnf) (by first | assumption | exact Hp.upd_same | (rw [Hp.upd_ne (by first | assumption | omega)]; first | assumption | exact Hp.upd_same | (rw [Hp.upd_ne (by first | assumption | omega)]; first | assumption | exact Hp.upd_same))) (by conv => lhs; whnf)) ?_) | (refine VDf.pv 2 rfl rfl (evP_from (by conv => lhs; whnf) (by conv => lhs; whnf) (by omega)) ?_) | (refine VDf.pv 2 rfl rfl (evP_upto (by conv => lhs; whnf) (by conv => lhs; whnf) (by omega)) ?_) | (refine VDf.pv 2 rfl rfl (evP_addI (by conv => lhs; whnf) (by conv => lhs; whnf) (by omega)) ?_) | (refine VDf.pv 2 rfl rfl (by conv => lhs; whnf) ?_)
    refine VDf.pe (K := fun d H' => (s.drop k == []) = true ∧ d = .tup [] ∧ H' = HX.upd b (rd s k 56)) (Kp := fun d H' => (s.drop k == []) = false ∧ d = fault k 6 ∧ H' = HX.upd b (rd s k 56)) 7 rfl rfl (EFf.call rfl (need_ok _ k 6 _)) (fun d fr' H' ⟨f1, f2, f3⟩ hfr => ?_) (fun d H' ⟨f1, f2, f3⟩ => ?_)
    · subst f2; subst f3
      refine bad (e := ((k : Nat), 6)) x2 x3 x4 xsub (by rw [hRE, f1, cond_false]) ?_ ?_ ?_
      all_goals exact (hfr _ (noDst rfl)).trans rfl
    subst f2; subst f3
    refine ⟨(by (repeat (refine stabAll_cons rfl (by first | exact Stab.ld rfl (by first | assumption | exact Hp.upd_same | (rw [Hp.upd_ne (by first | assumption | omega)]; first | assumption | exact Hp.upd_same | (rw [Hp.upd_ne (by first | assumption | omega)]; first | assumption | exact Hp.upd_same))) rfl rfl | exact Stab.of rfl rfl) ?_)); exact stabAll_nil), ?_⟩
    refine VDf.pd rfl ?_
    rw [f1, cond_true] at hRE
    have l2 : (HX.upd b (rd s k 56)) b2 = some (.cells [c0, c1, c2, c3, c4] elT) := by rw [Hp.upd_ne hb2]; exact x2
    have l3 : (HX.upd b (rd s k 56)) b3 = some (.cells [.int .i64 0] 3) := by rw [Hp.upd_ne hb3]; exact x3
    have l4 : (HX.upd b (rd s k 56)) b4 = some (.cells [.int .i64 0] 27) := by rw [Hp.upd_ne hb4]; exact x4
    have lsub : SubH H (HX.upd b (rd s k 56)) := SubH.over xsub gb
    generalize HX.upd b (rd s k 56) = HY at l2 l3 l4 lsub ⊢
    refine AC.seq (AC.seq (AC.reg ?_))
    refine RG.ld (cs := [c0, c1, c2, c3, c4]) (ty := elT) (by first | exact trivial | exact rfl) rfl l2 rfl ?_
    have hck := Check_ok hG x hfit
    rw [hC] at hck
    refine RG.callP (by first | exact trivial | exact rfl) rfl hck ?_
    (first | refine RG.z0 ?_ | refine RG.z1 ?_ | refine RG.z2 ?_ | refine RG.z3 ?_ | refine RG.z4 ?_ | refine RG.z5 ?_ | refine RG.z6 ?_ | refine RG.z7 ?_ | refine RG.z8 ?_ | refine RG.z9 ?_ | refine RG.zA ?_ | refine RG.zB ?_ | refine RG.zC ?_)
    refine RG.nilS (AC.seq (AC.reg ?_))
    (first | refine RG.z0 ?_ | refine RG.z1 ?_ | refine RG.z2 ?_ | refine RG.z3 ?_ | refine RG.z4 ?_ | refine RG.z5 ?_ | refine RG.z6 ?_ | refine RG.z7 ?_ | refine RG.z8 ?_ | refine RG.z9 ?_ | refine RG.zA ?_ | refine RG.zB ?_ | refine RG.zC ?_)
    refine RG.p (d := .bool (!(checkF x == 0))) (by first | exact trivial | exact rfl) rfl ?_
    cases ce : checkF x == 0
    · rw [ce, cond_false] at hRE
      refine RG.nilS (AC.cond_t rfl (AC.seq (AC.reg ?_)))
      (first | refine RG.z0 ?_ | refine RG.z1 ?_ | refine RG.z2 ?_ | refine RG.z3 ?_ | refine RG.z4 ?_ | refine RG.z5 ?_ | refine RG.z6 ?_ | refine RG.z7 ?_ | refine RG.z8 ?_ | refine RG.z9 ?_ | refine RG.zA ?_ | refine RG.zB ?_ | refine RG.zC ?_)
      (first | refine RG.z0 ?_ | refine RG.z1 ?_ | refine RG.z2 ?_ | refine RG.z3 ?_ | refine RG.z4 ?_ | refine RG.z5 ?_ | refine RG.z6 ?_ | refine RG.z7 ?_ | refine RG.z8 ?_ | refine RG.z9 ?_ | refine RG.zA ?_ | refine RG.zB ?_ | refine RG.zC ?_)
      refine RG.sto (d := .agg Z5) (cs := [c0, c1, c2, c3, c4]) (ty := elT) (by first | exact trivial | exact rfl) rfl l2 rfl rfl rfl (by exact Nat.le_refl _) ?_
      refine RG.sto1 (by first | exact trivial | exact rfl) rfl (by rw [Hp.upd_ne (Ne.symm h23)]; exact l3) rfl rfl ?_
      refine RG.sto1 (by first | exact trivial | exact rfl) rfl (by rw [Hp.upd_ne (Ne.symm h34), Hp.upd_ne (Ne.symm h24)]; exact l4) rfl rfl ?_
      refine RG.nilS (AC.ret (goodR (t2 := elT) (t3 := 3) (t4 := 27) (x := El0) (a := 0) (e := checkF x) (by rw [hRF, hRE]) rfl rfl rfl ?_ ?_ ?_ el0_le (SubH.over (SubH.over (SubH.over lsub g2) g3) g4)))
      · rw [Hp.upd_ne h24, Hp.upd_ne h23]; exact Hp.upd_same
      · rw [Hp.upd_ne h34]; exact Hp.upd_same
      · exact Hp.upd_same
    · rw [ce, cond_true] at hRE
      refine RG.nilS (AC.cond_f rfl (AC.skip (AC.seq (AC.reg ?_))))
      refine RG.ld (cs := [c0, c1, c2, c3, c4]) (ty := elT) (by first | exact trivial | exact rfl) rfl l2 rfl ?_
      refine RG.sto (d := .agg [c0, c1, c2, c3, c4]) (cs := [c0, c1, c2, c3, c4]) (ty := elT) (by first | exact trivial | exact rfl) rfl l2 rfl rfl rfl (by exact Nat.le_refl _) ?_
      refine RG.sto1 (by first | exact trivial | exact rfl) rfl (by rw [Hp.upd_ne (Ne.symm h23)]; exact l3) rfl rfl ?_
      refine RG.sto1 (by first | exact trivial | exact rfl) rfl (by rw [Hp.upd_ne (Ne.symm h34), Hp.upd_ne (Ne.symm h24)]; exact l4) rfl rfl ?_
      refine RG.nilS (AC.ret (goodR (t2 := elT) (t3 := 3) (t4 := 27) (x := x) (a := 0) (e := 0) (by rw [hRF, hRE]) rfl rfl rfl ?_ ?_ ?_ (by rw [hC]; exact DLe.refl _) (SubH.over (SubH.over (SubH.over lsub g2) g3) g4)))
      · rw [Hp.upd_ne h24, Hp.upd_ne h23]; exact Hp.upd_same
      · rw [Hp.upd_ne h34]; exact Hp.upd_same
      · exact Hp.upd_same
  · obtain ⟨fn, c, h1, h2, h3, _⟩ := cFn_sound cF19
    exact ⟨fn, h1, by simp [h2], h3⟩
end Go.Run.Tryd
/- All elements, one by one, as a row. -/
namespace Go.Run.Tryd
open Go Go.Run Go.RowKit
/-! cardcase/cardcaseref13.all -/
def F30 : FN := ⟨53, (.seq (.reg [⟨(some 6), none, .box 24 (.t 1)⟩,
    ⟨(some 10), none, .mv (.c .nils)⟩])
  (.seq (.seq (.reg [⟨(some 12), none, .mv (.t 2)⟩,
    ⟨(some 13), none, .mv (.t 4)⟩,
    ⟨(some 14), none, .bin .gtr (.t 12) (.t 13)⟩,
    ⟨(some 15), none, .mv (.t 14)⟩,
    ⟨(some 16), some (15, false), .mv (.t 0)⟩,
    ⟨(some 17), some (15, false), .len false (.t 16)⟩,
    ⟨(some 18), some (15, false), .mv (.t 3)⟩,
    ⟨(some 19), some (15, false), .bin .geq (.t 17) (.t 18)⟩,
    ⟨(some 20), none, .pick (.t 15) (.c (.bool true)) (.t 19)⟩])
  (.cond (.t 20) (.seq (.reg [⟨(some 21), none, .mv (.t 0)⟩,
    ⟨(some 10), none, .mv (.t 21)⟩])
  .ret)
  .skip))
  (.seq (.reg [⟨(some 22), none, .mv (.t 0)⟩,
    ⟨(some 23), none, .mv (.t 2)⟩,
    ⟨(some 24), none, .ld true 5 (.t 6)⟩,
    ⟨(some 25), none, .bld [(.int .i64 0), (.int .i64 0), (.str []), (.str []), (.bool false), .nils] [(0, 1, (.t 23)), (1, 5, (.t 24))]⟩,
    ⟨(some 26), none, .bsl 39 1 6 [(.int .i64 0), (.int .i64 0), (.str []), (.str []), (.bool false), .nils] [(0, 6, (.t 25))]⟩,
    ⟨(some 27), none, .app 39 6 80 (.t 22) (.t 26)⟩,
    ⟨(some 0), none, .mv (.t 27)⟩])
  (.seq (.seq (.reg [⟨(some 11), none, .mv (.c (.int .i64 0))⟩])
  (.block 0 (.loop (.seq (.seq (.reg [⟨(some 28), none, .mv (.t 11)⟩,
    ⟨(some 29), none, .fadr 4 (.t 6)⟩,
    ⟨(some 30), none, .ld false 1 (.t 29)⟩,
    ⟨(some 31), none, .len false (.t 30)⟩,
    ⟨(some 32), none, .bin .lss (.t 28) (.t 31)⟩,
    ⟨(some 33), none, .mv (.t 32)⟩,
    ⟨(some 34), some (33, true), .mv (.t 0)⟩,
    ⟨(some 35), some (33, true), .len false (.t 34)⟩,
    ⟨(some 36), some (33, true), .mv (.t 3)⟩,
    ⟨(some 37), some (33, true), .bin .lss (.t 35) (.t 36)⟩,
    ⟨(some 38), none, .pick (.t 33) (.t 37) (.c (.bool false))⟩])
  (.cond (.t 38) .skip
  (.exit 0)))
  (.seq (.block 1 (.reg [⟨(some 41), none, .mv (.t 0)⟩,
    ⟨(some 42), none, .fadr 4 (.t 6)⟩,
    ⟨(some 43), none, .ld false 1 (.t 42)⟩,
    ⟨(some 44), none, .mv (.t 11)⟩,
    ⟨(some 45), none, .iadr 5 (.t 43) (.t 44)⟩,
    ⟨(some 46), none, .ld true 5 (.t 45)⟩,
    ⟨(some 47), none, .mv (.t 2)⟩,
    ⟨(some 48), none, .bin .add (.t 47) (.c (.int .i64 1))⟩,
    ⟨(some 49), none, .mv (.t 3)⟩,
    ⟨(some 50), none, .mv (.t 4)⟩,
    ⟨(some 51), none, .call 30 [(.t 41), (.t 46), (.t 48), (.t 49), (.t 50)]⟩,
    ⟨(some 0), none, .mv (.t 51)⟩]))
  (.reg [⟨(some 39), none, .mv (.t 11)⟩,
    ⟨(some 40), none, .bin .add (.t 39) (.c (.int .i64 1))⟩,
    ⟨(some 11), none, .mv (.t 40)⟩]))))))
  (.seq (.reg [⟨(some 52), none, .mv (.t 0)⟩,
    ⟨(some 10), none, .mv (.t 52)⟩])
  .ret))))), [.tmp 10]⟩
theorem cF30 : cFn Go.Proofs.Tryd.prog 30 = some F30 := by kernel_rfl
/-! cardcase/cardcaseref13.All -/
def F12 : FN := ⟨11, (.seq (.reg [⟨(some 3), none, .box 24 (.t 0)⟩,
    ⟨(some 6), none, .mv (.c .nils)⟩])
  (.seq (.reg [⟨(some 7), none, .ld true 5 (.t 3)⟩,
    ⟨(some 8), none, .mv (.t 1)⟩,
    ⟨(some 9), none, .mv (.t 2)⟩,
    ⟨(some 10), none, .call 30 [(.c .nils), (.t 7), (.c (.int .i64 1)), (.t 8), (.t 9)]⟩,
    ⟨(some 6), none, .mv (.t 10)⟩])
  .ret)), [.tmp 6]⟩
theorem cF12 : cFn Go.Proofs.Tryd.prog 12 = some F12 := by kernel_rfl
variable {G : Gl}

mutual
def allF (most deepest : Nat) : El → Nat → List (Nat × El) → List (Nat × El)
  | .mk p n t o ks, d, l => bif decide (deepest < d) || decide (most ≤ l.length) then l else allsF most deepest ks (d + 1) (l ++ [(d, .mk p n t o ks)])
def allsF (most deepest : Nat) : List El → Nat → List (Nat × El) → List (Nat × El)
  | [], _, l => l
  | k :: ks, d, l => bif decide (most ≤ l.length) then l else allsF most deepest ks d (allF most deepest k d l)
end

mutual
theorem allF_len (most deepest : Nat) : ∀ (e : El) (d : Nat) (l : List (Nat × El)), l.length ≤ most → (allF most deepest e d l).length ≤ most
  | .mk p n t o ks, d, l, h => by
    rw [allF]
    cases h1 : decide (deepest < d)
    · cases h2 : decide (most ≤ l.length)
      · have := of_decide_eq_false h2
        exact allsF_len most deepest ks _ _ (by simp; omega)
      · exact h
    · exact h
theorem allsF_len (most deepest : Nat) : ∀ (ks : List El) (d : Nat) (l : List (Nat × El)), l.length ≤ most → (allsF most deepest ks d l).length ≤ most
  | [], d, l, h => h
  | k :: ks, d, l, h => by
    rw [allsF]
    cases h2 : decide (most ≤ l.length)
    · exact allsF_len most deepest ks _ _ (allF_len most deepest k d l h)
    · exact h
end

def pairT : TypeId := 39

/-- A row of pairs beside the rest. -/
def LS (H : Hp) (L : List (Nat × El)) (v : DV) (H' : Hp) : Prop :=
  (L = [] ∧ v = .nils ∧ H' = H) ∨ (∃ b, H b = none ∧ v = .lst (pairsC L) L.length 6 (some (b, 0)) ∧ H' = H.upd b (some (.front L.length 6 pairT)))

theorem LS.len {H H' HX : Hp} {L : List (Nat × El)} {v : DV} {fr : Fr} {x : X} (h : LS H L v H') (hx : XV G fr x = v) : evP G fr HX (.len false x) = some (.int .i64 L.length) := by
  rcases h with ⟨rfl, rfl, _⟩ | ⟨b, _, rfl, _⟩ <;> simp [evP, hx, lenD]

theorem LS.look {H H' : Hp} {L : List (Nat × El)} {v : DV} (h : LS H L v H') {k : Nat} {o : DO} (hk : H k = some o) : H' k = some o := by
  rcases h with ⟨_, _, rfl⟩ | ⟨b, hb, _, rfl⟩
  · exact hk
  · rw [Hp.upd_ne (fun e => by subst e; rw [hb] at hk; cases hk)]; exact hk

theorem LS.up {H H' : Hp} {L : List (Nat × El)} {v : DV} (h : LS H L v H') {k : Nat} {o : DO} (hk : H' k = none) : H k = none ∧ LS (H.upd k (some o)) L v (H'.upd k (some o)) := by
  rcases h with ⟨h1, h2, rfl⟩ | ⟨b, hb, h2, rfl⟩
  · exact ⟨hk, .inl ⟨h1, h2, rfl⟩⟩
  · have hne : b ≠ k := fun e => by rw [e, Hp.upd_same] at hk; cases hk
    refine ⟨by rw [Hp.upd_ne (Ne.symm hne)] at hk; exact hk, .inr ⟨b, by rw [Hp.upd_ne hne]; exact hb, h2, Hp.upd_comm hne⟩⟩

theorem LS.down {H H' : Hp} {L : List (Nat × El)} {v : DV} {k : Nat} {o : DO} (h : LS (H.upd k (some o)) L v H') (hk : H k = none) : ∃ H2, LS H L v H2 ∧ SubH H2 H' := by
  rcases h with ⟨h1, h2, rfl⟩ | ⟨b, hb, h2, rfl⟩
  · exact ⟨H, .inl ⟨h1, h2, rfl⟩, SubH.fresh hk⟩
  · have hne : b ≠ k := fun e => by rw [e, Hp.upd_same] at hb; cases hb
    rw [Hp.upd_ne hne] at hb
    refine ⟨H.upd b (some (.front L.length 6 pairT)), .inr ⟨b, hb, h2, rfl⟩, ?_⟩
    rw [Hp.upd_comm (Ne.symm hne)]
    exact SubH.fresh (by rw [Hp.upd_ne (Ne.symm hne)]; exact hk)

/-- One more. -/
theorem LS.app {H HL : Hp} {L : List (Nat × El)} {v : DV} {q : Nat × El} {x y : X} {cs : List DV} {tg : Option (Nat × Nat)} {dst : Option Nat} {N : Nat} {l : List Ins} {Q : EX → Fr → Hp → Prop} {fr : Fr} (h : LS H L v HL) (hx : XV G fr x = v) (hy : XV G fr y = .lst cs 1 6 tg)
    (hcs : cs = .int .i64 (q.1 : Nat) :: elC q.2) (hlen : L.length ≤ 100000) (k : ∀ v' HL', LS H (L ++ [q]) v' HL' → RG Go.Proofs.Tryd.prog G none N l Q (fr.put dst v') HL') : RG Go.Proofs.Tryd.prog G none N (⟨dst, none, .app 39 6 80 x y⟩ :: l) Q fr HL := by
  have hsrc : srcD HL 6 (XV G fr y) = some (cs, 1) := by rw [hy]; rfl
  have hp1 : pairsC [q] = cs := by rw [pairsC, pairsC, hcs, List.append_nil]
  rcases h with ⟨rfl, rfl, rfl⟩ | ⟨b, hb, rfl, rfl⟩
  · refine RG.st (ST.app_new (m := 1) (.inl hx) hsrc (by omega) (by omega) fun b hb => k _ _ (.inr ⟨b, hb, ?_, rfl⟩))
    rw [List.nil_append, hp1]; rfl
  · refine RG.st (ST.app_own (m := 1) hx Hp.upd_same hsrc (by omega) fun b' hb' => ?_)
    have e1 : (H.upd b (some (.front L.length 6 pairT))).upd b none = H := by rw [Hp.upd_upd]; exact Hp.upd_id hb
    rw [e1]
    refine k _ _ (.inr ⟨b', ?_, ?_, ?_⟩)
    · rcases hb' with rfl | hb'
      · exact hb
      · have hne : b' ≠ b := fun e => by rw [e, Hp.upd_same] at hb'; cases hb'
        rw [Hp.upd_ne hne] at hb'; exact hb'
    · rw [pairsC_append, hp1, List.length_append]; rfl
    · rw [List.length_append]; rfl

theorem all_ok (most deepest : Nat) (hm : most ≤ 100000) (hdd : deepest ≤ 100000) : ∀ (m : Nat) (e : El) (d : Nat) (L : List (Nat × El)) (v : DV) (H HL : Hp), fits e → LS H L v HL → L.length ≤ most → deepest + 1 ≤ d + m → d ≤ deepest + 1 →
    CALL Go.Proofs.Tryd.prog G 30 [v, .agg (elC e), .int .i64 d, .int .i64 most, .int .i64 deepest] HL (fun r H' => LS H (allF most deepest e d L) r H') (fun _ _ => False) := by
  intro m
  induction m with
  | zero =>
    intro e d L v H HL hfit hL hl hm hd
    refine CALL.of cF30 (Nat.le_of_ble_eq_true rfl) ?_
    refine AC.seq (AC.reg ?_)
    refine RG.box (by first | exact trivial | exact rfl) rfl rfl fun be hbe => ?_
    (first | refine RG.z0 ?_ | refine RG.z1 ?_ | refine RG.z2 ?_ | refine RG.z3 ?_ | refine RG.z4 ?_ | refine RG.z5 ?_ | refine RG.z6 ?_ | refine RG.z7 ?_ | refine RG.z8 ?_ | refine RG.z9 ?_ | refine RG.zA ?_ | refine RG.zB ?_ | refine RG.zC ?_)
    refine RG.nilS (AC.seq (AC.seq (AC.reg ?_)))
    (first | refine RG.z0 ?_ | refine RG.z1 ?_ | refine RG.z2 ?_ | refine RG.z3 ?_ | refine RG.z4 ?_ | refine RG.z5 ?_ | refine RG.z6 ?_ | refine RG.z7 ?_ | refine RG.z8 ?_ | refine RG.z9 ?_ | refine RG.zA ?_ | refine RG.zB ?_ | refine RG.zC ?_)
    (first | refine RG.z0 ?_ | refine RG.z1 ?_ | refine RG.z2 ?_ | refine RG.z3 ?_ | refine RG.z4 ?_ | refine RG.z5 ?_ | refine RG.z6 ?_ | refine RG.z7 ?_ | refine RG.z8 ?_ | refine RG.z9 ?_ | refine RG.zA ?_ | refine RG.zB ?_ | refine RG.zC ?_)
    have c1 : decide ((d : Int) > deepest) = true := by simp; omega
    refine RG.p (d := .bool true) (by first | exact trivial | exact rfl) (by rw [← c1]; rfl) ?_
    repeat (first | refine RG.z0 ?_ | refine RG.z1 ?_ | refine RG.z2 ?_ | refine RG.z3 ?_ | refine RG.z4 ?_ | refine RG.z5 ?_ | refine RG.z6 ?_ | refine RG.z7 ?_ | refine RG.z8 ?_ | refine RG.z9 ?_ | refine RG.zA ?_ | refine RG.zB ?_ | refine RG.zC ?_)
    refine RG.nilS (AC.cond_t rfl (AC.seq (AC.reg ?_)))
    repeat (first | refine RG.z0 ?_ | refine RG.z1 ?_ | refine RG.z2 ?_ | refine RG.z3 ?_ | refine RG.z4 ?_ | refine RG.z5 ?_ | refine RG.z6 ?_ | refine RG.z7 ?_ | refine RG.z8 ?_ | refine RG.z9 ?_ | refine RG.zA ?_ | refine RG.zB ?_ | refine RG.zC ?_)
    obtain ⟨h1, h2⟩ := hL.up (o := .cells (elC e) 24) hbe
    obtain ⟨H2, k1, k2⟩ := h2.down h1
    have hA : allF most deepest e d L = L := by
      obtain ⟨p, n, t, o, ks⟩ := e
      have : decide (deepest < d) = true := by simp; omega
      rw [allF, this]; rfl
    rw [hA]
    exact RG.nilS (AC.ret (finD (H' := H2) rfl k2 k1))
  | succ m ih =>
    intro e d L v H HL hfit hL hl hm hd
    obtain ⟨p, n, t, o, ks⟩ := e
    obtain ⟨hkl, hks⟩ := hfit
    have he : elC (.mk p n t o ks) = [.int .i64 p, .str n, .str t, .bool o, .lst (elsC ks) ks.length 5 none] := by rw [elC]
    refine CALL.of cF30 (Nat.le_of_ble_eq_true rfl) ?_
    refine AC.seq (AC.reg ?_)
    refine RG.box (ys := elC (.mk p n t o ks)) (by first | exact trivial | exact rfl) rfl rfl fun be hbe => ?_
    (first | refine RG.z0 ?_ | refine RG.z1 ?_ | refine RG.z2 ?_ | refine RG.z3 ?_ | refine RG.z4 ?_ | refine RG.z5 ?_ | refine RG.z6 ?_ | refine RG.z7 ?_ | refine RG.z8 ?_ | refine RG.z9 ?_ | refine RG.zA ?_ | refine RG.zB ?_ | refine RG.zC ?_)
    obtain ⟨g1, g2⟩ := hL.up (o := .cells (elC (.mk p n t o ks)) 24) hbe
    rw [he] at g2 ⊢
    have hHb : (H.upd be (some (.cells [.int .i64 p, .str n, .str t, .bool o, .lst (elsC ks) ks.length 5 none] 24))) be = some (.cells [.int .i64 p, .str n, .str t, .bool o, .lst (elsC ks) ks.length 5 none] 24) := Hp.upd_same
    have fin' : ∀ {R : List (Nat × El)} {v' : DV} {H' : Hp} {fr : Fr}, LS (H.upd be (some (.cells [.int .i64 p, .str n, .str t, .bool o, .lst (elsC ks) ks.length 5 none] 24))) R v' H' → fr 10 = v' → Fin F30.rs (fun r H' => LS H R r H') (fun _ _ => False) .ret fr H' := by
      intro R v' H' fr h hv
      obtain ⟨H2, k1, k2⟩ := h.down g1
      exact finD (H' := H2) rfl k2 (by subst hv; exact k1)
    generalize HL.upd be (some (.cells [.int .i64 p, .str n, .str t, .bool o, .lst (elsC ks) ks.length 5 none] 24)) = HX at g2 ⊢
    generalize hHbe : H.upd be (some (.cells [.int .i64 p, .str n, .str t, .bool o, .lst (elsC ks) ks.length 5 none] 24)) = Hbe at g2 hHb fin' ⊢
    refine RG.nilS (AC.seq (AC.seq (AC.reg ?_)))
    (first | refine RG.z0 ?_ | refine RG.z1 ?_ | refine RG.z2 ?_ | refine RG.z3 ?_ | refine RG.z4 ?_ | refine RG.z5 ?_ | refine RG.z6 ?_ | refine RG.z7 ?_ | refine RG.z8 ?_ | refine RG.z9 ?_ | refine RG.zA ?_ | refine RG.zB ?_ | refine RG.zC ?_)
    (first | refine RG.z0 ?_ | refine RG.z1 ?_ | refine RG.z2 ?_ | refine RG.z3 ?_ | refine RG.z4 ?_ | refine RG.z5 ?_ | refine RG.z6 ?_ | refine RG.z7 ?_ | refine RG.z8 ?_ | refine RG.z9 ?_ | refine RG.zA ?_ | refine RG.zB ?_ | refine RG.zC ?_)
    have hA : allF most deepest (.mk p n t o ks) d L = bif decide (deepest < d) || decide (most ≤ L.length) then L else allsF most deepest ks (d + 1) (L ++ [(d, .mk p n t o ks)]) := by rw [allF]
    refine RG.p (d := .bool (decide (deepest < d))) (by first | exact trivial | exact rfl) (by
      show some (DV.bool (decide ((d : Int) > deepest))) = _
      congr 2
      rw [Bool.eq_iff_iff]; simp) ?_
    cases c1 : decide (deepest < d)
    case true =>
      repeat (first | refine RG.z0 ?_ | refine RG.z1 ?_ | refine RG.z2 ?_ | refine RG.z3 ?_ | refine RG.z4 ?_ | refine RG.z5 ?_ | refine RG.z6 ?_ | refine RG.z7 ?_ | refine RG.z8 ?_ | refine RG.z9 ?_ | refine RG.zA ?_ | refine RG.zB ?_ | refine RG.zC ?_)
      rw [c1, Bool.true_or, cond_true] at hA
      refine RG.nilS (AC.cond_t rfl (AC.seq (AC.reg ?_)))
      repeat (first | refine RG.z0 ?_ | refine RG.z1 ?_ | refine RG.z2 ?_ | refine RG.z3 ?_ | refine RG.z4 ?_ | refine RG.z5 ?_ | refine RG.z6 ?_ | refine RG.z7 ?_ | refine RG.z8 ?_ | refine RG.z9 ?_ | refine RG.zA ?_ | refine RG.zB ?_ | refine RG.zC ?_)
      rw [hA]
      exact RG.nilS (AC.ret (fin' g2 rfl))
    rw [c1, Bool.false_or] at hA
    have hdl := of_decide_eq_false c1
    (first | refine RG.z0 ?_ | refine RG.z1 ?_ | refine RG.z2 ?_ | refine RG.z3 ?_ | refine RG.z4 ?_ | refine RG.z5 ?_ | refine RG.z6 ?_ | refine RG.z7 ?_ | refine RG.z8 ?_ | refine RG.z9 ?_ | refine RG.zA ?_ | refine RG.zB ?_ | refine RG.zC ?_)
    (first | refine RG.z0 ?_ | refine RG.z1 ?_ | refine RG.z2 ?_ | refine RG.z3 ?_ | refine RG.z4 ?_ | refine RG.z5 ?_ | refine RG.z6 ?_ | refine RG.z7 ?_ | refine RG.z8 ?_ | refine RG.z9 ?_ | refine RG.zA ?_ | refine RG.zB ?_ | refine RG.zC ?_)
    refine RG.p (d := .int .i64 L.length) rfl (g2.len rfl) ?_
    (first | refine RG.z0 ?_ | refine RG.z1 ?_ | refine RG.z2 ?_ | refine RG.z3 ?_ | refine RG.z4 ?_ | refine RG.z5 ?_ | refine RG.z6 ?_ | refine RG.z7 ?_ | refine RG.z8 ?_ | refine RG.z9 ?_ | refine RG.zA ?_ | refine RG.zB ?_ | refine RG.zC ?_)
    refine RG.p (d := .bool (decide (most ≤ L.length))) rfl (by
      show some (DV.bool (decide ((L.length : Int) ≥ most))) = _
      congr 2
      rw [Bool.eq_iff_iff]; simp) ?_
    cases c2 : decide (most ≤ L.length)
    case true =>
      repeat (first | refine RG.z0 ?_ | refine RG.z1 ?_ | refine RG.z2 ?_ | refine RG.z3 ?_ | refine RG.z4 ?_ | refine RG.z5 ?_ | refine RG.z6 ?_ | refine RG.z7 ?_ | refine RG.z8 ?_ | refine RG.z9 ?_ | refine RG.zA ?_ | refine RG.zB ?_ | refine RG.zC ?_)
      rw [c2, cond_true] at hA
      refine RG.nilS (AC.cond_t rfl (AC.seq (AC.reg ?_)))
      repeat (first | refine RG.z0 ?_ | refine RG.z1 ?_ | refine RG.z2 ?_ | refine RG.z3 ?_ | refine RG.z4 ?_ | refine RG.z5 ?_ | refine RG.z6 ?_ | refine RG.z7 ?_ | refine RG.z8 ?_ | refine RG.z9 ?_ | refine RG.zA ?_ | refine RG.zB ?_ | refine RG.zC ?_)
      rw [hA]
      exact RG.nilS (AC.ret (fin' g2 rfl))
    rw [c2, cond_false] at hA
    have hll := of_decide_eq_false c2
    repeat (first | refine RG.z0 ?_ | refine RG.z1 ?_ | refine RG.z2 ?_ | refine RG.z3 ?_ | refine RG.z4 ?_ | refine RG.z5 ?_ | refine RG.z6 ?_ | refine RG.z7 ?_ | refine RG.z8 ?_ | refine RG.z9 ?_ | refine RG.zA ?_ | refine RG.zB ?_ | refine RG.zC ?_)
    refine RG.nilS (AC.cond_f rfl (AC.skip (AC.seq (AC.reg ?_))))
    (first | refine RG.z0 ?_ | refine RG.z1 ?_ | refine RG.z2 ?_ | refine RG.z3 ?_ | refine RG.z4 ?_ | refine RG.z5 ?_ | refine RG.z6 ?_ | refine RG.z7 ?_ | refine RG.z8 ?_ | refine RG.z9 ?_ | refine RG.zA ?_ | refine RG.zB ?_ | refine RG.zC ?_)
    (first | refine RG.z0 ?_ | refine RG.z1 ?_ | refine RG.z2 ?_ | refine RG.z3 ?_ | refine RG.z4 ?_ | refine RG.z5 ?_ | refine RG.z6 ?_ | refine RG.z7 ?_ | refine RG.z8 ?_ | refine RG.z9 ?_ | refine RG.zA ?_ | refine RG.zB ?_ | refine RG.zC ?_)
    refine RG.ld (by first | exact trivial | exact rfl) (by conv => lhs; whnf) (g2.look hHb) (d := .agg (elC (.mk p n t o ks))) (by rw [he]; rfl) ?_
    rw [he]
    (first | refine RG.z0 ?_ | refine RG.z1 ?_ | refine RG.z2 ?_ | refine RG.z3 ?_ | refine RG.z4 ?_ | refine RG.z5 ?_ | refine RG.z6 ?_ | refine RG.z7 ?_ | refine RG.z8 ?_ | refine RG.z9 ?_ | refine RG.zA ?_ | refine RG.zB ?_ | refine RG.zC ?_)
    refine RG.st (ST.bsl (cs := [.int .i64 (d : Nat), .int .i64 p, .str n, .str t, .bool o, .lst (elsC ks) ks.length 5 none]) rfl fun g hg => RG.drop (SubH.fresh hg) ?_)
    refine g2.app (q := (d, .mk p n t o ks)) rfl rfl (by rw [he]) (by omega) fun v1 H1 hL1 => ?_
    (first | refine RG.z0 ?_ | refine RG.z1 ?_ | refine RG.z2 ?_ | refine RG.z3 ?_ | refine RG.z4 ?_ | refine RG.z5 ?_ | refine RG.z6 ?_ | refine RG.z7 ?_ | refine RG.z8 ?_ | refine RG.z9 ?_ | refine RG.zA ?_ | refine RG.zB ?_ | refine RG.zC ?_)
    refine RG.nilS (AC.seq (AC.seq (AC.reg ?_)))
    (first | refine RG.z0 ?_ | refine RG.z1 ?_ | refine RG.z2 ?_ | refine RG.z3 ?_ | refine RG.z4 ?_ | refine RG.z5 ?_ | refine RG.z6 ?_ | refine RG.z7 ?_ | refine RG.z8 ?_ | refine RG.z9 ?_ | refine RG.zA ?_ | refine RG.zB ?_ | refine RG.zC ?_)
    refine RG.nilS ?_
    refine AC.bloopH (α := Nat × List (Nat × El) × DV) (β := DV) (fun a => ks.length - a.1) (fun a => [(0, a.2.2), (2, .int .i64 d), (3, .int .i64 most), (4, .int .i64 deepest), (6, .ptr be 0), (11, .int .i64 a.1)])
      (fun a H' => a.1 ≤ ks.length ∧ LS Hbe a.2.1 a.2.2 H' ∧ a.2.1.length ≤ most ∧ allsF most deepest (ks.drop a.1) (d + 1) a.2.1 = allsF most deepest ks (d + 1) (L ++ [(d, .mk p n t o ks)]))
      (fun v => [(0, v)]) (fun v H' => LS Hbe (allsF most deepest ks (d + 1) (L ++ [(d, .mk p n t o ks)])) v H') ?_ ?_ (0, L ++ [(d, .mk p n t o ks)], v1) _ ⟨Nat.zero_le _, hL1, by simp; omega, rfl⟩ ⟨rfl, rfl, rfl, rfl, rfl, rfl, trivial⟩
    · intro v2 He fr h1 hfr
      refine AC.to _ hfr (AC.seq (AC.reg ?_))
      repeat (first | refine RG.z0 ?_ | refine RG.z1 ?_ | refine RG.z2 ?_ | refine RG.z3 ?_ | refine RG.z4 ?_ | refine RG.z5 ?_ | refine RG.z6 ?_ | refine RG.z7 ?_ | refine RG.z8 ?_ | refine RG.z9 ?_ | refine RG.zA ?_ | refine RG.zB ?_ | refine RG.zC ?_)
      rw [hA]
      exact RG.nilS (AC.ret (fin' h1 rfl))
    · rintro ⟨i, L2, v2⟩ H' ⟨h1, h2, h3, h4⟩ ih2 ex
      dsimp only at h1 h2 h3 h4 ⊢
      refine AC.seq (AC.seq (AC.reg ?_))
      (first | refine RG.z0 ?_ | refine RG.z1 ?_ | refine RG.z2 ?_ | refine RG.z3 ?_ | refine RG.z4 ?_ | refine RG.z5 ?_ | refine RG.z6 ?_ | refine RG.z7 ?_ | refine RG.z8 ?_ | refine RG.z9 ?_ | refine RG.zA ?_ | refine RG.zB ?_ | refine RG.zC ?_)
      (first | refine RG.z0 ?_ | refine RG.z1 ?_ | refine RG.z2 ?_ | refine RG.z3 ?_ | refine RG.z4 ?_ | refine RG.z5 ?_ | refine RG.z6 ?_ | refine RG.z7 ?_ | refine RG.z8 ?_ | refine RG.z9 ?_ | refine RG.zA ?_ | refine RG.zB ?_ | refine RG.zC ?_)
      refine RG.ld (by first | exact trivial | exact rfl) (by conv => lhs; whnf) (h2.look hHb) (d := .lst (elsC ks) ks.length 5 none) rfl ?_
      (first | refine RG.z0 ?_ | refine RG.z1 ?_ | refine RG.z2 ?_ | refine RG.z3 ?_ | refine RG.z4 ?_ | refine RG.z5 ?_ | refine RG.z6 ?_ | refine RG.z7 ?_ | refine RG.z8 ?_ | refine RG.z9 ?_ | refine RG.zA ?_ | refine RG.zB ?_ | refine RG.zC ?_)
      (first | refine RG.z0 ?_ | refine RG.z1 ?_ | refine RG.z2 ?_ | refine RG.z3 ?_ | refine RG.z4 ?_ | refine RG.z5 ?_ | refine RG.z6 ?_ | refine RG.z7 ?_ | refine RG.z8 ?_ | refine RG.z9 ?_ | refine RG.zA ?_ | refine RG.zB ?_ | refine RG.zC ?_)
      (first | refine RG.z0 ?_ | refine RG.z1 ?_ | refine RG.z2 ?_ | refine RG.z3 ?_ | refine RG.z4 ?_ | refine RG.z5 ?_ | refine RG.z6 ?_ | refine RG.z7 ?_ | refine RG.z8 ?_ | refine RG.z9 ?_ | refine RG.zA ?_ | refine RG.zB ?_ | refine RG.zC ?_)
      have hex : (ks.length ≤ i ∨ most ≤ L2.length) → allsF most deepest ks (d + 1) (L ++ [(d, .mk p n t o ks)]) = L2 := by
        rintro (h | h)
        · rw [← h4, List.drop_eq_nil_of_le h, allsF]
        · rw [← h4]
          cases ks.drop i with
          | nil => rw [allsF]
          | cons k r => rw [allsF]; simp [h]
      cases c3 : decide ((i : Int) < ks.length)
      · have e := of_decide_eq_false c3
        repeat (first | refine RG.z0 ?_ | refine RG.z1 ?_ | refine RG.z2 ?_ | refine RG.z3 ?_ | refine RG.z4 ?_ | refine RG.z5 ?_ | refine RG.z6 ?_ | refine RG.z7 ?_ | refine RG.z8 ?_ | refine RG.z9 ?_ | refine RG.zA ?_ | refine RG.zB ?_ | refine RG.zC ?_)
        refine RG.nilS (AC.cond_f rfl (AC.exit (ex v2 _ _ (by rw [hex (.inl (by omega))]; exact h2) ⟨rfl, trivial⟩)))
      have hi' := of_decide_eq_true c3
      have hi : i < ks.length := by omega
      (first | refine RG.z0 ?_ | refine RG.z1 ?_ | refine RG.z2 ?_ | refine RG.z3 ?_ | refine RG.z4 ?_ | refine RG.z5 ?_ | refine RG.z6 ?_ | refine RG.z7 ?_ | refine RG.z8 ?_ | refine RG.z9 ?_ | refine RG.zA ?_ | refine RG.zB ?_ | refine RG.zC ?_)
      refine RG.p (d := .int .i64 L2.length) rfl (h2.len rfl) ?_
      (first | refine RG.z0 ?_ | refine RG.z1 ?_ | refine RG.z2 ?_ | refine RG.z3 ?_ | refine RG.z4 ?_ | refine RG.z5 ?_ | refine RG.z6 ?_ | refine RG.z7 ?_ | refine RG.z8 ?_ | refine RG.z9 ?_ | refine RG.zA ?_ | refine RG.zB ?_ | refine RG.zC ?_)
      refine RG.p (d := .bool (decide (L2.length < most))) rfl (by
        show some (DV.bool (decide ((L2.length : Int) < most))) = _
        congr 2
        rw [Bool.eq_iff_iff]; simp) ?_
      cases c4 : decide (L2.length < most)
      · have e := of_decide_eq_false c4
        repeat (first | refine RG.z0 ?_ | refine RG.z1 ?_ | refine RG.z2 ?_ | refine RG.z3 ?_ | refine RG.z4 ?_ | refine RG.z5 ?_ | refine RG.z6 ?_ | refine RG.z7 ?_ | refine RG.z8 ?_ | refine RG.z9 ?_ | refine RG.zA ?_ | refine RG.zB ?_ | refine RG.zC ?_)
        refine RG.nilS (AC.cond_f rfl (AC.exit (ex v2 _ _ (by rw [hex (.inr (by omega))]; exact h2) ⟨rfl, trivial⟩)))
      have hlt := of_decide_eq_true c4
      repeat (first | refine RG.z0 ?_ | refine RG.z1 ?_ | refine RG.z2 ?_ | refine RG.z3 ?_ | refine RG.z4 ?_ | refine RG.z5 ?_ | refine RG.z6 ?_ | refine RG.z7 ?_ | refine RG.z8 ?_ | refine RG.z9 ?_ | refine RG.zA ?_ | refine RG.zB ?_ | refine RG.zC ?_)
      refine RG.nilS (AC.cond_t rfl (AC.skip (AC.seq (AC.block (AC.reg ?_)))))
      obtain ⟨p', n', t', o', ks', hx⟩ : ∃ p' n' t' o' ks', ks[i] = .mk p' n' t' o' ks' := ⟨_, _, _, _, _, (El.eta ks[i]).symm⟩
      have hrow : ((elsC ks).drop (i * 5)).take 5 = elC ks[i] := elsC_at ks i _ (List.getElem?_eq_getElem hi)
      have hrow' : partD true 0 5 ((elsC ks).drop (((i : Nat) : Int).toNat * 5)) = some (.agg (elC ks[i])) := partD_row (i := i) (sz := 5) hrow (by rw [elsC_length]; omega)
      (first | refine RG.z0 ?_ | refine RG.z1 ?_ | refine RG.z2 ?_ | refine RG.z3 ?_ | refine RG.z4 ?_ | refine RG.z5 ?_ | refine RG.z6 ?_ | refine RG.z7 ?_ | refine RG.z8 ?_ | refine RG.z9 ?_ | refine RG.zA ?_ | refine RG.zB ?_ | refine RG.zC ?_)
      (first | refine RG.z0 ?_ | refine RG.z1 ?_ | refine RG.z2 ?_ | refine RG.z3 ?_ | refine RG.z4 ?_ | refine RG.z5 ?_ | refine RG.z6 ?_ | refine RG.z7 ?_ | refine RG.z8 ?_ | refine RG.z9 ?_ | refine RG.zA ?_ | refine RG.zB ?_ | refine RG.zC ?_)
      refine RG.ld (by first | exact trivial | exact rfl) (by conv => lhs; whnf) (h2.look hHb) (d := .lst (elsC ks) ks.length 5 none) rfl ?_
      (first | refine RG.z0 ?_ | refine RG.z1 ?_ | refine RG.z2 ?_ | refine RG.z3 ?_ | refine RG.z4 ?_ | refine RG.z5 ?_ | refine RG.z6 ?_ | refine RG.z7 ?_ | refine RG.z8 ?_ | refine RG.z9 ?_ | refine RG.zA ?_ | refine RG.zB ?_ | refine RG.zC ?_)
      refine RG.p (by first | exact trivial | exact rfl) (evP_iadr (by conv => lhs; whnf) (by conv => lhs; whnf) (by omega)) ?_
      refine RG.p (by first | exact trivial | exact rfl) (evP_ldc (by conv => lhs; whnf) hrow') ?_
      (first | refine RG.z0 ?_ | refine RG.z1 ?_ | refine RG.z2 ?_ | refine RG.z3 ?_ | refine RG.z4 ?_ | refine RG.z5 ?_ | refine RG.z6 ?_ | refine RG.z7 ?_ | refine RG.z8 ?_ | refine RG.z9 ?_ | refine RG.zA ?_ | refine RG.zB ?_ | refine RG.zC ?_)
      (first | refine RG.z0 ?_ | refine RG.z1 ?_ | refine RG.z2 ?_ | refine RG.z3 ?_ | refine RG.z4 ?_ | refine RG.z5 ?_ | refine RG.z6 ?_ | refine RG.z7 ?_ | refine RG.z8 ?_ | refine RG.z9 ?_ | refine RG.zA ?_ | refine RG.zB ?_ | refine RG.zC ?_)
      (first | refine RG.z0 ?_ | refine RG.z1 ?_ | refine RG.z2 ?_ | refine RG.z3 ?_ | refine RG.z4 ?_ | refine RG.z5 ?_ | refine RG.z6 ?_ | refine RG.z7 ?_ | refine RG.z8 ?_ | refine RG.z9 ?_ | refine RG.zA ?_ | refine RG.zB ?_ | refine RG.zC ?_)
      (first | refine RG.z0 ?_ | refine RG.z1 ?_ | refine RG.z2 ?_ | refine RG.z3 ?_ | refine RG.z4 ?_ | refine RG.z5 ?_ | refine RG.z6 ?_ | refine RG.z7 ?_ | refine RG.z8 ?_ | refine RG.z9 ?_ | refine RG.zA ?_ | refine RG.zB ?_ | refine RG.zC ?_)
      refine RG.call (by first | exact trivial | exact rfl) rfl (ih ks[i] (d + 1) L2 v2 Hbe H' (fitss_mem ks hks _ (List.getElem_mem hi)) h2 h3 (by omega) (by omega)) (fun v3 H3 hL3 => ?_) (fun _ _ h => h.elim)
      (first | refine RG.z0 ?_ | refine RG.z1 ?_ | refine RG.z2 ?_ | refine RG.z3 ?_ | refine RG.z4 ?_ | refine RG.z5 ?_ | refine RG.z6 ?_ | refine RG.z7 ?_ | refine RG.z8 ?_ | refine RG.z9 ?_ | refine RG.zA ?_ | refine RG.zB ?_ | refine RG.zC ?_)
      refine RG.nil ?_
      refine AC.reg ?_
      (first | refine RG.z0 ?_ | refine RG.z1 ?_ | refine RG.z2 ?_ | refine RG.z3 ?_ | refine RG.z4 ?_ | refine RG.z5 ?_ | refine RG.z6 ?_ | refine RG.z7 ?_ | refine RG.z8 ?_ | refine RG.z9 ?_ | refine RG.zA ?_ | refine RG.zB ?_ | refine RG.zC ?_)
      (first | refine RG.z0 ?_ | refine RG.z1 ?_ | refine RG.z2 ?_ | refine RG.z3 ?_ | refine RG.z4 ?_ | refine RG.z5 ?_ | refine RG.z6 ?_ | refine RG.z7 ?_ | refine RG.z8 ?_ | refine RG.z9 ?_ | refine RG.zA ?_ | refine RG.zB ?_ | refine RG.zC ?_)
      (first | refine RG.z0 ?_ | refine RG.z1 ?_ | refine RG.z2 ?_ | refine RG.z3 ?_ | refine RG.z4 ?_ | refine RG.z5 ?_ | refine RG.z6 ?_ | refine RG.z7 ?_ | refine RG.z8 ?_ | refine RG.z9 ?_ | refine RG.zA ?_ | refine RG.zB ?_ | refine RG.zC ?_)
      refine RG.nil (ih2 (i + 1, allF most deepest ks[i] (d + 1) L2, v3) _ ⟨by dsimp only; omega, hL3, allF_len _ _ _ _ _ h3, ?_⟩ (by dsimp only; omega) _ ⟨rfl, rfl, rfl, rfl, rfl, rfl, trivial⟩)
      dsimp only
      rw [← h4, List.drop_eq_getElem_cons hi, allsF]
      have : decide (most ≤ L2.length) = false := by simp; omega
      rw [this, cond_false]
end Go.Run.Tryd
/- All, Great, Same. -/
namespace Go.Run.Tryd
open Go Go.Run Go.RowKit
/-! cardcase/cardcaselaw13.Great -/
def F6 : FN := ⟨64, (.seq (.reg [⟨(some 1), none, .box 24 (.t 0)⟩,
    ⟨(some 2), none, .mv (.c (.bool false))⟩])
  (.seq (.reg [⟨(some 6), none, .ld true 5 (.t 1)⟩,
    ⟨(some 7), none, .call 12 [(.t 6), (.c (.int .i64 3000)), (.c (.int .i64 60))]⟩,
    ⟨(some 3), none, .mv (.t 7)⟩])
  (.seq (.reg [⟨(some 4), none, .mv (.c (.int .i64 0))⟩])
  (.seq (.seq (.reg [⟨(some 5), none, .mv (.c (.int .i64 0))⟩])
  (.block 0 (.loop (.seq (.seq (.reg [⟨(some 8), none, .mv (.t 5)⟩,
    ⟨(some 9), none, .mv (.t 3)⟩,
    ⟨(some 10), none, .len false (.t 9)⟩,
    ⟨(some 11), none, .bin .lss (.t 8) (.t 10)⟩])
  (.cond (.t 11) .skip
  (.exit 0)))
  (.seq (.block 1 (.seq (.draw [⟨(some 14), none, .mv (.t 4)⟩,
    ⟨(some 15), none, .mv (.t 3)⟩,
    ⟨(some 16), none, .mv (.t 5)⟩,
    ⟨(some 17), none, .iadr 6 (.t 15) (.t 16)⟩,
    ⟨(some 18), none, .fadr 1 (.t 17)⟩,
    ⟨(some 19), none, .fadr 2 (.t 18)⟩,
    ⟨(some 20), none, .ld false 1 (.t 19)⟩,
    ⟨(some 21), none, .len true (.t 20)⟩,
    ⟨(some 22), none, .bin .add (.t 14) (.t 21)⟩,
    ⟨(some 23), none, .mv (.t 3)⟩,
    ⟨(some 24), none, .mv (.t 5)⟩,
    ⟨(some 25), none, .iadr 6 (.t 23) (.t 24)⟩,
    ⟨(some 26), none, .fadr 1 (.t 25)⟩,
    ⟨(some 27), none, .fadr 1 (.t 26)⟩,
    ⟨(some 28), none, .ld false 1 (.t 27)⟩,
    ⟨(some 29), none, .len true (.t 28)⟩,
    ⟨(some 30), none, .bin .add (.t 22) (.t 29)⟩,
    ⟨(some 4), none, .mv (.t 30)⟩] [[], [], [], [1, 2], [3], [4], [5], [6], [0, 7], [], [], [9, 10], [11], [12], [13], [14], [8, 15], [16, 0, 1, 2, 3, 4, 5, 6, 7, 8, 9, 10, 11, 12, 13, 14, 15, 16]])
  (.seq (.reg [⟨(some 31), none, .mv (.t 4)⟩,
    ⟨(some 32), none, .bin .gtr (.t 31) (.c (.int .i64 30000))⟩,
    ⟨(some 33), none, .mv (.t 32)⟩,
    ⟨(some 34), some (33, false), .mv (.t 3)⟩,
    ⟨(some 35), some (33, false), .mv (.t 5)⟩,
    ⟨(some 36), some (33, false), .iadr 6 (.t 34) (.t 35)⟩,
    ⟨(some 37), some (33, false), .fadr 1 (.t 36)⟩,
    ⟨(some 38), some (33, false), .fadr 2 (.t 37)⟩,
    ⟨(some 39), some (33, false), .ld false 1 (.t 38)⟩,
    ⟨(some 40), some (33, false), .len true (.t 39)⟩,
    ⟨(some 41), some (33, false), .bin .gtr (.t 40) (.c (.int .i64 10000))⟩,
    ⟨(some 42), none, .pick (.t 33) (.c (.bool true)) (.t 41)⟩,
    ⟨(some 43), none, .mv (.t 42)⟩,
    ⟨(some 44), some (43, false), .mv (.t 3)⟩,
    ⟨(some 45), some (43, false), .mv (.t 5)⟩,
    ⟨(some 46), some (43, false), .iadr 6 (.t 44) (.t 45)⟩,
    ⟨(some 47), some (43, false), .fadr 1 (.t 46)⟩,
    ⟨(some 48), some (43, false), .fadr 1 (.t 47)⟩,
    ⟨(some 49), some (43, false), .ld false 1 (.t 48)⟩,
    ⟨(some 50), some (43, false), .len true (.t 49)⟩,
    ⟨(some 51), some (43, false), .bin .gtr (.t 50) (.c (.int .i64 10000))⟩,
    ⟨(some 52), none, .pick (.t 43) (.c (.bool true)) (.t 51)⟩,
    ⟨(some 53), none, .mv (.t 52)⟩,
    ⟨(some 54), some (53, false), .mv (.t 3)⟩,
    ⟨(some 55), some (53, false), .mv (.t 5)⟩,
    ⟨(some 56), some (53, false), .iadr 6 (.t 54) (.t 55)⟩,
    ⟨(some 57), some (53, false), .fadr 0 (.t 56)⟩,
    ⟨(some 58), some (53, false), .ld false 1 (.t 57)⟩,
    ⟨(some 59), some (53, false), .bin .gtr (.t 58) (.c (.int .i64 50))⟩,
    ⟨(some 60), none, .pick (.t 53) (.c (.bool true)) (.t 59)⟩])
  (.cond (.t 60) (.seq (.reg [⟨(some 2), none, .mv (.c (.bool true))⟩])
  .ret)
  .skip))))
  (.reg [⟨(some 12), none, .mv (.t 5)⟩,
    ⟨(some 13), none, .bin .add (.t 12) (.c (.int .i64 1))⟩,
    ⟨(some 5), none, .mv (.t 13)⟩]))))))
  (.seq (.reg [⟨(some 61), none, .mv (.t 3)⟩,
    ⟨(some 62), none, .len false (.t 61)⟩,
    ⟨(some 63), none, .bin .geq (.t 62) (.c (.int .i64 3000))⟩,
    ⟨(some 2), none, .mv (.t 63)⟩])
  .ret))))), [.tmp 2]⟩
theorem cF6 : cFn Go.Proofs.Tryd.prog 6 = some F6 := by kernel_rfl
variable {G : Gl}

def LV (L : List (Nat × El)) (v : DV) : Prop := (L = [] ∧ v = .nils) ∨ (∃ tg, v = .lst (pairsC L) L.length 6 tg)

theorem LV.len {HX : Hp} {L : List (Nat × El)} {v : DV} {fr : Fr} {x : X} (h : LV L v) (hx : XV G fr x = v) : evP G fr HX (.len false x) = some (.int .i64 L.length) := by
  rcases h with ⟨rfl, rfl⟩ | ⟨b, rfl⟩ <;> simp [evP, hx, lenD]

theorem All_ok (e : El) (hfit : fits e) (most deepest : Nat) (hm : most ≤ 100000) (hdd : deepest ≤ 100000) (H : Hp) :
    CALL Go.Proofs.Tryd.prog G 12 [.agg (elC e), .int .i64 most, .int .i64 deepest] H (fun r H' => LV (allF most deepest e 1 []) r ∧ H' = H) (fun _ _ => False) := by
  refine CALL.of cF12 (Nat.le_of_ble_eq_true rfl) ?_
  refine AC.seq (AC.reg ?_)
  refine RG.box (ys := elC e) (by first | exact trivial | exact rfl) rfl rfl fun be hbe => ?_
  (first | refine RG.z0 ?_ | refine RG.z1 ?_ | refine RG.z2 ?_ | refine RG.z3 ?_ | refine RG.z4 ?_ | refine RG.z5 ?_ | refine RG.z6 ?_ | refine RG.z7 ?_ | refine RG.z8 ?_ | refine RG.z9 ?_ | refine RG.zA ?_ | refine RG.zB ?_ | refine RG.zC ?_)
  refine RG.nilS (AC.seq (AC.reg ?_))
  refine RG.ld (by first | exact trivial | exact rfl) (by conv => lhs; whnf) Hp.upd_same (d := .agg (elC e)) (ldEl e) ?_
  (first | refine RG.z0 ?_ | refine RG.z1 ?_ | refine RG.z2 ?_ | refine RG.z3 ?_ | refine RG.z4 ?_ | refine RG.z5 ?_ | refine RG.z6 ?_ | refine RG.z7 ?_ | refine RG.z8 ?_ | refine RG.z9 ?_ | refine RG.zA ?_ | refine RG.zB ?_ | refine RG.zC ?_)
  (first | refine RG.z0 ?_ | refine RG.z1 ?_ | refine RG.z2 ?_ | refine RG.z3 ?_ | refine RG.z4 ?_ | refine RG.z5 ?_ | refine RG.z6 ?_ | refine RG.z7 ?_ | refine RG.z8 ?_ | refine RG.z9 ?_ | refine RG.zA ?_ | refine RG.zB ?_ | refine RG.zC ?_)
  refine RG.call (by first | exact trivial | exact rfl) rfl (all_ok most deepest hm hdd (deepest + 1) e 1 [] .nils _ _ hfit (.inl ⟨rfl, rfl, rfl⟩) (by simp) (by omega) (by omega)) (fun r H' hL => ?_) (fun _ _ h => h.elim)
  (first | refine RG.z0 ?_ | refine RG.z1 ?_ | refine RG.z2 ?_ | refine RG.z3 ?_ | refine RG.z4 ?_ | refine RG.z5 ?_ | refine RG.z6 ?_ | refine RG.z7 ?_ | refine RG.z8 ?_ | refine RG.z9 ?_ | refine RG.zA ?_ | refine RG.zB ?_ | refine RG.zC ?_)
  refine RG.nilS (AC.ret (finD (H' := H) rfl ?_ ⟨?_, rfl⟩))
  · intro k o hk
    refine hL.look ?_
    rw [Hp.upd_ne (fun e => by subst e; rw [hbe] at hk; cases hk)]; exact hk
  · rcases hL with ⟨h1, h2, _⟩ | ⟨b, _, h2, _⟩
    · exact .inl ⟨h1, h2⟩
    · exact .inr ⟨_, h2⟩

theorem pairsC_drop : ∀ (L : List (Nat × El)) (i : Nat), (pairsC L).drop (i * 6) = pairsC (L.drop i)
  | [], i => by simp [pairsC]
  | q :: l, 0 => by simp
  | q :: l, i + 1 => by
    have h6 : (DV.int .i64 (q.1 : Nat) :: elC q.2).length = 6 := by simp [elC_length]
    have e : (i + 1) * 6 = (DV.int .i64 (q.1 : Nat) :: elC q.2).length + i * 6 := by rw [h6]; omega
    rw [pairsC, e, ← List.drop_drop, List.drop_left, List.drop_succ_cons]
    exact pairsC_drop l i

theorem evP_addW {fr : Fr} {H : Hp} {x y : X} {a b : Int} (hx : XV G fr x = .int .i64 a) (hy : XV G fr y = .int .i64 b) : evP G fr H (.bin .add x y) = some (.int .i64 (IntKind.wrap .i64 (a + b))) := by
  simp only [evP, hx, hy, binD, binI, if_true]

theorem Great_ok (e : El) (hfit : fits e) (H : Hp) : CALL Go.Proofs.Tryd.prog G 6 [.agg (elC e)] H (fun r H' => (∃ b, r = .bool b) ∧ H' = H) (fun _ _ => False) := by
  refine CALL.of cF6 (Nat.le_of_ble_eq_true rfl) ?_
  refine AC.seq (AC.reg ?_)
  refine RG.box (ys := elC e) (by first | exact trivial | exact rfl) rfl rfl fun be hbe => ?_
  (first | refine RG.z0 ?_ | refine RG.z1 ?_ | refine RG.z2 ?_ | refine RG.z3 ?_ | refine RG.z4 ?_ | refine RG.z5 ?_ | refine RG.z6 ?_ | refine RG.z7 ?_ | refine RG.z8 ?_ | refine RG.z9 ?_ | refine RG.zA ?_ | refine RG.zB ?_ | refine RG.zC ?_)
  refine RG.nilS (AC.seq (AC.reg ?_))
  refine RG.ld (by first | exact trivial | exact rfl) (by conv => lhs; whnf) Hp.upd_same (d := .agg (elC e)) (ldEl e) ?_
  refine RG.call (by first | exact trivial | exact rfl) rfl (All_ok e hfit 3000 60 (by omega) (by omega) _) (fun v H' ⟨hL, hH⟩ => ?_) (fun _ _ h => h.elim)
  subst hH
  have hlen := allF_len 3000 60 e 1 [] (by simp)
  generalize allF 3000 60 e 1 [] = L at hL hlen
  refine RG.drop (SubH.fresh hbe) ?_
  (first | refine RG.z0 ?_ | refine RG.z1 ?_ | refine RG.z2 ?_ | refine RG.z3 ?_ | refine RG.z4 ?_ | refine RG.z5 ?_ | refine RG.z6 ?_ | refine RG.z7 ?_ | refine RG.z8 ?_ | refine RG.z9 ?_ | refine RG.zA ?_ | refine RG.zB ?_ | refine RG.zC ?_)
  refine RG.nilS (AC.seq (AC.reg ?_))
  (first | refine RG.z0 ?_ | refine RG.z1 ?_ | refine RG.z2 ?_ | refine RG.z3 ?_ | refine RG.z4 ?_ | refine RG.z5 ?_ | refine RG.z6 ?_ | refine RG.z7 ?_ | refine RG.z8 ?_ | refine RG.z9 ?_ | refine RG.zA ?_ | refine RG.zB ?_ | refine RG.zC ?_)
  refine RG.nilS (AC.seq (AC.seq (AC.reg ?_)))
  (first | refine RG.z0 ?_ | refine RG.z1 ?_ | refine RG.z2 ?_ | refine RG.z3 ?_ | refine RG.z4 ?_ | refine RG.z5 ?_ | refine RG.z6 ?_ | refine RG.z7 ?_ | refine RG.z8 ?_ | refine RG.z9 ?_ | refine RG.zA ?_ | refine RG.zB ?_ | refine RG.zC ?_)
  refine RG.nilS ?_
  refine AC.bloopH (α := Nat × Int) (β := Unit) (fun a => L.length - a.1) (fun a => [(3, v), (4, .int .i64 a.2), (5, .int .i64 a.1)])
      (fun a H' => a.1 ≤ L.length ∧ H' = H) (fun _ => [(3, v)]) (fun _ H' => H' = H) ?_ ?_ (0, 0) _ ⟨Nat.zero_le _, rfl⟩ ⟨rfl, rfl, rfl, trivial⟩
  · intro _ He fr h1 hfr
    subst h1
    refine AC.to _ hfr (AC.seq (AC.reg ?_))
    (first | refine RG.z0 ?_ | refine RG.z1 ?_ | refine RG.z2 ?_ | refine RG.z3 ?_ | refine RG.z4 ?_ | refine RG.z5 ?_ | refine RG.z6 ?_ | refine RG.z7 ?_ | refine RG.z8 ?_ | refine RG.z9 ?_ | refine RG.zA ?_ | refine RG.zB ?_ | refine RG.zC ?_)
    refine RG.p (d := .int .i64 L.length) (by first | exact trivial | exact rfl) (hL.len rfl) ?_
    refine RG.p (d := .bool (decide ((L.length : Int) ≥ 3000))) (by first | exact trivial | exact rfl) rfl ?_
    (first | refine RG.z0 ?_ | refine RG.z1 ?_ | refine RG.z2 ?_ | refine RG.z3 ?_ | refine RG.z4 ?_ | refine RG.z5 ?_ | refine RG.z6 ?_ | refine RG.z7 ?_ | refine RG.z8 ?_ | refine RG.z9 ?_ | refine RG.zA ?_ | refine RG.zB ?_ | refine RG.zC ?_)
    exact RG.nilS (AC.ret (fin rfl ⟨⟨_, rfl⟩, rfl⟩))
  · rintro ⟨i, n⟩ H' ⟨h1, h2⟩ ih ex
    subst h2
    dsimp only at h1 ⊢
    refine AC.seq (AC.seq (AC.reg ?_))
    (first | refine RG.z0 ?_ | refine RG.z1 ?_ | refine RG.z2 ?_ | refine RG.z3 ?_ | refine RG.z4 ?_ | refine RG.z5 ?_ | refine RG.z6 ?_ | refine RG.z7 ?_ | refine RG.z8 ?_ | refine RG.z9 ?_ | refine RG.zA ?_ | refine RG.zB ?_ | refine RG.zC ?_)
    (first | refine RG.z0 ?_ | refine RG.z1 ?_ | refine RG.z2 ?_ | refine RG.z3 ?_ | refine RG.z4 ?_ | refine RG.z5 ?_ | refine RG.z6 ?_ | refine RG.z7 ?_ | refine RG.z8 ?_ | refine RG.z9 ?_ | refine RG.zA ?_ | refine RG.zB ?_ | refine RG.zC ?_)
    refine RG.p (d := .int .i64 L.length) (by first | exact trivial | exact rfl) (hL.len rfl) ?_
    refine RG.p (d := .bool (decide ((i : Int) < L.length))) (by first | exact trivial | exact rfl) rfl ?_
    cases c3 : decide ((i : Int) < L.length)
    · exact RG.nilS (AC.cond_f rfl (AC.exit (ex () _ _ rfl ⟨rfl, trivial⟩)))
    have hi' := of_decide_eq_true c3
    have hi : i < L.length := by omega
    obtain ⟨tg, rfl⟩ : ∃ tg, v = .lst (pairsC L) L.length 6 tg := by
      rcases hL with ⟨h, _⟩ | h
      · rw [h] at hi; simp at hi
      · exact h
    obtain ⟨dd, x, hx⟩ : ∃ dd x, L[i] = (dd, x) := ⟨_, _, rfl⟩
    obtain ⟨p, nm, t, o, ks⟩ := x
    have hat : (pairsC L).drop (i * 6) = .int .i64 (dd : Nat) :: .int .i64 p :: .str nm :: .str t :: .bool o :: .lst (elsC ks) ks.length 5 none :: pairsC (L.drop (i + 1)) := by
      rw [pairsC_drop, List.drop_eq_getElem_cons hi, hx, pairsC]
      show _ :: (elC _ ++ _) = _
      rw [elC]; rfl
    have hat' : ∀ (fr : Fr) (x y : X), XV G fr x = .lst (pairsC L) L.length 6 tg → XV G fr y = .int .i64 i → evP G fr H' (.iadr 6 x y) = some (.cptr (.int .i64 (dd : Nat) :: .int .i64 p :: .str nm :: .str t :: .bool o :: .lst (elsC ks) ks.length 5 none :: pairsC (L.drop (i + 1)))) := by
      intro fr x y h1 h2
      rw [evP_iadr h1 h2 (by omega), ← hat]; rfl
    refine RG.nilS (AC.cond_t rfl (AC.skip (AC.seq (AC.block (AC.seq (AC.drawV [17] rfl ?_))))))
    first | refine VD.z0 0 ?_ | refine VD.z1 0 ?_ | refine VD.z2 0 ?_ | refine VD.z3 0 ?_ | refine VD.z4 0 ?_ | refine VD.z5 0 ?_
    first | refine VD.z0 1 ?_ | refine VD.z1 1 ?_ | refine VD.z2 1 ?_ | refine VD.z3 1 ?_ | refine VD.z4 1 ?_ | refine VD.z5 1 ?_
    first | refine VD.z0 2 ?_ | refine VD.z1 2 ?_ | refine VD.z2 2 ?_ | refine VD.z3 2 ?_ | refine VD.z4 2 ?_ | refine VD.z5 2 ?_
    refine VD.pv 3 rfl rfl (hat' _ _ _ rfl rfl) ?_
    first | refine VD.z0 4 ?_ | refine VD.z1 4 ?_ | refine VD.z2 4 ?_ | refine VD.z3 4 ?_ | refine VD.z4 4 ?_ | refine VD.z5 4 ?_
    first | refine VD.z0 5 ?_ | refine VD.z1 5 ?_ | refine VD.z2 5 ?_ | refine VD.z3 5 ?_ | refine VD.z4 5 ?_ | refine VD.z5 5 ?_
    first | refine VD.z0 6 ?_ | refine VD.z1 6 ?_ | refine VD.z2 6 ?_ | refine VD.z3 6 ?_ | refine VD.z4 6 ?_ | refine VD.z5 6 ?_
    first | refine VD.z0 7 ?_ | refine VD.z1 7 ?_ | refine VD.z2 7 ?_ | refine VD.z3 7 ?_ | refine VD.z4 7 ?_ | refine VD.z5 7 ?_
    refine VD.pv 8 rfl rfl (evP_addW (a := n) (b := t.length) rfl rfl) ?_
    first | refine VD.z0 9 ?_ | refine VD.z1 9 ?_ | refine VD.z2 9 ?_ | refine VD.z3 9 ?_ | refine VD.z4 9 ?_ | refine VD.z5 9 ?_
    first | refine VD.z0 10 ?_ | refine VD.z1 10 ?_ | refine VD.z2 10 ?_ | refine VD.z3 10 ?_ | refine VD.z4 10 ?_ | refine VD.z5 10 ?_
    refine VD.pv 11 rfl rfl (hat' _ _ _ rfl rfl) ?_
    first | refine VD.z0 12 ?_ | refine VD.z1 12 ?_ | refine VD.z2 12 ?_ | refine VD.z3 12 ?_ | refine VD.z4 12 ?_ | refine VD.z5 12 ?_
    first | refine VD.z0 13 ?_ | refine VD.z1 13 ?_ | refine VD.z2 13 ?_ | refine VD.z3 13 ?_ | refine VD.z4 13 ?_ | refine VD.z5 13 ?_
    first | refine VD.z0 14 ?_ | refine VD.z1 14 ?_ | refine VD.z2 14 ?_ | refine VD.z3 14 ?_ | refine VD.z4 14 ?_ | refine VD.z5 14 ?_
    first | refine VD.z0 15 ?_ | refine VD.z1 15 ?_ | refine VD.z2 15 ?_ | refine VD.z3 15 ?_ | refine VD.z4 15 ?_ | refine VD.z5 15 ?_
    refine VD.pv 16 rfl rfl (evP_addW (b := nm.length) rfl rfl) ?_
    generalize IntKind.wrap .i64 (IntKind.wrap .i64 (n + t.length) + nm.length) = n1
    refine VD.pe 17 rfl rfl (EF.of_evP (d := .int .i64 n1) rfl) (fun _ _ _ h => h.elim) (fun d H2 ⟨f1, f2⟩ => ⟨?_, ?_⟩)
    · subst f2; exact (by (repeat (refine stabAll_cons rfl (by first | exact Stab.ld rfl (by first | assumption | exact Hp.upd_same | (rw [Hp.upd_ne (by first | assumption | omega)]; first | assumption | exact Hp.upd_same | (rw [Hp.upd_ne (by first | assumption | omega)]; first | assumption | exact Hp.upd_same))) rfl rfl | exact Stab.of rfl rfl) ?_)); exact stabAll_nil)
    subst f1; subst f2
    refine VD.pd rfl ?_
    refine AC.seq (AC.reg ?_)
    (first | refine RG.z0 ?_ | refine RG.z1 ?_ | refine RG.z2 ?_ | refine RG.z3 ?_ | refine RG.z4 ?_ | refine RG.z5 ?_ | refine RG.z6 ?_ | refine RG.z7 ?_ | refine RG.z8 ?_ | refine RG.z9 ?_ | refine RG.zA ?_ | refine RG.zB ?_ | refine RG.zC ?_)
    refine RG.p (d := .bool (decide (n1 > 30000))) (by first | exact trivial | exact rfl) rfl ?_
    cases c4 : decide (n1 > 30000)
    case true =>
      repeat (first | refine RG.z0 ?_ | refine RG.z1 ?_ | refine RG.z2 ?_ | refine RG.z3 ?_ | refine RG.z4 ?_ | refine RG.z5 ?_ | refine RG.z6 ?_ | refine RG.z7 ?_ | refine RG.z8 ?_ | refine RG.z9 ?_ | refine RG.zA ?_ | refine RG.zB ?_ | refine RG.zC ?_)
      refine RG.nilS (AC.cond_t rfl (AC.seq (AC.reg ?_)))
      repeat (first | refine RG.z0 ?_ | refine RG.z1 ?_ | refine RG.z2 ?_ | refine RG.z3 ?_ | refine RG.z4 ?_ | refine RG.z5 ?_ | refine RG.z6 ?_ | refine RG.z7 ?_ | refine RG.z8 ?_ | refine RG.z9 ?_ | refine RG.zA ?_ | refine RG.zB ?_ | refine RG.zC ?_)
      exact RG.nilS (AC.ret (fin rfl ⟨⟨_, rfl⟩, rfl⟩))
    (first | refine RG.z0 ?_ | refine RG.z1 ?_ | refine RG.z2 ?_ | refine RG.z3 ?_ | refine RG.z4 ?_ | refine RG.z5 ?_ | refine RG.z6 ?_ | refine RG.z7 ?_ | refine RG.z8 ?_ | refine RG.z9 ?_ | refine RG.zA ?_ | refine RG.zB ?_ | refine RG.zC ?_)
    (first | refine RG.z0 ?_ | refine RG.z1 ?_ | refine RG.z2 ?_ | refine RG.z3 ?_ | refine RG.z4 ?_ | refine RG.z5 ?_ | refine RG.z6 ?_ | refine RG.z7 ?_ | refine RG.z8 ?_ | refine RG.z9 ?_ | refine RG.zA ?_ | refine RG.zB ?_ | refine RG.zC ?_)
    (first | refine RG.z0 ?_ | refine RG.z1 ?_ | refine RG.z2 ?_ | refine RG.z3 ?_ | refine RG.z4 ?_ | refine RG.z5 ?_ | refine RG.z6 ?_ | refine RG.z7 ?_ | refine RG.z8 ?_ | refine RG.z9 ?_ | refine RG.zA ?_ | refine RG.zB ?_ | refine RG.zC ?_)
    refine RG.p (by first | exact trivial | exact rfl) (hat' _ _ _ rfl rfl) ?_
    (first | refine RG.z0 ?_ | refine RG.z1 ?_ | refine RG.z2 ?_ | refine RG.z3 ?_ | refine RG.z4 ?_ | refine RG.z5 ?_ | refine RG.z6 ?_ | refine RG.z7 ?_ | refine RG.z8 ?_ | refine RG.z9 ?_ | refine RG.zA ?_ | refine RG.zB ?_ | refine RG.zC ?_)
    (first | refine RG.z0 ?_ | refine RG.z1 ?_ | refine RG.z2 ?_ | refine RG.z3 ?_ | refine RG.z4 ?_ | refine RG.z5 ?_ | refine RG.z6 ?_ | refine RG.z7 ?_ | refine RG.z8 ?_ | refine RG.z9 ?_ | refine RG.zA ?_ | refine RG.zB ?_ | refine RG.zC ?_)
    (first | refine RG.z0 ?_ | refine RG.z1 ?_ | refine RG.z2 ?_ | refine RG.z3 ?_ | refine RG.z4 ?_ | refine RG.z5 ?_ | refine RG.z6 ?_ | refine RG.z7 ?_ | refine RG.z8 ?_ | refine RG.z9 ?_ | refine RG.zA ?_ | refine RG.zB ?_ | refine RG.zC ?_)
    (first | refine RG.z0 ?_ | refine RG.z1 ?_ | refine RG.z2 ?_ | refine RG.z3 ?_ | refine RG.z4 ?_ | refine RG.z5 ?_ | refine RG.z6 ?_ | refine RG.z7 ?_ | refine RG.z8 ?_ | refine RG.z9 ?_ | refine RG.zA ?_ | refine RG.zB ?_ | refine RG.zC ?_)
    refine RG.p (d := .bool (decide ((t.length : Int) > 10000))) (by first | exact trivial | exact rfl) rfl ?_
    cases c5 : decide ((t.length : Int) > 10000)
    case true =>
      repeat (first | refine RG.z0 ?_ | refine RG.z1 ?_ | refine RG.z2 ?_ | refine RG.z3 ?_ | refine RG.z4 ?_ | refine RG.z5 ?_ | refine RG.z6 ?_ | refine RG.z7 ?_ | refine RG.z8 ?_ | refine RG.z9 ?_ | refine RG.zA ?_ | refine RG.zB ?_ | refine RG.zC ?_)
      refine RG.nilS (AC.cond_t rfl (AC.seq (AC.reg ?_)))
      repeat (first | refine RG.z0 ?_ | refine RG.z1 ?_ | refine RG.z2 ?_ | refine RG.z3 ?_ | refine RG.z4 ?_ | refine RG.z5 ?_ | refine RG.z6 ?_ | refine RG.z7 ?_ | refine RG.z8 ?_ | refine RG.z9 ?_ | refine RG.zA ?_ | refine RG.zB ?_ | refine RG.zC ?_)
      exact RG.nilS (AC.ret (fin rfl ⟨⟨_, rfl⟩, rfl⟩))
    (first | refine RG.z0 ?_ | refine RG.z1 ?_ | refine RG.z2 ?_ | refine RG.z3 ?_ | refine RG.z4 ?_ | refine RG.z5 ?_ | refine RG.z6 ?_ | refine RG.z7 ?_ | refine RG.z8 ?_ | refine RG.z9 ?_ | refine RG.zA ?_ | refine RG.zB ?_ | refine RG.zC ?_)
    (first | refine RG.z0 ?_ | refine RG.z1 ?_ | refine RG.z2 ?_ | refine RG.z3 ?_ | refine RG.z4 ?_ | refine RG.z5 ?_ | refine RG.z6 ?_ | refine RG.z7 ?_ | refine RG.z8 ?_ | refine RG.z9 ?_ | refine RG.zA ?_ | refine RG.zB ?_ | refine RG.zC ?_)
    (first | refine RG.z0 ?_ | refine RG.z1 ?_ | refine RG.z2 ?_ | refine RG.z3 ?_ | refine RG.z4 ?_ | refine RG.z5 ?_ | refine RG.z6 ?_ | refine RG.z7 ?_ | refine RG.z8 ?_ | refine RG.z9 ?_ | refine RG.zA ?_ | refine RG.zB ?_ | refine RG.zC ?_)
    (first | refine RG.z0 ?_ | refine RG.z1 ?_ | refine RG.z2 ?_ | refine RG.z3 ?_ | refine RG.z4 ?_ | refine RG.z5 ?_ | refine RG.z6 ?_ | refine RG.z7 ?_ | refine RG.z8 ?_ | refine RG.z9 ?_ | refine RG.zA ?_ | refine RG.zB ?_ | refine RG.zC ?_)
    refine RG.p (by first | exact trivial | exact rfl) (hat' _ _ _ rfl rfl) ?_
    (first | refine RG.z0 ?_ | refine RG.z1 ?_ | refine RG.z2 ?_ | refine RG.z3 ?_ | refine RG.z4 ?_ | refine RG.z5 ?_ | refine RG.z6 ?_ | refine RG.z7 ?_ | refine RG.z8 ?_ | refine RG.z9 ?_ | refine RG.zA ?_ | refine RG.zB ?_ | refine RG.zC ?_)
    (first | refine RG.z0 ?_ | refine RG.z1 ?_ | refine RG.z2 ?_ | refine RG.z3 ?_ | refine RG.z4 ?_ | refine RG.z5 ?_ | refine RG.z6 ?_ | refine RG.z7 ?_ | refine RG.z8 ?_ | refine RG.z9 ?_ | refine RG.zA ?_ | refine RG.zB ?_ | refine RG.zC ?_)
    (first | refine RG.z0 ?_ | refine RG.z1 ?_ | refine RG.z2 ?_ | refine RG.z3 ?_ | refine RG.z4 ?_ | refine RG.z5 ?_ | refine RG.z6 ?_ | refine RG.z7 ?_ | refine RG.z8 ?_ | refine RG.z9 ?_ | refine RG.zA ?_ | refine RG.zB ?_ | refine RG.zC ?_)
    (first | refine RG.z0 ?_ | refine RG.z1 ?_ | refine RG.z2 ?_ | refine RG.z3 ?_ | refine RG.z4 ?_ | refine RG.z5 ?_ | refine RG.z6 ?_ | refine RG.z7 ?_ | refine RG.z8 ?_ | refine RG.z9 ?_ | refine RG.zA ?_ | refine RG.zB ?_ | refine RG.zC ?_)
    refine RG.p (d := .bool (decide ((nm.length : Int) > 10000))) (by first | exact trivial | exact rfl) rfl ?_
    cases c6 : decide ((nm.length : Int) > 10000)
    case true =>
      repeat (first | refine RG.z0 ?_ | refine RG.z1 ?_ | refine RG.z2 ?_ | refine RG.z3 ?_ | refine RG.z4 ?_ | refine RG.z5 ?_ | refine RG.z6 ?_ | refine RG.z7 ?_ | refine RG.z8 ?_ | refine RG.z9 ?_ | refine RG.zA ?_ | refine RG.zB ?_ | refine RG.zC ?_)
      refine RG.nilS (AC.cond_t rfl (AC.seq (AC.reg ?_)))
      repeat (first | refine RG.z0 ?_ | refine RG.z1 ?_ | refine RG.z2 ?_ | refine RG.z3 ?_ | refine RG.z4 ?_ | refine RG.z5 ?_ | refine RG.z6 ?_ | refine RG.z7 ?_ | refine RG.z8 ?_ | refine RG.z9 ?_ | refine RG.zA ?_ | refine RG.zB ?_ | refine RG.zC ?_)
      exact RG.nilS (AC.ret (fin rfl ⟨⟨_, rfl⟩, rfl⟩))
    (first | refine RG.z0 ?_ | refine RG.z1 ?_ | refine RG.z2 ?_ | refine RG.z3 ?_ | refine RG.z4 ?_ | refine RG.z5 ?_ | refine RG.z6 ?_ | refine RG.z7 ?_ | refine RG.z8 ?_ | refine RG.z9 ?_ | refine RG.zA ?_ | refine RG.zB ?_ | refine RG.zC ?_)
    (first | refine RG.z0 ?_ | refine RG.z1 ?_ | refine RG.z2 ?_ | refine RG.z3 ?_ | refine RG.z4 ?_ | refine RG.z5 ?_ | refine RG.z6 ?_ | refine RG.z7 ?_ | refine RG.z8 ?_ | refine RG.z9 ?_ | refine RG.zA ?_ | refine RG.zB ?_ | refine RG.zC ?_)
    (first | refine RG.z0 ?_ | refine RG.z1 ?_ | refine RG.z2 ?_ | refine RG.z3 ?_ | refine RG.z4 ?_ | refine RG.z5 ?_ | refine RG.z6 ?_ | refine RG.z7 ?_ | refine RG.z8 ?_ | refine RG.z9 ?_ | refine RG.zA ?_ | refine RG.zB ?_ | refine RG.zC ?_)
    (first | refine RG.z0 ?_ | refine RG.z1 ?_ | refine RG.z2 ?_ | refine RG.z3 ?_ | refine RG.z4 ?_ | refine RG.z5 ?_ | refine RG.z6 ?_ | refine RG.z7 ?_ | refine RG.z8 ?_ | refine RG.z9 ?_ | refine RG.zA ?_ | refine RG.zB ?_ | refine RG.zC ?_)
    refine RG.p (by first | exact trivial | exact rfl) (hat' _ _ _ rfl rfl) ?_
    (first | refine RG.z0 ?_ | refine RG.z1 ?_ | refine RG.z2 ?_ | refine RG.z3 ?_ | refine RG.z4 ?_ | refine RG.z5 ?_ | refine RG.z6 ?_ | refine RG.z7 ?_ | refine RG.z8 ?_ | refine RG.z9 ?_ | refine RG.zA ?_ | refine RG.zB ?_ | refine RG.zC ?_)
    (first | refine RG.z0 ?_ | refine RG.z1 ?_ | refine RG.z2 ?_ | refine RG.z3 ?_ | refine RG.z4 ?_ | refine RG.z5 ?_ | refine RG.z6 ?_ | refine RG.z7 ?_ | refine RG.z8 ?_ | refine RG.z9 ?_ | refine RG.zA ?_ | refine RG.zB ?_ | refine RG.zC ?_)
    refine RG.p (d := .bool (decide ((dd : Int) > 50))) (by first | exact trivial | exact rfl) rfl ?_
    cases c7 : decide ((dd : Int) > 50)
    case true =>
      repeat (first | refine RG.z0 ?_ | refine RG.z1 ?_ | refine RG.z2 ?_ | refine RG.z3 ?_ | refine RG.z4 ?_ | refine RG.z5 ?_ | refine RG.z6 ?_ | refine RG.z7 ?_ | refine RG.z8 ?_ | refine RG.z9 ?_ | refine RG.zA ?_ | refine RG.zB ?_ | refine RG.zC ?_)
      refine RG.nilS (AC.cond_t rfl (AC.seq (AC.reg ?_)))
      repeat (first | refine RG.z0 ?_ | refine RG.z1 ?_ | refine RG.z2 ?_ | refine RG.z3 ?_ | refine RG.z4 ?_ | refine RG.z5 ?_ | refine RG.z6 ?_ | refine RG.z7 ?_ | refine RG.z8 ?_ | refine RG.z9 ?_ | refine RG.zA ?_ | refine RG.zB ?_ | refine RG.zC ?_)
      exact RG.nilS (AC.ret (fin rfl ⟨⟨_, rfl⟩, rfl⟩))
    repeat (first | refine RG.z0 ?_ | refine RG.z1 ?_ | refine RG.z2 ?_ | refine RG.z3 ?_ | refine RG.z4 ?_ | refine RG.z5 ?_ | refine RG.z6 ?_ | refine RG.z7 ?_ | refine RG.z8 ?_ | refine RG.z9 ?_ | refine RG.zA ?_ | refine RG.zB ?_ | refine RG.zC ?_)
    refine RG.nilS (AC.cond_f rfl (AC.skip ?_))
    refine AC.reg ?_
    (first | refine RG.z0 ?_ | refine RG.z1 ?_ | refine RG.z2 ?_ | refine RG.z3 ?_ | refine RG.z4 ?_ | refine RG.z5 ?_ | refine RG.z6 ?_ | refine RG.z7 ?_ | refine RG.z8 ?_ | refine RG.z9 ?_ | refine RG.zA ?_ | refine RG.zB ?_ | refine RG.zC ?_)
    (first | refine RG.z0 ?_ | refine RG.z1 ?_ | refine RG.z2 ?_ | refine RG.z3 ?_ | refine RG.z4 ?_ | refine RG.z5 ?_ | refine RG.z6 ?_ | refine RG.z7 ?_ | refine RG.z8 ?_ | refine RG.z9 ?_ | refine RG.zA ?_ | refine RG.zB ?_ | refine RG.zC ?_)
    (first | refine RG.z0 ?_ | refine RG.z1 ?_ | refine RG.z2 ?_ | refine RG.z3 ?_ | refine RG.z4 ?_ | refine RG.z5 ?_ | refine RG.z6 ?_ | refine RG.z7 ?_ | refine RG.z8 ?_ | refine RG.z9 ?_ | refine RG.zA ?_ | refine RG.zB ?_ | refine RG.zC ?_)
    exact RG.nil (ih (i + 1, n1) _ ⟨by dsimp only; omega, rfl⟩ (by dsimp only; omega) _ ⟨rfl, rfl, rfl, trivial⟩)
end Go.Run.Tryd
