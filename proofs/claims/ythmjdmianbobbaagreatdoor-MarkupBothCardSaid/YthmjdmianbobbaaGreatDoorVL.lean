/- Part 12 of a proof: texts B16 N30 B17. -/
import Derived.Test.YthmjdmianbobbaaGreatDoorVK
import Derived.Test.YthmjdmianbobbaaGreatDoorTie
import Derived.ProofKit
import Derived.OpenShut
import Derived.LaidMore
import Derived.Lay
import Derived.SevenTiedAt
import Derived.Stop.Joined
import Derived.SizedLaws
import Derived.Carry
import Derived.Shelf.Vars
namespace Go.Run.Tryz
open Go Go.Run Go.RowKit
open Go.Proofs.Tryz (prog)
def F4 : FN := ⟨75, (.seq (.reg [ji 1 (.box 24 (.t 0)), ji 2 (.mv (.c (.bool false)))])
 (.seq (.seq (.reg [ji 13 (.call 12 []), ji 14 (.un .not (.t 13))])
 (.cond (.t 14) (.seq (.reg [ji 2 (.mv (.c (.bool false)))])
 .ret)
 .skip))
 (.seq (.seq (.reg [ji 15 (.ld true 5 (.t 1)), ji 16 (.call 6 [(.t 15)])])
 (.cond (.t 16) (.seq (.reg [ji 2 (.mv (.c (.bool true)))])
 .ret)
 .skip))
 (.seq (.reg [ji 18 (.ld true 5 (.t 1)), ji 19 (.call 13 [(.t 18)]), ji 17 (.mv (.t 19)), ji 20 (.ext (.t 17) 0), ji 21 (.ext (.t 17) 1), ji 3 (.mv (.t 20)), ji 4 (.mv (.t 21))])
 (.seq (.reg [ji 23 (.ld true 5 (.t 1)), ji 24 (.call 14 [(.t 23)]), ji 22 (.mv (.t 24)), ji 25 (.ext (.t 22) 0), ji 26 (.ext (.t 22) 1), ji 5 (.mv (.t 25)), ji 6 (.mv (.t 26))])
 (.seq (.seq (.reg [ji 27 (.mv (.t 4)), ji 28 (.bin .neq (.t 27) (ci 0)), ji 29 (.mv (.t 28)), jg 30 29 false (.mv (.t 6)), jg 31 29 false (.bin .neq (.t 30) (ci 0)), ji 32 (.pick (.t 29) (.c (.bool true)) (.t 31))])
 (.cond (.t 32) (.seq (.reg [ji 33 (.mv (.t 4)), ji 34 (.mv (.t 6)), ji 35 (.bin .eql (.t 33) (.t 34)), ji 36 (.mv (.t 35)), jg 37 36 false (.mv (.t 4)), jg 38 36 false (.bin .eql (.t 37) (ci 8)), ji 39 (.pick (.t 36) (.c (.bool true)) (.t 38)), ji 40 (.mv (.t 39)), jg 41 40 false (.mv (.t 6)), jg 42 40 false (.bin .eql (.t 41) (ci 8)), ji 43 (.pick (.t 40) (.c (.bool true)) (.t 42)), ji 2 (.mv (.t 43))])
 .ret)
 .skip))
 (.seq (.reg [ji 45 (.mv (.t 3)), ji 46 (.call 15 [(.t 45)]), ji 44 (.mv (.t 46)), ji 47 (.ext (.t 44) 0), ji 48 (.ext (.t 44) 1), ji 49 (.ext (.t 44) 2), ji 7 (.alloc [(.int .i64 0), (.str []), (.str []), (.bool false), .nils] 24), jn (.st 5 (.t 7) (.t 47)), ji 8 (.mv (.t 48)), ji 9 (.mv (.t 49))])
 (.seq (.reg [ji 51 (.mv (.t 5)), ji 52 (.call 16 [(.t 51)]), ji 50 (.mv (.t 52)), ji 53 (.ext (.t 50) 0), ji 54 (.ext (.t 50) 1), ji 55 (.ext (.t 50) 2), ji 10 (.alloc [(.int .i64 0), (.str []), (.str []), (.bool false), .nils] 24), jn (.st 5 (.t 10) (.t 53)), ji 11 (.mv (.t 54)), ji 12 (.mv (.t 55))])
 (.seq (.reg [ji 56 (.mv (.t 9)), ji 57 (.bin .eql (.t 56) (ci 0)), ji 58 (.mv (.t 57)), jg 59 58 true (.mv (.t 12)), jg 60 58 true (.bin .eql (.t 59) (ci 0)), ji 61 (.pick (.t 58) (.t 60) (.c (.bool false))), ji 62 (.mv (.t 61)), jg 63 62 true (.ld true 5 (.t 7)), jg 64 62 true (.ld true 5 (.t 10)), jg 65 62 true (.call 17 [(.t 63), (.t 64)]), ji 66 (.pick (.t 62) (.t 65) (.c (.bool false))), ji 67 (.mv (.t 66)), jg 68 67 true (.mv (.t 3)), jg 69 67 true (.len true (.t 68)), jg 70 67 true (.fadr 1 (.t 1)), jg 71 67 true (.ld false 1 (.t 70)), jg 72 67 true (.len true (.t 71)), jg 73 67 true (.bin .gtr (.t 69) (.t 72)), ji 74 (.pick (.t 67) (.t 73) (.c (.bool false))), ji 2 (.mv (.t 74))])
 .ret))))))))), [.tmp 2]⟩
theorem cF4 : cFn prog 4 = some F4 := by kernel_rfl
variable {G : Gl}
theorem mark_law (e : El) : (checkF e ≠ 0 ∧ writeF e = ([], checkF e)) ∨ (checkF e = 0 ∧ ((writeF e).2 = 8 ∨ (writeF e = (docF e, 0) ∧ readF (docF e) = (e, 0, 0)))) := by
 unfold writeF
 cases h : checkF e == 0
 · exact .inl ⟨by simpa using h, rfl⟩
 · have hc : checkF e = 0 := by simpa using h
   refine .inr ⟨hc, ?_⟩
   cases h2 : decide ((((docF e).length : Nat) : Int) > 12000)
   · have := of_decide_eq_false h2
     exact .inr ⟨rfl, read_doc hc (by omega)⟩
   · exact .inl rfl
theorem doc_name (e : El) : e.name.length < (docF e).length := by
 obtain ⟨p, n, t, o, ks⟩ := e
 have : headF.length = 21 := rfl
 rw [docF, List.length_append, this, putF]
 simp only [List.length_append, El.name]
 omega
theorem MarkupBoth_ok (hG : GOS G) (e : El) (hfit : fits e) : PF prog G 4 [.agg (elC e)] (.bool true) := by
 intro H
 refine CALL.of cF4 (Nat.le_of_ble_eq_true rfl) ?_
 refine AC.seq (AC.reg ?_)
 refine RG.box (d := .agg (elC e)) (ys := elC e) .d rfl rfl fun b1 h1 => ?_
 have hb1 : (H.upd b1 (some (.cells (elC e) 24))) b1 = some (.cells (elC e) 24) := Hp.upd_same
 have hsub : SubH H (H.upd b1 (some (.cells (elC e) 24))) := SubH.fresh h1
 generalize H.upd b1 (some (.cells (elC e) 24)) = H1 at hb1 hsub ⊢
 refine go1 ?_
 refine RG.nilS (AC.seq (AC.seq (AC.reg ?_)))
 refine RG.callP .d rfl (works_ok hG.ok) ?_
 refine go1 ?_
 refine RG.nilS (AC.cond_f rfl (AC.skip (AC.seq (AC.seq (AC.reg ?_)))))
 refine RG.ld .d rfl hb1 (ldEl e) ?_
 refine RG.call .d rfl (Great_ok e hfit _) (fun v H' ⟨⟨g, hv⟩, hH⟩ => ?_) (fun _ _ h => h.elim)
 subst hH; subst hv
 cases g
 case true =>
  refine RG.nilS (AC.cond_t rfl (AC.seq (AC.reg ?_)))
  refine go1 ?_
  exact RG.nilS (AC.ret (finD (H' := H) rfl hsub ⟨rfl, rfl⟩))
 refine RG.nilS (AC.cond_f rfl (AC.skip (AC.seq (AC.reg ?_))))
 refine RG.ld .d rfl hb1 (ldEl e) ?_
 have hW := Write_ok hG.ok e hfit
 have hM := mark_law e
 generalize writeF e = wf at hW hM
 obtain ⟨s, f⟩ := wf
 dsimp only at hW hM
 refine RG.callP .d rfl hW ?_
 refine go1 ?_
 refine go1 ?_
 refine go1 ?_
 refine go1 ?_
 refine go1 ?_
 refine RG.nilS (AC.seq (AC.reg ?_))
 refine RG.ld .d rfl hb1 (ldEl e) ?_
 refine RG.call .d rfl (wWrite_ok hG e hfit _) (fun v H' ⟨hH, hw⟩ => ?_) (fun _ _ h => h.elim)
 subst hH
 rcases hM with ⟨hc, hM⟩ | ⟨hc, hM⟩
 · -- what is wrong is wrong for both
   rcases hw with ⟨_, rfl⟩ | ⟨hc2, _⟩
   case inr => exact absurd hc2 hc
   cases hM
   have hcb : (checkF e == 0) = false := by simpa using hc
   refine go1 ?_
   refine go1 ?_
   refine go1 ?_
   refine go1 ?_
   refine go1 ?_
   refine RG.nilS (AC.seq (AC.seq (AC.reg ?_)))
   refine go1 ?_
   refine RG.p (d := .bool true) .d (by show some (DV.bool (!(checkF e == 0))) = _; rw [hcb]; rfl) ?_
   refine go ?_
   refine RG.nilS (AC.cond_t rfl (AC.seq (AC.reg ?_)))
   refine go1 ?_
   refine go1 ?_
   refine RG.p (d := .bool true) .d (by show some (DV.bool (checkF e == checkF e)) = _; rw [beq_self_eq_true]) ?_
   refine go ?_
   exact RG.nilS (AC.ret (finD (H' := H) rfl hsub ⟨rfl, rfl⟩))
 rcases hw with ⟨hc2, _⟩ | ⟨_, ix, tb, hT, hw⟩
 · exact absurd hc hc2
 rcases hM with rfl | ⟨hM, hR1⟩
 · rcases hw with ⟨_, rfl⟩ | ⟨_, rfl⟩
   all_goals
    refine au ?_
    exact AC.ret (finD (H' := H) rfl hsub ⟨rfl, rfl⟩)
 cases hM
 rcases hw with ⟨_, rfl⟩ | ⟨hle, rfl⟩
 · refine au ?_
   exact AC.ret (finD (H' := H) rfl hsub ⟨rfl, rfl⟩)
 -- both are read
 have hR := Read_ok hG.ok (docF e)
 rw [hR1] at hR
 dsimp only at hR
 refine go1 ?_
 refine go1 ?_
 refine go1 ?_
 refine go1 ?_
 refine go1 ?_
 refine RG.nilS (AC.seq (AC.seq (AC.reg ?_)))
 refine go ?_
 refine RG.nilS (AC.cond_f rfl (AC.skip (AC.seq (AC.reg ?_))))
 refine go1 ?_
 refine RG.callP .d rfl hR ?_
 refine go1 ?_
 refine go1 ?_
 refine go1 ?_
 refine go1 ?_
 refine RG.alloc .d fun b7 h7 => ?_
 have n7 : b1 ≠ b7 := fun e => by rw [← e, hb1] at h7; cases h7
 refine RG.sto (d := .agg (elC e)) (ys := elC e) (cs := Z5) (ty := 24) .d rfl Hp.upd_same rfl rfl (elC_length e) (by exact Nat.le_refl _) ?_
 rw [Hp.upd_upd, splE]
 refine go1 ?_
 refine go1 ?_
 refine RG.nilS (AC.seq (AC.reg ?_))
 refine go1 ?_
 refine RG.callP .d rfl (wRead_ok hG e hfit hc hT hle) ?_
 refine go1 ?_
 refine go1 ?_
 refine go1 ?_
 refine go1 ?_
 refine RG.alloc .d fun b10 h10 => ?_
 have n10 : b7 ≠ b10 := fun e => by rw [← e, Hp.upd_same] at h10; cases h10
 rw [Hp.upd_ne (Ne.symm n10)] at h10
 have n11 : b1 ≠ b10 := fun e => by rw [← e, hb1] at h10; cases h10
 refine RG.sto (d := .agg (elC e)) (ys := elC e) (cs := Z5) (ty := 24) .d rfl Hp.upd_same rfl rfl (elC_length e) (by exact Nat.le_refl _) ?_
 rw [Hp.upd_upd, splE]
 refine go1 ?_
 refine go1 ?_
 have k1 : ((H'.upd b7 (some (.cells (elC e) 24))).upd b10 (some (.cells (elC e) 24))) b1 = some (.cells (elC e) 24) := by rw [Hp.upd_ne n11, Hp.upd_ne n7]; exact hb1
 have k7 : ((H'.upd b7 (some (.cells (elC e) 24))).upd b10 (some (.cells (elC e) 24))) b7 = some (.cells (elC e) 24) := by rw [Hp.upd_ne n10]; exact Hp.upd_same
 have k10 : ((H'.upd b7 (some (.cells (elC e) 24))).upd b10 (some (.cells (elC e) 24))) b10 = some (.cells (elC e) 24) := Hp.upd_same
 have hsub' : SubH H ((H'.upd b7 (some (.cells (elC e) 24))).upd b10 (some (.cells (elC e) 24))) := hsub.trans ((SubH.fresh h7).trans (SubH.fresh (by rw [Hp.upd_ne (Ne.symm n10)]; exact h10)))
 generalize (H'.upd b7 (some (.cells (elC e) 24))).upd b10 (some (.cells (elC e) 24)) = HH at k1 k7 k10 hsub' ⊢
 have hS := Same_ok (G := G) e e hfit hfit
 rw [sameF_refl] at hS
 have hnm := doc_name e
 refine RG.nilS (AC.seq (AC.reg ?_))
 refine go1 ?_
 refine RG.p (d := .bool true) .d rfl ?_
 refine go1 ?_
 refine go1 ?_
 refine RG.p (d := .bool true) .d rfl ?_
 refine go1 ?_
 refine go1 ?_
 refine RG.ld .d rfl k7 (ldEl e) ?_
 refine RG.ld .d rfl k10 (ldEl e) ?_
 refine RG.callP .d rfl hS ?_
 refine go1 ?_
 refine go1 ?_
 refine go1 ?_
 refine go1 ?_
 refine go1 ?_
 refine RG.ld .d rfl k1 (d := .str e.name) (by rw [eta_el]; rfl) ?_
 refine go1 ?_
 refine RG.p (d := .bool true) .d (by
  show some (DV.bool (decide ((((docF e).length : Nat) : Int) > ((e.name.length : Nat) : Int)))) = _
  exact dT (by omega)) ?_
 refine go ?_
 exact RG.nilS (AC.ret (finD (H' := H) rfl hsub' ⟨rfl, rfl⟩))
open Go.ChangeShapes Go.WideShapes Go.ChangeAt
variable {H0 : Type} {enc : TypeId × Value → H0}
def CL (W : World) (Z : Zn) (cs : List Value) (ds : List DV) : Prop :=
 cs.length = ds.length ∧ (∀ (j : Nat) (v : Value), cs[j]? = some v → v.oneCell' = true) ∧ ∀ (j : Nat) (v : Value) (d : DV), cs[j]? = some v → ds[j]? = some d → VR W (fun _ => none) Z v d
theorem CL.nil {W : World} {Z : Zn} : CL W Z [] [] := ⟨rfl, fun j v h => by simp at h, fun j v d h => by simp at h⟩
theorem CL.cons {W : World} {Z : Zn} {v : Value} {d : DV} {cs : List Value} {ds : List DV} (h1 : v.oneCell' = true) (h2 : VR W (fun _ => none) Z v d) (h : CL W Z cs ds) : CL W Z (v :: cs) (d :: ds) := by
 refine ⟨by simp [h.1], fun j w hj => ?_, fun j w e hj he => ?_⟩
 · cases j with
   | zero => simp at hj; subst hj; exact h1
   | succ j => exact h.2.1 j w (by simpa using hj)
 · cases j with
   | zero => simp at hj he; subst hj; subst he; exact h2
   | succ j => exact h.2.2 j w e (by simpa using hj) (by simpa using he)
theorem kids_of {Q : Nat → El → Prop} : ∀ (n : Nat), (∀ i, i < n → ∃ e, Q i e) → ∃ ks : List El, ks.length = n ∧ ∀ i e, ks[i]? = some e → Q i e
 | 0, _ => ⟨[], rfl, fun i e h => by simp at h⟩
 | n + 1, h => by
   obtain ⟨ks, h1, h2⟩ := kids_of n (fun i hi => h i (by omega))
   obtain ⟨e, he⟩ := h n (by omega)
   refine ⟨ks ++ [e], by simp [h1], fun i x hx => ?_⟩
   by_cases hi : i < n
   · rw [List.getElem?_append_left (by omega)] at hx
     exact h2 i x hx
   · rw [List.getElem?_append_right (by omega)] at hx
     have h3 : i - ks.length = 0 := by
      have := (List.getElem?_eq_some_iff.1 hx).1
      simp at this; omega
     rw [h3] at hx
     simp at hx
     subst hx
     have : i = n := by omega
     rw [this]; exact he
theorem weights_all {P : Program} {e : TypeId} {q : Nat → Bool} : ∀ (L : List (DataW H0)), (DataW.weightsAll P e L).all q = true → ∀ d ∈ L, (d.weights P e).all q = true
 | [], _, d, h => by simp at h
 | x :: L, h, d, hd => by
   rw [DataW.weightsAll, List.all_append, Bool.and_eq_true] at h
   rcases List.mem_cons.1 hd with rfl | hd
   · exact h.1
   · exact weights_all L h.2 d hd
theorem cells24 : (prog).cellsOf 24 = 5 := by kernel_rfl
theorem cellsI : (prog).cellsOf 3 = 1 := by kernel_rfl
theorem cellsS : (prog).cellsOf 9 = 1 := by kernel_rfl
theorem cellsB : (prog).cellsOf 4 = 1 := by kernel_rfl
theorem cellsK : (prog).cellsOf 22 = 1 := by kernel_rfl
theorem bytes24 : (prog).bytesOf 24 = 72 := by kernel_rfl
theorem weights_slice (el sp : List (DataW H0)) : (DataW.slice el sp).weights prog 22 = (el.length + sp.length) * 72 :: (DataW.weightsAll prog 24 el ++ DataW.weightsAll prog 24 sp) := by
 rw [DataW.weights, Go.Proofs.Tryz.underlying22]
 dsimp only
 rw [bytes24]
theorem list5 {α : Type} {l : List α} (h : l.length = 5) : ∃ a b c d e, l = [a, b, c, d, e] := by
 match l, h with
 | [a, b, c, d, e], _ => exact ⟨a, b, c, d, e, rfl⟩
theorem cell_norm {W : World} {a : Addr} {v : Value} (h : W.cell? a = some v) : W.cell? ⟨a.block, a.off, none⟩ = some v ∧ a.spot = none ∧ a.block < W.heap.size := by
 unfold World.cell? at h ⊢
 cases e : W.heap[a.block]? with
 | none => rw [e] at h; cases h
 | some o =>
   rw [e] at h
   have hlt := (Array.getElem?_eq_some_iff.1 e).1
   cases o with
   | cells c t f =>
     dsimp only at h ⊢
     split at h
     · cases h
     · rename_i hs
       exact ⟨by simpa using h, by simpa using hs, hlt⟩
   | _ => cases h
theorem add_off (a : Addr) (i : Nat) : (a.add i).block = a.block ∧ (a.add i).off = a.off + i := by
 unfold Addr.add
 split <;> simp_all
theorem read_el {W : World} {Z : Zn} (hZ : ∀ b, b < W.heap.size → Z b) : ∀ (fuel : Nat) (cs : List Value) (x : DataW H0 × List MemPlace), DataW.trod enc prog W 0 (fun _ => true) true fuel 24 cs = some x →
  (x.1.weights prog 24).all (· ≤ reachBytes) = true → ∃ e : El, fits e ∧ CL W Z cs (elC e) := by
 intro fuel
 induction fuel using Nat.strongRecOn with
 | _ fuel ih =>
 intro cs x h hw
 obtain ⟨xs, n, rfl, rfl, hl, hxl, hf⟩ := DataW.trod_struct Go.Proofs.Tryz.underlying24 h
 rw [cells24] at hl
 obtain ⟨c0, c1, c2, c3, c4, rfl⟩ := list5 hl
 obtain ⟨x0, x1, x2, x3, x4, rfl⟩ := list5 (show xs.length = 5 from hxl)
 have f0 : DataW.trod enc prog W 0 (fun _ => true) true n 3 (([c0, c1, c2, c3, c4].drop 0).take ((prog).cellsOf 3)) = some x0 := hf 0 _ rfl
 have f1 : DataW.trod enc prog W 0 (fun _ => true) true n 9 (([c0, c1, c2, c3, c4].drop 1).take ((prog).cellsOf 9)) = some x1 := hf 1 _ rfl
 have f2 : DataW.trod enc prog W 0 (fun _ => true) true n 9 (([c0, c1, c2, c3, c4].drop 2).take ((prog).cellsOf 9)) = some x2 := hf 2 _ rfl
 have f3 : DataW.trod enc prog W 0 (fun _ => true) true n 4 (([c0, c1, c2, c3, c4].drop 3).take ((prog).cellsOf 4)) = some x3 := hf 3 _ rfl
 have f4 : DataW.trod enc prog W 0 (fun _ => true) true n 22 (([c0, c1, c2, c3, c4].drop 4).take ((prog).cellsOf 22)) = some x4 := hf 4 _ rfl
 rw [cellsI] at f0
 rw [cellsS] at f1 f2
 rw [cellsB] at f3
 rw [cellsK] at f4
 obtain ⟨p, e0, _, _⟩ := DataW.trod_int Go.Proofs.Tryz.underlying3 (show DataW.trod enc prog W 0 _ true n 3 [c0] = some x0 from f0)
 obtain ⟨s1, e1, _, _⟩ := DataW.trod_string Go.Proofs.Tryz.underlying9 (show DataW.trod enc prog W 0 _ true n 9 [c1] = some x1 from f1)
 obtain ⟨s2, e2, _, _⟩ := DataW.trod_string Go.Proofs.Tryz.underlying9 (show DataW.trod enc prog W 0 _ true n 9 [c2] = some x2 from f2)
 obtain ⟨o, e3, _⟩ := DataW.trod_bool Go.Proofs.Tryz.underlying4 (show DataW.trod enc prog W 0 _ true n 4 [c3] = some x3 from f3)
 cases e0; cases e1; cases e2; cases e3
 have f4' := show DataW.trod enc prog W 0 _ true n 22 [c4] = some x4 from f4
 have wrap : ∀ (ks : List El), ks.length ≤ 140737488355328 → (∀ k ∈ ks, fits k) → c4.oneCell' = true → VR W (fun _ => none) Z c4 (.lst (elsC ks) ks.length 5 none) → ∃ e : El, fits e ∧ CL W Z [.int .i64 p, .string s1, .string s2, .bool o, c4] (elC e) := by
  intro ks h1 h2 h3 h4
  refine ⟨.mk p s1.data.toList s2.data.toList o ks, ⟨h1, fitss_of ks h2⟩, ?_⟩
  rw [elC]
  exact .cons rfl (.int _ _) (.cons rfl (.str _ _ rfl) (.cons rfl (.str _ _ rfl) (.cons rfl (.bool _) (.cons h3 h4 .nil))))
 rcases DataW.trod_slice Go.Proofs.Tryz.underlying22 f4' with ⟨e4, _⟩ | ⟨a, len, cap, elems, rest, m, rfl, e4, hx4, _, hlc, _, hel, hcell, _, _⟩
 · cases e4
   exact wrap [] (by simp) (fun k hk => by simp at hk) rfl (DLe.nils _ _ _ _ .nils)
 · cases e4
   rw [cells24] at hcell
   have hw2 : ((elems.length + rest.length) * 72 :: (DataW.weightsAll prog 24 (elems.map (·.1)) ++ DataW.weightsAll prog 24 (rest.map (·.1)))).all (· ≤ reachBytes) = true := by
    have e : (DataW.agg (List.map (·.1) [x0, x1, x2, x3, x4])).weights prog 24 = DataW.weightsEach prog [3, 9, 9, 4, 22] [x0.1, x1.1, x2.1, x3.1, x4.1] := by
     rw [DataW.weights, Go.Proofs.Tryz.underlying24]; rfl
    rw [e] at hw
    simp only [DataW.weightsEach, List.all_append, Bool.and_eq_true] at hw
    obtain ⟨_, _, _, _, hw, _⟩ := hw
    rw [hx4] at hw
    have e2 := weights_slice (elems.map (·.1)) (rest.map (·.1))
    rw [List.length_map, List.length_map] at e2
    rw [← e2]
    exact hw
   simp only [List.all_cons, List.all_append, Bool.and_eq_true, decide_eq_true_eq] at hw2
   obtain ⟨w1, w2, _⟩ := hw2
   have hlen : len ≤ 140737488355328 := by
    have : reachBytes = 140737488351232 := rfl
    omega
   obtain ⟨ks, k1, k2⟩ := kids_of (Q := fun i e => ∃ cs, W.cells? 0 (a.add (i * 5)) 5 = some cs ∧ fits e ∧ CL W Z cs (elC e)) len (fun i hi => by
    have h1 := hcell i hi
    have h2 : elems[i]? = some (elems[i]'(by omega)) := List.getElem?_eq_getElem (by omega)
    rw [h2, Option.bind_eq_some_iff] at h1
    obtain ⟨cs, g1, g2⟩ := h1
    obtain ⟨e, j1, j2⟩ := ih m (by omega) cs _ g2 (weights_all _ w2 _ (List.mem_map.2 ⟨_, List.getElem_mem (by omega), rfl⟩))
    exact ⟨e, cs, g1, j1, j2⟩)
   refine wrap ks (by omega) (fun k hk => ?_) rfl ?_
   · obtain ⟨i, hi⟩ := List.getElem?_of_mem hk
     obtain ⟨_, _, h, _⟩ := k2 i k hi
     exact h
   · rw [show (Value.slice (some a) len cap) = .slice (some a) ks.length cap by rw [k1]]
     have hcell' : ∀ j, j < len * 5 → ∃ v, W.cell? ⟨a.block, a.off + j, none⟩ = some v ∧ a.block < W.heap.size ∧ v.oneCell' = true ∧ (j = 0 → a.spot = none) ∧ ∀ d, (elsC ks)[j]? = some d → VR W (fun _ => none) Z v d := by
      intro j hj
      have hi : j / 5 < len := by omega
      obtain ⟨k, hk⟩ : ∃ k, ks[j / 5]? = some k := ⟨_, List.getElem?_eq_getElem (by omega)⟩
      obtain ⟨cs, g1, _, g2, g3, g4⟩ := k2 _ k hk
      obtain ⟨_, q1, q2⟩ := World.cells?_some g1
      have hr : j % 5 < 5 := Nat.mod_lt _ (by decide)
      have q3 := q2 (j % 5) hr
      have hjj : j / 5 * 5 + j % 5 = j := by omega
      have hcr : cs[j % 5]? = some (cs[j % 5]'(by omega)) := List.getElem?_eq_getElem (by omega)
      rw [hcr] at q3
      obtain ⟨r1, r2, r3⟩ := cell_norm q3
      have b1 := add_off a (j / 5 * 5)
      have b2 := add_off (a.add (j / 5 * 5)) (j % 5)
      have hb : ((a.add (j / 5 * 5)).add (j % 5)).block = a.block := b2.1.trans b1.1
      have ho : ((a.add (j / 5 * 5)).add (j % 5)).off = a.off + j := by rw [b2.2, b1.2]; omega
      rw [hb, ho] at r1
      rw [hb] at r3
      refine ⟨_, r1, r3, g3 _ _ hcr, fun h0 => ?_, fun d hd => g4 _ _ d hcr ?_⟩
      · subst h0
        exact r2
      · have he := elsC_at ks (j / 5) k hk
        rw [← he, List.getElem?_take_of_lt hr, List.getElem?_drop, hjj]
        exact hd
     have hspot : 0 < len * 5 → a.spot = none := fun h => (hcell' 0 h).choose_spec.2.2.2.1 rfl
     refine .lst (some a) ks.length cap 5 (elsC ks) none (fun j => (W.cell? ⟨a.block, a.off + j, none⟩).getD undef) (elsC_length ks) (by omega) (fun j hj => ?_) (fun j hj => ?_) (fun j d hd => ?_) (fun b off e => by cases e)
     · rw [elsC_length, k1] at hj
       obtain ⟨v, h1, h2, _⟩ := hcell' j hj
       refine ⟨a, rfl, hspot (by omega), ?_, .inl (hZ _ h2)⟩
       rw [h1]; rfl
     · rw [elsC_length, k1] at hj
       obtain ⟨v, h1, h2, h3, _⟩ := hcell' j hj
       rw [h1]; exact h3
     · have hj := (List.getElem?_eq_some_iff.1 hd).1
       rw [elsC_length, k1] at hj
       obtain ⟨v, h1, h2, h3, _, h4⟩ := hcell' j hj
       rw [h1]; exact h4 d hd
theorem own : ownKnob (prog).godebug = none := by kernel_rfl
theorem laidOut : laidOutB prog = true := by kernel_rfl
theorem firstZ : ((List.range 256).all fun r => Pinned.utf8FirstZ.getD r 0 == Lib.firstT r) = true := by kernel_rfl
theorem firstL : Pinned.utf8FirstZ.length = 256 := by kernel_rfl
abbrev laidL : List (String × DataW Unit) := Go.Proofs.YthmjdmianbobbaaGreatDoor.Rows.markupBothRow.laid
theorem first_cell {W : World} (h : laidMetH prog laidL W) (r : Nat) (hr : r < 256) : W.cell? ⟨0, r, none⟩ = some (.int .u8 (Lib.firstT r : Nat)) := by
 rw [MakeChecks.laidMetH_plain _ _ _ (by kernel_rfl)] at h
 obtain ⟨ps, ⟨_, _, _, _, _, _, _, _, _, _, ⟨_, _, _, _, _, _, _, _, _, _, ⟨_, _, _, _, _, _, _, _, _, _, ⟨g, t, cs, fuel, p, q, hg, ht, hv, hd, _, _⟩, _⟩, _⟩, _⟩, _, _⟩ := h
 obtain rfl := Option.some.inj ((show (prog).globalNamed "unicode/utf8.first" = some 0 by kernel_rfl).symm.trans hg)
 obtain rfl := Option.some.inj ((show ((prog).globals[0]?).map (·.type) = some 180 by kernel_rfl).symm.trans ht)
 obtain ⟨xs, m, _, ex, _, hl, hel⟩ := DataW.trod_array Go.Proofs.Tryz.underlying180 hd
 have c5 : (prog).cellsOf 5 = 1 := by kernel_rfl
 have hE := hel r hr
 rw [c5, Nat.mul_one, List.getElem?_eq_getElem (by omega)] at hE
 obtain ⟨z, e1, e2, _⟩ := DataW.trod_int Go.Proofs.Tryz.underlying5 hE
 have e3 : (xs.map (·.1)) = Pinned.utf8FirstZ.map fun n => .lit (.int .u8 n) := (DataW.agg.inj (Prod.mk.inj ex).1).symm
 have e4 : (xs.map (·.1))[r]? = (Pinned.utf8FirstZ.map fun n => (DataW.lit (.int .u8 ((n : Nat) : Int)) : DataW Unit))[r]? := by rw [e3]
 rw [List.getElem?_map, List.getElem?_map, List.getElem?_eq_getElem (by omega : r < xs.length), List.getElem?_eq_getElem (by rw [firstL]; exact hr : r < Pinned.utf8FirstZ.length), e2] at e4
 have hz : z = (Lib.firstT r : Nat) := by
  simp only [Option.map_some, Option.some.injEq, DataW.lit.injEq, Lit.int.injEq, true_and] at e4
  have := List.all_eq_true.1 firstZ r (List.mem_range.2 hr)
  rw [List.getD, List.getElem?_eq_getElem (by rw [firstL]; exact hr : r < Pinned.utf8FirstZ.length)] at this
  rw [e4]
  exact congrArg (fun n : Nat => (n : Int)) (by simpa using this)
 rw [World.var?_cell hg hv r, ← hz]
 have : cs.toList[r]? = some (.int .u8 z) := by
  have h0 : ((cs.toList.drop r).take 1)[0]? = some (.int .u8 z) := by rw [e1]; rfl
  simpa using h0
 simpa using this
theorem accD : (Go.Proofs.YthmjdmianbobbaaGreatDoor.Rows.laid_unicode_utf8_acceptRanges : DataW Unit) = .agg ((List.range 16).map fun i => .agg [.lit (.int .u8 (Lib.accLo i : Nat)), .lit (.int .u8 (Lib.accHi i : Nat))]) := by kernel_rfl
theorem acc_cell {W : World} (h : laidMetH prog laidL W) (i : Nat) (hi : i < 16) : W.cell? ⟨1, 2 * i, none⟩ = some (.int .u8 (Lib.accLo i : Nat)) ∧ W.cell? ⟨1, 2 * i + 1, none⟩ = some (.int .u8 (Lib.accHi i : Nat)) := by
 rw [MakeChecks.laidMetH_plain _ _ _ (by kernel_rfl)] at h
 obtain ⟨ps, ⟨g, t, cs, fuel, p, q, hg, ht, hv, hd, _, _⟩, _, _⟩ := h
 obtain rfl := Option.some.inj ((show (prog).globalNamed "unicode/utf8.acceptRanges" = some 1 by kernel_rfl).symm.trans hg)
 obtain rfl := Option.some.inj ((show ((prog).globals[1]?).map (·.type) = some 183 by kernel_rfl).symm.trans ht)
 rw [accD] at hd
 obtain ⟨xs, m, _, ex, _, hl, hel⟩ := DataW.trod_array Go.Proofs.Tryz.underlying183 hd
 have c90 : (prog).cellsOf 182 = 2 := by kernel_rfl
 have c5 : (prog).cellsOf 5 = 1 := by kernel_rfl
 have hE := hel i hi
 rw [c90, List.getElem?_eq_getElem (by omega)] at hE
 obtain ⟨ys, n, rfl, ey, hcl, hyl, hf⟩ := DataW.trod_struct Go.Proofs.Tryz.underlying182 hE
 have hyl2 : ys.length = 2 := hyl
 match ys, hyl2 with
 | [y0, y1], _ =>
 have f0 : DataW.trod _ prog W 0 _ _ n 5 ((((cs.toList.drop (i * 2)).take 2).drop 0).take ((prog).cellsOf 5)) = some y0 := hf 0 _ rfl
 have f1 : DataW.trod _ prog W 0 _ _ n 5 ((((cs.toList.drop (i * 2)).take 2).drop 1).take ((prog).cellsOf 5)) = some y1 := hf 1 _ rfl
 rw [c5] at f0 f1
 obtain ⟨z0, a1, a2, _⟩ := DataW.trod_int Go.Proofs.Tryz.underlying5 f0
 obtain ⟨z1, b1, b2, _⟩ := DataW.trod_int Go.Proofs.Tryz.underlying5 f1
 have e3 : (xs.map (·.1)) = (List.range 16).map fun i => .agg [.lit (.int .u8 (Lib.accLo i : Nat)), .lit (.int .u8 (Lib.accHi i : Nat))] := (DataW.agg.inj (Prod.mk.inj ex).1).symm
 have e4 : (xs.map (·.1))[i]? = some (.agg [.lit (.int .u8 (Lib.accLo i : Nat)), .lit (.int .u8 (Lib.accHi i : Nat))]) := by rw [e3]; simp [hi]
 rw [List.getElem?_map, List.getElem?_eq_getElem (by omega : i < xs.length), ey, a2, b2] at e4
 simp only [Option.map_some, Option.some.injEq, List.map_cons, List.map_nil, DataW.agg.injEq, List.cons.injEq, DataW.lit.injEq, Lit.int.injEq, true_and, and_true] at e4
 obtain ⟨r0, r1⟩ := e4
 subst r0; subst r1
 rw [World.var?_cell hg hv, World.var?_cell hg hv]
 have k0 : ((((cs.toList.drop (i * 2)).take 2).drop 0).take 1)[0]? = some (.int .u8 (Lib.accLo i : Nat)) := by rw [a1]; rfl
 have k1 : ((((cs.toList.drop (i * 2)).take 2).drop 1).take 1)[0]? = some (.int .u8 (Lib.accHi i : Nat)) := by rw [b1]; rfl
 rw [show i * 2 = 2 * i by omega] at k0 k1
 simp only [List.getElem?_take, List.getElem?_drop, Nat.add_zero, Nat.lt_one_iff, if_true, Nat.zero_lt_succ] at k0 k1
 exact ⟨by simpa using k0, by simpa using k1⟩
def spZ (c : Nat) : Int := bif isSp (UInt8.ofNat c) then 1 else 0
theorem spD : (Go.Proofs.YthmjdmianbobbaaGreatDoor.Rows.laid_strings_asciiSpace : DataW Unit) = .agg ((List.range 256).map fun c => .lit (.int .u8 (spZ c))) := by kernel_rfl
theorem sp_cell {W : World} (h : laidMetH prog laidL W) (r : Nat) (hr : r < 256) : W.cell? ⟨3, r, none⟩ = some (.int .u8 (spZ r)) := by
 rw [MakeChecks.laidMetH_plain _ _ _ (by kernel_rfl)] at h
 obtain ⟨ps, ⟨_, _, _, _, _, _, _, _, _, _, ⟨_, _, _, _, _, _, _, _, _, _, ⟨g, t, cs, fuel, p, q, hg, ht, hv, hd, _, _⟩, _⟩, _⟩, _, _⟩ := h
 obtain rfl := Option.some.inj ((show (prog).globalNamed "strings.asciiSpace" = some 3 by kernel_rfl).symm.trans hg)
 obtain rfl := Option.some.inj ((show ((prog).globals[3]?).map (·.type) = some 180 by kernel_rfl).symm.trans ht)
 rw [spD] at hd
 obtain ⟨xs, m, _, ex, _, hl, hel⟩ := DataW.trod_array Go.Proofs.Tryz.underlying180 hd
 have c5 : (prog).cellsOf 5 = 1 := by kernel_rfl
 have hE := hel r hr
 rw [c5, Nat.mul_one, List.getElem?_eq_getElem (by omega)] at hE
 obtain ⟨z, e1, e2, _⟩ := DataW.trod_int Go.Proofs.Tryz.underlying5 hE
 have e3 : (xs.map (·.1)) = (List.range 256).map fun c => .lit (.int .u8 (spZ c)) := (DataW.agg.inj (Prod.mk.inj ex).1).symm
 have e4 : (xs.map (·.1))[r]? = some (.lit (.int .u8 (spZ r))) := by rw [e3]; simp [hr]
 rw [List.getElem?_map, List.getElem?_eq_getElem (by omega : r < xs.length), e2] at e4
 have hz : z = spZ r := by
  simp only [Option.map_some, Option.some.injEq, DataW.lit.injEq, Lit.int.injEq, true_and] at e4
  exact e4
 rw [World.var?_cell hg hv r, ← hz]
 have : cs.toList[r]? = some (.int .u8 z) := by
  have h0 : ((cs.toList.drop r).take 1)[0]? = some (.int .u8 z) := by rw [e1]; rfl
  simpa using h0
 simpa using this
def G0 (m : Int) : Gl := fun g => if g = 2 then some [.int .i64 m] else if g = 0 then some ((List.range 256).map fun c => .int .u8 (Lib.firstT c : Nat)) else
 if g = 1 then some ((List.range 16).flatMap fun i => [.int .u8 (Lib.accLo i : Nat), .int .u8 (Lib.accHi i : Nat)]) else if g = 3 then some spT else none
theorem G0_ok (m : Int) : GOS (G0 m) := ⟨⟨⟨m, rfl⟩, rfl, rfl⟩, rfl⟩
theorem spT_get (j : Nat) (d : DV) (h : spT[j]? = some d) : j < 256 ∧ d = .int .u8 (spZ j) := by
 have hj : j < 256 := by
  have := (List.getElem?_eq_some_iff.1 h).1
  simpa [spT] using this
 refine ⟨hj, ?_⟩
 rw [spT, List.getElem?_map, List.getElem?_range hj, Option.map_some, Option.some.injEq] at h
 rw [← h]; rfl
theorem glob_of {W : World} {Z : Zn} (hZ : ∀ b, b < W.heap.size → Z b) {g : Nat} {cs : List DV} (h : ∀ (j : Nat) (d : DV), cs[j]? = some d → ∃ k n, d = .int k n ∧ W.cell? ⟨g, j, none⟩ = some (.int k n)) : VR W (fun _ => none) Z (.pointer (some ⟨g, 0, none⟩)) (.cptr cs) := by
 refine .cptr ⟨g, 0, none⟩ cs (fun j => (W.cell? ⟨g, 0 + j, none⟩).getD undef) rfl (fun j hj => ?_) (fun j hj => ?_) (fun j d hd => ?_)
 · obtain ⟨k, n, _, h2⟩ := h j _ (List.getElem?_eq_getElem hj)
   have h3 := (cell_norm h2).2.2
   rw [Nat.zero_add, h2]
   exact ⟨rfl, .inl (hZ _ h3)⟩
 · obtain ⟨k, n, _, h2⟩ := h j _ (List.getElem?_eq_getElem hj)
   rw [Nat.zero_add, h2]; rfl
 · obtain ⟨k, n, h1, h2⟩ := h j d hd
   rw [Nat.zero_add, h2, h1]
   exact .int _ _
theorem HR0 {W : World} (hL : laidMetH prog laidL W) (hsh : W.ShapedOpen prog) : ∃ m, HR (G0 m) W (fun _ => none) (fun b => b < W.heap.size) := by
 obtain ⟨m, hm⟩ : ∃ m, W.cell? ⟨2, 0, none⟩ = some (.int .i64 m) := Go.Proofs.cell_of_shapedOpen_int (t := 3) (zero := #[.int .i64 0]) hsh (of_decide_eq_true (by kernel_rfl)) (by kernel_rfl) (by kernel_rfl) (by kernel_rfl) (by kernel_rfl) (by kernel_rfl)
 refine ⟨m, fun b o h => (by cases h), fun b h => h, fun b o h => (by cases h), fun g cs hg => glob_of (fun b h => h) fun j d hd => ?_⟩
 unfold G0 at hg
 split at hg
 · rename_i e; subst e; cases hg
   cases j with
   | zero => simp at hd; subst hd; exact ⟨_, _, rfl, hm⟩
   | succ j => simp at hd
 · split at hg
   · rename_i e; subst e; cases hg
     have hj : j < 256 := by have := (List.getElem?_eq_some_iff.1 hd).1; simpa using this
     simp [hj] at hd
     subst hd
     exact ⟨_, _, rfl, first_cell hL j hj⟩
   · split at hg
     · rename_i e; subst e; cases hg
       have hj : j < 32 := by
        have := (List.getElem?_eq_some_iff.1 hd).1
        exact (show j < (List.map (fun _ => 2) (List.range 16)).sum by simpa using this)
       have hi : j / 2 < 16 := by omega
       obtain ⟨a1, a2⟩ := acc_at (j / 2) hi
       obtain ⟨c1, c2⟩ := acc_cell hL (j / 2) hi
       rcases Nat.mod_two_eq_zero_or_one j with h | h
       · have e : 2 * (j / 2) = j := by omega
         rw [e] at a1 c1
         rw [a1] at hd; cases hd
         exact ⟨_, _, rfl, c1⟩
       · have e : 2 * (j / 2) + 1 = j := by omega
         rw [e] at a2 c2
         rw [a2] at hd; cases hd
         exact ⟨_, _, rfl, c2⟩
     · split at hg
       · rename_i e; subst e; cases hg
         obtain ⟨hj, rfl⟩ := spT_get j d hd
         exact ⟨_, _, rfl, sp_cell hL j hj⟩
       · cases hg
section
variable {H : Type} {enc : TypeId × Value → H}
theorem wrapped {a : Assume} {C : Checked} {os : Os} {f : FuncId} {fn : Func} {s : ChangeSpec} {conds : List PathCond} {apart fresh handsOn again : Bool} {X : World → Array Value → Prop}
  (hX : ∀ (w w' : World) (args : Array Value), w.heap = w'.heap → X w args → X w' args)
  (own : ownKnob C.prog.godebug = none) (started : os.Started) (noInit : C.prog.inits.idxOf? f = none) (hfn : C.prog.funcs[f]? = some fn)
  (witness : ∃ (w : World) (tape : Tape) (i : Input), w.os = os ∧ (w.forCall tape i).Shaped C.prog ∧ i.vars = [] ∧ Input.okWide C.prog (w.forCall tape i) .any w.heap.size f i ∧
   ((s.pre enc C.prog fn conds apart (w.forCall tape i).memory i.args ∧ X (w.forCall tape i).memory i.args) ∧ sizedMet enc C.prog fn (OpenSpec.ofChange s) apart (w.forCall tape i).memory i.args) ∧ a.holds C.prog (lone (Frame.enter C.prog f i.args .normal) [] (w.forCall tape i)))
  (contract : ∀ (W : World) (base : Nat) (args : Array Value) (ds gs : List (DataW H)) (before : List MemPlace),
   (∀ (j : Nat) t v, fn.params[j]? = some t → args[j]? = some v → Value.okWide C.prog W .any base t v) →
   DataW.Whole enc C.prog fn.params.toList s.vars apart W args.toList ds gs before →
   (DataW.weightsEach C.prog (fn.params.toList ++ s.plain.varTypes C.prog) (ds ++ gs)).all (· ≤ reachBytes) = true → X W args → W.ShapedOpen C.prog →
   Calls C.prog f args W fun e W' => ∃ v, e = .returned v ∧ s.post enc C.prog fn apart fresh handsOn again W args v W') :
  ReturnsInHanded a C os f .any (fun w args => (s.pre enc C.prog fn conds apart w args ∧ X w args) ∧ sizedMet enc C.prog fn (OpenSpec.ofChange s) apart w args) (s.post enc C.prog fn apart fresh handsOn again) := by
 refine returnsInHanded_of_calls own started noInit witness ?_
 intro w tape i _ hsh _ hok hpre hholds
 obtain ⟨_, _, _, fn', hfn', _, _, _, _, hval⟩ := hok
 have e : fn' = fn := Option.some.inj (hfn'.symm.trans hfn)
 subst e
 obtain ⟨⟨⟨ds, gs, before, hw, hc⟩, hx⟩, hz⟩ := hpre
 have hw' := DataW.Whole.of_heap (w' := w.forCall tape i) (by rfl) hw
 refine (contract (w.forCall tape i) w.heap.size i.args ds gs before hval hw' (hz.weights hw) (hX _ _ _ (by rfl) hx) hsh).mono fun e W' ⟨v, he, hp⟩ => ?_
 subst he
 exact ChangeSpec.post_blind hp
end
set_option maxRecDepth 100000 in
theorem back_lifted (os : Os) (started : os.Started) (H : Type) (enc : TypeId × Value → H) :
  ReturnsInHanded {} Go.Proofs.Tryz.checked os 4 .any (fun w args => (Go.Proofs.YthmjdmianbobbaaGreatDoor.Rows.markupBothSpec.pre enc prog Go.Proofs.Tryz.f4 [] false w args ∧ laidMetH prog laidL w) ∧ sizedMet enc prog Go.Proofs.Tryz.f4 (OpenSpec.ofChange Go.Proofs.YthmjdmianbobbaaGreatDoor.Rows.markupBothSpec) false w args)
   (Go.Proofs.YthmjdmianbobbaaGreatDoor.Rows.markupBothSpec.post enc prog Go.Proofs.Tryz.f4 false true false false) := by
 refine wrapped (C := Go.Proofs.Tryz.checked) (X := fun w _ => laidMetH prog laidL w) (fun _ _ _ hh h => h.of_heap hh) own started (by kernel_rfl) Go.Proofs.Tryz.func4
  (ChangeSpec.witness_shaped (enc := enc) (C := Go.Proofs.Tryz.checked) (os := os) (X := fun w _ => laidMetH prog laidL w) false (World.laidAll prog os laidL) #[.agg #[.int .i64 0, .string ⟨#[]⟩, .string ⟨#[]⟩, .bool false, .slice none 0 0]] 8 (World.laidAll_os _ _ _)
   (World.shaped_of_ZipB (by kernel_rfl) (by kernel_rfl)) (by kernel_rfl) (by kernel_rfl) (by kernel_rfl)
   (by rw [MakeChecks.laidMetH_plain _ _ _ (by kernel_rfl)]; exact laidMet_laidAll _ (by kernel_rfl) (by kernel_rfl))) ?_
 intro W base args ds gs before hval0 hW hwt hL hsh
 have hval : ∀ (j : Nat) t v, Go.Proofs.Tryz.f4.params[j]? = some t → args[j]? = some v → Value.okWide prog W .any base t v := hval0
 have hW' := hW
 obtain ⟨p, q, hA0, hV, rfl, _, _⟩ := hW
 have hA : DataW.TrodAll enc prog W 0 (fun _ => true) true Go.Proofs.Tryz.f4.params.toList args.toList ds p := hA0
 rw [Go.Proofs.Tryz.params4] at hA hval hwt
 obtain ⟨v0, d0, rfl, rfl, h0⟩ := trodAll_one hA
 obtain ⟨rfl, rfl⟩ := trodVars_none hV
 obtain ⟨vs, rfl, _⟩ := okWide_struct Go.Proofs.Tryz.underlying24 (hval 0 24 v0 rfl rfl)
 have h0k := h0
 obtain ⟨fuel, hf⟩ := h0
 clear hA0 hval0
 simp only [List.append_nil] at hW'
 have hlt : ∀ x ∈ p, x.block < W.heap.size := fun x hx => by simpa using hW'.lt x hx
 have hwe : (d0.weights prog 24).all (· ≤ reachBytes) = true := by
  have e : DataW.weightsEach prog ([24] ++ []) ([d0] ++ []) = d0.weights prog 24 := by
   show d0.weights prog 24 ++ [] = _
   rw [List.append_nil]
  rw [← e]; exact hwt
 obtain ⟨el, hfit, hcl⟩ := read_el (Z := fun b => b < W.heap.size) (fun b h => h) fuel _ _ hf hwe
 have hcl' : CL W (fun b => b < W.heap.size) vs.toList (elC el) := hcl
 obtain ⟨m, hr⟩ := HR0 hL hsh
 have hv : VR W (fun _ => none) (fun b => b < W.heap.size) (.agg vs) (.agg (elC el)) := by
  exact .agg _ _ (by simpa using hcl'.1) (fun j v hj => hcl'.2.1 j v (by simpa using hj)) (fun j v d hj hd => hcl'.2.2 j v d (by simpa using hj) hd)
 refine ((MarkupBoth_ok (G0_ok m) el hfit (fun _ => none)).2 W _ #[.agg vs] hr rfl (fun j v d hj hd => ?_)).mono fun e W' he => ?_
 · match j with
   | 0 => simp at hj hd; subst hj; subst hd; exact hv
   | j + 1 => simp at hd
 · cases e with
   | returned v =>
     obtain ⟨d, H', Z', ⟨rfl, rfl⟩, hvd, _, hx⟩ := he
     have hnx : Below W.heap.size W W' := ⟨hx.os, hx.tape, hx.output, hx.size, fun k hk => (hx.imm k hk).2.2⟩
     have hvv : v = .bool true := hvd.bool_inv
     subst hvv
     have hargs : DataW.Trod enc prog W' 0 (fun b => decide (b < W.heap.size)) true 24 (.agg vs) d0 p := Below.trod laidOut (by kernel_rfl) (of_decide_eq_true (by kernel_rfl)) h0k hnx hlt
     exact ⟨_, rfl, _, _, _, [], _, [], hW', trodAll_mk1 (shut_bool Go.Proofs.Tryz.underlying4 true), trodAll_mk1 hargs, rfl, hnx.frame _, fun h => by cases h⟩
   | panicked ch => obtain ⟨_, _, _, _, _, h, _⟩ := he; exact h.elim
   | outgrown => exact he.elim
theorem back_holds : Go.Proofs.YthmjdmianbobbaaGreatDoor.Rows.MarkupBothSaid :=
 OpenClaim.holds_of_wide 4 Go.Proofs.Tryz.f4 rfl rfl rfl rfl rfl rfl rfl ⟨rfl, rfl, rfl, rfl, rfl⟩ rfl rfl rfl rfl rfl (by kernel_rfl) Go.Proofs.Tryz.func4 (by kernel_rfl)
  (of_decide_eq_true (by kernel_rfl)) (by unfold Func.isWrapper; first | (rw [if_pos (by decide +kernel)]; kernel_rfl) | (rw [if_neg (by decide +kernel)]; exact ⟨rfl, rfl⟩))
  (fun os started H enc _ => back_lifted os started H enc)
end Go.Run.Tryz
