/- Part 12 of a proof: texts N34 P1 P2 P3 P4 P5 N30. -/
import Derived.Test.YthmjdmianbobbaaGreatDoorWK
import Derived.Laws.StructEq
import Derived.Test.YthmjdmianbobbaaGreatDoorTie
import Derived.ProofKit
import Derived.OpenShut
import Derived.LaidMore
import Derived.Lay
import Derived.SevenTiedAt
import Derived.Stop.Joined
import Derived.SizedLaws
import Derived.Carry
import Derived.Shelf.Vars
namespace Go.Run.Tryz
open Go Go.Run Go.RowKit
open Go.Proofs.Tryz (prog)
def F128 : FN := ⟨28, (.seq (.reg [ji 2 (.mv (.c (.bool false)))])
 (.seq (.seq (.reg [ji 3 (.mv (ci 0))])
 (.block 0 (.loop (.seq (.seq (.reg [ji 4 (.mv (.t 3)), ji 5 (.mv (.t 0)), ji 6 (.len true (.t 5)), ji 7 (.bin .lss (.t 4) (.t 6))])
 (.cond (.t 7) .skip
 (.exit 0)))
 (.seq (.block 1 (.seq (.reg [ji 10 (.mv (.t 0)), ji 11 (.mv (.t 3)), ji 12 (.idx (.t 10) (.t 11)), ji 13 (.bin .lss (.t 12) (.c (.int .u8 32))), ji 14 (.mv (.t 13)), jg 15 14 true (.mv (.t 0)), jg 16 14 true (.mv (.t 3)), jg 17 14 true (.idx (.t 15) (.t 16)), jg 18 14 true (.bin .neq (.t 17) (.c (.int .u8 9))), ji 19 (.pick (.t 14) (.t 18) (.c (.bool false))), ji 20 (.mv (.t 19)), jg 21 20 true (.mv (.t 0)), jg 22 20 true (.mv (.t 3)), jg 23 20 true (.idx (.t 21) (.t 22)), jg 24 20 true (.bin .neq (.t 23) (.c (.int .u8 10))), ji 25 (.pick (.t 20) (.t 24) (.c (.bool false)))])
 (.cond (.t 25) (.seq (.reg [ji 2 (.mv (.c (.bool false)))])
 .ret)
 .skip)))
 (.reg [ji 8 (.mv (.t 3)), ji 9 (.bin .add (.t 8) (ci 1)), ji 3 (.mv (.t 9))]))))))
 (.seq (.reg [ji 26 (.mv (.t 0)), ji 27 (.call 90 [(.t 26)]), ji 2 (.mv (.t 27))])
 .ret))), [.tmp 2]⟩
theorem cF128 : cFn prog 128 = some F128 := by kernel_rfl
variable {G : Gl}
def I32 (n : Int) : DV := .int .i32 n
def LI (H : Hp) (L : List Int) (v : DV) (H' : Hp) : Prop :=
 (L = [] ∧ v = .nils ∧ H' = H) ∨ (∃ b, H b = none ∧ v = .lst (L.map I32) L.length 1 (some (b, 0)) ∧ H' = H.upd b (some (.front L.length 1 21)))
theorem LI.sub {H H' : Hp} {L : List Int} {v : DV} (h : LI H L v H') : SubH H H' := by
 rcases h with ⟨_, _, rfl⟩ | ⟨b, hb, _, rfl⟩
 · exact SubH.refl _
 · exact SubH.fresh hb
theorem LI.app {H HL : Hp} {L : List Int} {v : DV} {q : Int} {x y : X} {tg : Option (Nat × Nat)} {dst : Option Nat} {N : Nat} {l : List Ins} {Q : EX → Fr → Hp → Prop} {fr : Fr} (h : LI H L v HL) (hx : XV G fr x = v) (hy : XV G fr y = .lst [I32 q] 1 1 tg)
  (hlen : L.length ≤ 1000000) (k : ∀ v' HL', LI H (L ++ [q]) v' HL' → RG prog G none N l Q (fr.put dst v') HL') : RG prog G none N (⟨dst, none, .app 21 1 4 x y⟩ :: l) Q fr HL := by
 have hsrc : srcD HL 1 (XV G fr y) = some ([I32 q], 1) := by rw [hy]; rfl
 rcases h with ⟨rfl, rfl, rfl⟩ | ⟨b, hb, rfl, rfl⟩
 · exact RG.st (ST.app_new (m := 1) (.inl hx) hsrc (by omega) (by omega) fun b hb => k _ _ (.inr ⟨b, hb, rfl, rfl⟩))
 · refine RG.st (ST.app_own (m := 1) hx Hp.upd_same hsrc (by omega) fun b' hb' => ?_)
   have e1 : (H.upd b (some (.front L.length 1 21))).upd b none = H := by rw [Hp.upd_upd]; exact Hp.upd_id hb
   rw [e1]
   refine k _ _ (.inr ⟨b', ?_, ?_, ?_⟩)
   · rcases hb' with rfl | hb'
     · exact hb
     · have hne : b' ≠ b := fun e => by rw [e, Hp.upd_same] at hb'; cases hb'
       rw [Hp.upd_ne hne] at hb'; exact hb'
   · rw [List.map_append, List.length_append]; rfl
   · rw [List.length_append]; rfl
theorem Letters_ok {s : List UInt8} (hv : Lib.validD s = true) (hs : s.length ≤ 1000000) (H : Hp) : CALL prog G 149 [.str s] H (fun r H' => (∃ v, r = .tup [v, .bool true]) ∧ H' = H) (fun _ _ => False) := by
 refine CALL.of cF149 (Nat.le_of_ble_eq_true rfl) ?_
 refine AC.seq (AC.reg ?_)
 refine go1 ?_
 refine go1 ?_
 refine RG.nilS (AC.seq (AC.reg ?_))
 refine go1 ?_
 refine RG.nilS (AC.seq ?_)
 refine AC.bloopH (α := List UInt8 × List Int × DV) (β := DV) (fun a => a.1.length) (fun a => [(0, .str a.1), (4, a.2.2)])
  (fun a H' => Lib.validD a.1 = true ∧ a.1.length + a.2.1.length ≤ s.length ∧ LI H a.2.1 a.2.2 H') (fun v => [(4, v)]) (fun _ H' => SubH H H') ?_ ?_ (s, [], .nils) _ ⟨hv, by simp, .inl ⟨rfl, rfl, rfl⟩⟩ ⟨rfl, rfl, trivial⟩
 · intro v He fr h1 hfr
   refine AC.to _ hfr (AC.seq (AC.reg ?_))
   refine go1 ?_
   refine go1 ?_
   refine go1 ?_
   exact RG.nilS (AC.ret (finD (H' := H) rfl h1 ⟨⟨v, rfl⟩, rfl⟩))
 · rintro ⟨t, L, v⟩ H' ⟨h1, h2, h3⟩ ih ex
   dsimp only at h1 h2 h3 ⊢
   refine AC.seq (AC.seq (AC.reg ?_))
   refine go1 ?_
   refine RG.p (d := .bool (!(t == []))) .d rfl ?_
   by_cases hne : t = []
   · subst hne
     exact RG.nilS (AC.cond_f rfl (AC.exit (ex v _ _ h3.sub ⟨rfl, trivial⟩)))
   have hb : (t == []) = false := by simpa using hne
   rw [hb]
   refine RG.nilS (AC.cond_t rfl (AC.skip (AC.block (AC.seq (AC.reg ?_)))))
   rw [Lib.validD_step t hne] at h1
   split at h1
   · cases h1
   rename_i hok
   have hw := Lib.decodeL_width t
   have hle := Lib.decodeL_le t hne
   refine go1 ?_
   refine RG.call .d rfl (one_ok hne hok H') (fun r H2 ⟨⟨x, e1⟩, e2⟩ => ?_) (fun _ _ h => h.elim)
   subst e1; subst e2
   generalize (Lib.decodeL t).2 = k at h1 hw hle ⊢
   refine go1 ?_
   refine go1 ?_
   refine go1 ?_
   refine go1 ?_
   refine go1 ?_
   refine RG.nilS (AC.seq (AC.seq (AC.reg ?_)))
   refine go1 ?_
   refine RG.p (d := .bool false) .d (ev_bool (by simp; omega)) ?_
   refine RG.nilS (AC.cond_f rfl (AC.skip (AC.seq (AC.reg ?_))))
   refine go1 ?_
   refine go1 ?_
   refine RG.p (d := I32 (IntKind.wrap .i32 x)) .d rfl ?_
   refine RG.st (ST.bsl (cs := [I32 (IntKind.wrap .i32 x)]) rfl fun g hg => RG.drop (SubH.fresh hg) ?_)
   refine h3.app (q := IntKind.wrap .i32 x) rfl rfl (by omega) fun v2 H3 h4 => ?_
   refine go1 ?_
   refine RG.nil (AC.reg ?_)
   refine go1 ?_
   refine go1 ?_
   refine RG.from (s := t) (i := (k : Nat)) .d rfl rfl (by omega) ?_
   refine go1 ?_
   refine RG.nil (ih (t.drop k, L ++ [IntKind.wrap .i32 x], v2) _ ⟨h1, ?_, h4⟩ ?_ _ ⟨rfl, rfl, trivial⟩)
   · simp; omega
   · simp; omega
theorem refValid_ok {s : List UInt8} (hv : Lib.validD s = true) (hs : s.length ≤ 1000000) : PF prog G 90 [.str s] (.bool true) := by
 intro H
 refine CALL.of cF90 (Nat.le_of_ble_eq_true rfl) ?_
 refine AC.seq (AC.reg ?_)
 refine go1 ?_
 refine RG.nilS (AC.seq (AC.reg ?_))
 refine go1 ?_
 refine RG.call .d rfl (Letters_ok hv hs H) (fun r H2 ⟨⟨v, e1⟩, e2⟩ => ?_) (fun _ _ h => h.elim)
 subst e1; subst e2
 refine go1 ?_
 refine go1 ?_
 refine go1 ?_
 refine go1 ?_
 refine go1 ?_
 refine RG.nilS (AC.seq (AC.reg ?_))
 refine go1 ?_
 refine go1 ?_
 exact RG.nilS (AC.ret (fin rfl ⟨rfl, rfl⟩))
theorem ctl_not {c : UInt8} (h : ¬ isCtl c = true) : c.toNat < 32 → c.toNat = 9 ∨ c.toNat = 10 := by
 have key : ∀ n : _root_.Fin 256, ¬ isCtl (UInt8.ofNat n.val) = true → (UInt8.ofNat n.val).toNat < 32 → (UInt8.ofNat n.val).toNat = 9 ∨ (UInt8.ofNat n.val).toNat = 10 := by decide +kernel
 have := key ⟨c.toNat, c.toNat_lt⟩
 simpa using this (by simpa using h)
theorem Shown_ok {s : List UInt8} (hv : shownF s = true) (hs : s.length ≤ 1000000) : PF prog G 128 [.str s] (.bool true) := by
 intro H
 unfold shownF at hv
 simp only [Bool.and_eq_true, Bool.not_eq_true', List.any_eq_false] at hv
 obtain ⟨hv1, hv2⟩ := hv
 refine CALL.of cF128 (Nat.le_of_ble_eq_true rfl) ?_
 refine AC.seq (AC.reg ?_)
 refine go1 ?_
 refine RG.nilS (AC.seq (AC.seq (AC.reg ?_)))
 refine go1 ?_
 refine RG.nilS ?_
 refine AC.bloopH (α := Nat) (β := Unit) (fun i => s.length - i) (fun i => [(0, .str s), (3, .int .i64 i)])
  (fun i H' => i ≤ s.length ∧ H' = H) (fun _ => [(0, .str s)]) (fun _ H' => H' = H) ?_ ?_ 0 _ ⟨Nat.zero_le _, rfl⟩ ⟨rfl, rfl, trivial⟩
 · intro _ He fr h1 hfr
   subst h1
   refine AC.to _ hfr (AC.seq (AC.reg ?_))
   refine go1 ?_
   refine RG.callP .d rfl (refValid_ok hv1 hs) ?_
   refine go1 ?_
   exact RG.nilS (AC.ret (fin rfl ⟨rfl, rfl⟩))
 · rintro i H' ⟨h1, h2⟩ ih ex
   subst h2
   refine AC.seq (AC.seq (AC.reg ?_))
   refine go1 ?_
   refine go1 ?_
   refine go1 ?_
   refine RG.p (d := .bool (decide (i < s.length))) .d (ev_bool (by rw [Bool.eq_iff_iff]; simp)) ?_
   cases c1 : decide (i < s.length)
   · exact RG.nilS (AC.cond_f rfl (AC.exit (ex () _ _ rfl ⟨rfl, trivial⟩)))
   have hi := of_decide_eq_true c1
   have hget : s[((i : Nat) : Int).toNat]? = some (s.getD i 0) := at0 hi
   have hctl : ¬ isCtl (s.getD i 0) = true := hv2 _ (List.mem_of_getElem? (at0 hi))
   generalize s.getD i 0 = c at hget hctl
   have hc : c.toNat < 32 → c.toNat = 9 ∨ c.toNat = 10 := ctl_not hctl
   have next : ∀ fr', fr' 0 = .str s → fr' 3 = .int .i64 (i : Nat) → AC prog G none F128.N (.reg [ji 8 (.mv (.t 3)), ji 9 (.bin .add (.t 8) (ci 1)), ji 3 (.mv (.t 9))]) (Sq prog G none F128.N _ (Bk 0 _)) fr' H' := fun fr' e0 e3 => by
    refine AC.to [(0, .str s), (3, .int .i64 i)] ⟨e0, e3, trivial⟩ (AC.reg ?_)
    refine go1 ?_
    refine go1 ?_
    refine go1 ?_
    exact RG.nil (ih (i + 1) _ ⟨by omega, rfl⟩ (by omega) _ ⟨rfl, rfl, trivial⟩)
   refine RG.nilS (AC.cond_t rfl (AC.skip (AC.seq (AC.block (AC.seq (AC.reg ?_))))))
   refine go1 ?_
   refine go1 ?_
   refine RG.at (b := c) .d rfl rfl (by omega) hget ?_
   refine RG.p (d := .bool (decide (c.toNat < 32))) .d (ev_bool (by rw [Bool.eq_iff_iff]; simp; omega)) ?_
   cases c2 : decide (c.toNat < 32)
   · refine go ?_
     exact RG.nilS (AC.cond_f rfl (AC.skip (next _ rfl rfl)))
   have hc' := hc (of_decide_eq_true c2)
   refine go1 ?_
   refine go1 ?_
   refine go1 ?_
   refine RG.at (b := c) .d rfl rfl (by omega) hget ?_
   rcases hc' with h9 | h10
   · refine RG.p (d := .bool false) .d (ev_bool (by simp; omega)) ?_
     refine go ?_
     exact RG.nilS (AC.cond_f rfl (AC.skip (next _ rfl rfl)))
   · refine RG.p (d := .bool true) .d (ev_bool (by simp; omega)) ?_
     refine go1 ?_
     refine go1 ?_
     refine go1 ?_
     refine go1 ?_
     refine RG.at (b := c) .d rfl rfl (by omega) hget ?_
     refine RG.p (d := .bool false) .d (ev_bool (by simp; omega)) ?_
     refine go ?_
     exact RG.nilS (AC.cond_f rfl (AC.skip (next _ rfl rfl)))
structure NOT1 (s : List UInt8) (k x0 least : Nat) : Prop where
 k2 : 2 ≤ k
 k4 : k ≤ 4
 x5 : x0 < 32
 no : k ≤ s.length → (∀ j, 1 ≤ j → j < k → (s.getD j 0).toNat / 64 = 2) → least ≤ foldX s x0 (k - 1) → (foldX s x0 (k - 1) < 55296 ∨ 57344 ≤ foldX s x0 (k - 1)) → foldX s x0 (k - 1) ≤ 1114111 → False
theorem wrong_cases {s : List UInt8} (hbad : (Lib.decodeL s).1 = 65533 ∧ (Lib.decodeL s).2 = 1) : 128 ≤ (s.getD 0 0).toNat ∧ ((s.getD 0 0).toNat < 192 ∨ 248 ≤ (s.getD 0 0).toNat ∨
  (192 ≤ (s.getD 0 0).toNat ∧ (s.getD 0 0).toNat < 224 ∧ NOT1 s 2 ((s.getD 0 0).toNat % 32) 128) ∨
  (224 ≤ (s.getD 0 0).toNat ∧ (s.getD 0 0).toNat < 240 ∧ NOT1 s 3 ((s.getD 0 0).toNat % 16) 2048) ∨
  (240 ≤ (s.getD 0 0).toNat ∧ (s.getD 0 0).toNat < 248 ∧ NOT1 s 4 ((s.getD 0 0).toNat % 8) 65536)) := by
 rw [Lib.decodeL_N] at hbad
 unfold Lib.decodeN at hbad
 have h0 : ¬ (s.getD 0 0).toNat < 128 := fun h => by
  rw [if_pos h] at hbad
  have := hbad.1
  simp only at this
  omega
 rw [if_neg h0] at hbad
 refine ⟨by omega, ?_⟩
 have hb := (s.getD 0 0).toNat_lt
 rcases Nat.lt_or_ge (s.getD 0 0).toNat 192 with h1 | h1
 · exact .inl h1
 rcases Nat.lt_or_ge (s.getD 0 0).toNat 224 with h2 | h2
 · refine .inr (.inr (.inl ⟨h1, h2, ⟨by omega, by omega, by omega, fun e1 e2 e3 e4 e5 => ?_⟩⟩))
   have c1 := e2 1 (by omega) (by omega)
   simp only [foldX, Nat.zero_add, Nat.reduceAdd, Nat.reduceSub] at e3 e4 e5
   rw [if_pos ⟨by omega, by omega, c1⟩, if_pos (by omega)] at hbad
   have := hbad.2
   simp at this
 rcases Nat.lt_or_ge (s.getD 0 0).toNat 240 with h3 | h3
 · refine .inr (.inr (.inr (.inl ⟨h2, h3, ⟨by omega, by omega, by omega, fun e1 e2 e3 e4 e5 => ?_⟩⟩)))
   have c1 := e2 1 (by omega) (by omega)
   have c2 := e2 2 (by omega) (by omega)
   simp only [foldX, Nat.zero_add, Nat.reduceAdd, Nat.reduceSub] at e3 e4 e5
   rw [if_neg (by omega), if_pos ⟨by omega, ⟨by omega, c1⟩, by omega, c2⟩, if_pos (by omega)] at hbad
   have := hbad.2
   simp at this
 rcases Nat.lt_or_ge (s.getD 0 0).toNat 248 with h4 | h4
 · refine .inr (.inr (.inr (.inr ⟨h3, h4, ⟨by omega, by omega, by omega, fun e1 e2 e3 e4 e5 => ?_⟩⟩)))
   have c1 := e2 1 (by omega) (by omega)
   have c2 := e2 2 (by omega) (by omega)
   have c3 := e2 3 (by omega) (by omega)
   simp only [foldX, Nat.zero_add, Nat.reduceAdd, Nat.reduceSub] at e3 e4 e5
   rw [if_neg (by omega), if_neg (by omega), if_pos ⟨by omega, ⟨by omega, c1⟩, ⟨by omega, c2⟩, by omega, c3⟩, if_pos (by omega)] at hbad
   have := hbad.2
   simp at this
 · exact .inr (.inl h4)
theorem one_bad {s : List UInt8} (hne : s ≠ []) (hbad : (Lib.decodeL s).1 = 65533 ∧ (Lib.decodeL s).2 = 1) : PF prog G 193 [.str s] (.tup [.int .i64 0, .int .i64 0]) := by
 intro H
 have hl : 0 < s.length := List.length_pos_iff.2 hne
 obtain ⟨h128, hcs⟩ := wrong_cases hbad
 have hb := (s.getD 0 0).toNat_lt
 refine CALL.of cF193 (Nat.le_of_ble_eq_true rfl) ?_
 refine AC.seq (AC.reg ?_)
 refine go1 ?_
 refine go1 ?_
 refine RG.nilS (AC.seq (AC.seq (AC.reg ?_)))
 refine go1 ?_
 refine RG.p (d := .bool false) .d (ev_bool (by cases s with | nil => exact absurd rfl hne | cons a l => rfl)) ?_
 refine RG.nilS (AC.cond_f rfl (AC.skip (AC.seq (AC.reg ?_))))
 refine go1 ?_
 refine RG.at (b := s.getD 0 0) .d rfl rfl (by omega) (at0 hl) ?_
 refine RG.p (d := .int .i64 (s.getD 0 0).toNat) .d (by
  show some (DV.int .i64 (IntKind.wrap .i64 ((s.getD 0 0).toNat : Int))) = _
  rw [IntWalk.i64_in _ (by omega)]) ?_
 refine go1 ?_
 generalize hc : (s.getD 0 0).toNat = c at hcs hb h128 ⊢
 refine RG.nilS (AC.seq (AC.reg ?_))
 refine go1 ?_
 refine go1 ?_
 refine go1 ?_
 refine RG.nilS (AC.seqI (I := fun fr' H2 => ∃ k x0 least : Nat, NOT1 s k x0 least ∧ H2 = H ∧ Agrees fr' [(0, .str s), (5, .int .i64 k), (6, .int .i64 x0), (7, .int .i64 least)]) ?_ ?_)
 · refine AC.block (AC.seq (AC.reg ?_))
   refine go1 ?_
   refine RG.p (d := .bool false) .d (ev_bool (by simp; omega)) ?_
   refine go1 ?_
   refine RG.nilS (AC.cond_f rfl (AC.seq (AC.reg ?_)))
   refine go1 ?_
   refine RG.p (d := .bool (decide (192 ≤ c))) .d (ev_bool (by rw [Bool.eq_iff_iff]; simp; omega)) ?_
   cases k1 : decide (192 ≤ c)
   · have k1 := of_decide_eq_false k1
     refine go ?_
     refine RG.nilS (AC.cond_f rfl (AC.seq (AC.reg ?_)))
     refine go1 ?_
     refine RG.p (d := .bool false) .d (ev_bool (by simp; omega)) ?_
     refine go ?_
     refine RG.nilS (AC.cond_f rfl (AC.seq (AC.reg ?_)))
     refine go1 ?_
     refine RG.p (d := .bool false) .d (ev_bool (by simp; omega)) ?_
     refine go ?_
     refine RG.nilS (AC.cond_f rfl (AC.seq (AC.reg ?_)))
     refine go ?_
     exact RG.nilS (AC.ret (fin rfl ⟨rfl, rfl⟩))
   have k1 := of_decide_eq_true k1
   refine go1 ?_
   refine go1 ?_
   refine RG.p (d := .bool (decide (c < 224))) .d (ev_bool (by rw [Bool.eq_iff_iff]; simp; omega)) ?_
   cases k2 : decide (c < 224)
   case true =>
    have k2 := of_decide_eq_true k2
    have hN : NOT1 s 2 (c % 32) 128 := by rcases hcs with h | h | h | h | h <;> first | (exfalso; omega) | exact h.2.2
    refine go1 ?_
    refine go1 ?_
    refine RG.nilS (AC.cond_t rfl (AC.reg ?_))
    refine go1 ?_
    refine RG.p (d := .int .i64 (c % 32 : Nat)) .d (by
     show (if (32 : Int) = 0 then none else some (DV.int .i64 ((c : Int).tmod 32))) = _
     rw [if_neg (by decide), Int.tmod_eq_emod_of_nonneg (by omega)]; rfl) ?_
    refine go1 ?_
    refine go1 ?_
    refine go1 ?_
    exact RG.nil ⟨2, c % 32, 128, hN, rfl, rfl, rfl, rfl, rfl, trivial⟩
   have k2 := of_decide_eq_false k2
   refine go1 ?_
   refine go1 ?_
   refine RG.nilS (AC.cond_f rfl (AC.seq (AC.reg ?_)))
   refine go1 ?_
   refine RG.p (d := .bool true) .d (ev_bool (by simp; omega)) ?_
   refine go1 ?_
   refine go1 ?_
   refine RG.p (d := .bool (decide (c < 240))) .d (ev_bool (by rw [Bool.eq_iff_iff]; simp; omega)) ?_
   cases k3 : decide (c < 240)
   case true =>
    have k3 := of_decide_eq_true k3
    have hN : NOT1 s 3 (c % 16) 2048 := by rcases hcs with h | h | h | h | h <;> first | (exfalso; omega) | exact h.2.2
    refine go1 ?_
    refine go1 ?_
    refine RG.nilS (AC.cond_t rfl (AC.reg ?_))
    refine go1 ?_
    refine RG.p (d := .int .i64 (c % 16 : Nat)) .d (by
     show (if (16 : Int) = 0 then none else some (DV.int .i64 ((c : Int).tmod 16))) = _
     rw [if_neg (by decide), Int.tmod_eq_emod_of_nonneg (by omega)]; rfl) ?_
    refine go1 ?_
    refine go1 ?_
    refine go1 ?_
    exact RG.nil ⟨3, c % 16, 2048, hN, rfl, rfl, rfl, rfl, rfl, trivial⟩
   have k3 := of_decide_eq_false k3
   refine go1 ?_
   refine go1 ?_
   refine RG.nilS (AC.cond_f rfl (AC.seq (AC.reg ?_)))
   refine go1 ?_
   refine RG.p (d := .bool true) .d (ev_bool (by simp; omega)) ?_
   refine go1 ?_
   refine go1 ?_
   refine RG.p (d := .bool (decide (c < 248))) .d (ev_bool (by rw [Bool.eq_iff_iff]; simp; omega)) ?_
   cases k4 : decide (c < 248)
   case true =>
    have k4 := of_decide_eq_true k4
    have hN : NOT1 s 4 (c % 8) 65536 := by rcases hcs with h | h | h | h | h <;> first | (exfalso; omega) | exact h.2.2
    refine go1 ?_
    refine go1 ?_
    refine RG.nilS (AC.cond_t rfl (AC.reg ?_))
    refine go1 ?_
    refine RG.p (d := .int .i64 (c % 8 : Nat)) .d (by
     show (if (8 : Int) = 0 then none else some (DV.int .i64 ((c : Int).tmod 8))) = _
     rw [if_neg (by decide), Int.tmod_eq_emod_of_nonneg (by omega)]; rfl) ?_
    refine go1 ?_
    refine go1 ?_
    refine go1 ?_
    exact RG.nil ⟨4, c % 8, 65536, hN, rfl, rfl, rfl, rfl, rfl, trivial⟩
   refine go ?_
   refine RG.nilS (AC.cond_f rfl (AC.seq (AC.reg ?_)))
   refine go ?_
   exact RG.nilS (AC.ret (fin rfl ⟨rfl, rfl⟩))
 · rintro fr H2 ⟨k, x0, least, hO, rfl, hag⟩
   refine AC.to _ hag ?_
   refine AC.seq (AC.seq (AC.reg ?_))
   refine go1 ?_
   refine go1 ?_
   refine go1 ?_
   refine RG.p (d := .bool (decide (s.length < k))) .d (ev_bool (by rw [Bool.eq_iff_iff]; simp)) ?_
   cases k1 : decide (s.length < k)
   case true =>
    refine RG.nilS (AC.cond_t rfl (AC.seq (AC.reg ?_)))
    refine go ?_
    exact RG.nilS (AC.ret (fin rfl ⟨rfl, rfl⟩))
   have hkl : k ≤ s.length := by have := of_decide_eq_false k1; omega
   refine RG.nilS (AC.cond_f rfl (AC.skip (AC.seq (AC.seq (AC.reg ?_)))))
   refine go1 ?_
   refine RG.nilS ?_
   have hk2 := hO.k2
   have hk4 := hO.k4
   refine AC.bloopH (α := Nat) (β := Unit) (fun i => k - i) (fun i => [(0, .str s), (5, .int .i64 k), (6, .int .i64 (foldX s x0 (i - 1))), (7, .int .i64 least), (8, .int .i64 i)])
    (fun i H' => 1 ≤ i ∧ i ≤ k ∧ H' = H2 ∧ ∀ j, 1 ≤ j → j < i → (s.getD j 0).toNat / 64 = 2) (fun _ => [(5, .int .i64 k), (6, .int .i64 (foldX s x0 (k - 1))), (7, .int .i64 least)]) (fun _ H' => H' = H2 ∧ ∀ j, 1 ≤ j → j < k → (s.getD j 0).toNat / 64 = 2) ?_ ?_ 1 _ ⟨by omega, by omega, rfl, fun j j1 j2 => by omega⟩ ⟨rfl, rfl, rfl, rfl, rfl, trivial⟩
   · rintro _ He fr ⟨rfl, hco⟩ hfr
     have hno := hO.no hkl hco
     generalize foldX s x0 (k - 1) = x at hno hfr
     refine AC.to _ hfr (AC.seq (AC.seq (AC.reg ?_)))
     refine go1 ?_
     refine go1 ?_
     refine RG.p (d := .bool (decide (x < least))) .d (ev_bool (by rw [Bool.eq_iff_iff]; simp)) ?_
     cases c1 : decide (x < least)
     case true =>
      refine go ?_
      refine RG.nilS (AC.cond_t rfl (AC.seq (AC.reg ?_)))
      refine go ?_
      exact RG.nilS (AC.ret (fin rfl ⟨rfl, rfl⟩))
     have c1 := of_decide_eq_false c1
     refine go1 ?_
     refine go1 ?_
     refine RG.p (d := .bool (decide (55296 ≤ x))) .d (ev_bool (by rw [Bool.eq_iff_iff]; simp; omega)) ?_
     cases c2 : decide (55296 ≤ x)
     · have c2 := of_decide_eq_false c2
       exact absurd (hno (by omega) (by omega) (by omega)) id
     have c2 := of_decide_eq_true c2
     refine go1 ?_
     refine go1 ?_
     refine RG.p (d := .bool (decide (x < 57344))) .d (ev_bool (by rw [Bool.eq_iff_iff]; simp; omega)) ?_
     cases c3 : decide (x < 57344)
     case true =>
      refine go ?_
      refine RG.nilS (AC.cond_t rfl (AC.seq (AC.reg ?_)))
      refine go ?_
      exact RG.nilS (AC.ret (fin rfl ⟨rfl, rfl⟩))
     have c3 := of_decide_eq_false c3
     have c4 : ¬ x ≤ 1114111 := fun h => hno (by omega) (by omega) h
     refine go1 ?_
     refine go1 ?_
     refine go1 ?_
     refine go1 ?_
     refine RG.p (d := .bool true) .d (ev_bool (by simp; omega)) ?_
     refine go ?_
     refine RG.nilS (AC.cond_t rfl (AC.seq (AC.reg ?_)))
     refine go ?_
     exact RG.nilS (AC.ret (fin rfl ⟨rfl, rfl⟩))
   · rintro i H' ⟨h1, h2, h3, h4⟩ ih ex
     subst h3
     refine AC.seq (AC.seq (AC.reg ?_))
     refine go1 ?_
     refine go1 ?_
     refine RG.p (d := .bool (decide (i < k))) .d (ev_bool (by rw [Bool.eq_iff_iff]; simp)) ?_
     cases c1 : decide (i < k)
     · have := of_decide_eq_false c1
       have e : i = k := by omega
       subst e
       exact RG.nilS (AC.cond_f rfl (AC.exit (ex () _ _ ⟨rfl, h4⟩ ⟨rfl, rfl, rfl, trivial⟩)))
     have hik := of_decide_eq_true c1
     have hlt := foldX_lt s hO.x5 (i - 1) (by omega)
     have hpow : 64 ^ (i - 1) ≤ 4096 := by
      have : i = 1 ∨ i = 2 ∨ i = 3 := by omega
      rcases this with rfl | rfl | rfl <;> decide
     have hfx : foldX s x0 i = 64 * foldX s x0 (i - 1) + (s.getD i 0).toNat % 64 := by
      obtain ⟨q, rfl⟩ : ∃ q, i = q + 1 := ⟨i - 1, by omega⟩
      rw [foldX]; rfl
     have hbi := (s.getD i 0).toNat_lt
     have hget : s[((i : Nat) : Int).toNat]? = some (s.getD i 0) := at0 (by omega)
     have hnext : (s.getD i 0).toNat / 64 = 2 → ∀ j, 1 ≤ j → j < i + 1 → (s.getD j 0).toNat / 64 = 2 := fun h j j1 j2 => by
      rcases Nat.lt_or_ge j i with h' | h'
      · exact h4 j j1 h'
      · have : j = i := by omega
        subst this; exact h
     generalize hc : s.getD i 0 = c at hfx hbi hget hnext
     refine RG.nilS (AC.cond_t rfl (AC.skip (AC.seq (AC.block (AC.seq (AC.seq (AC.reg ?_)))))))
     refine go1 ?_
     refine go1 ?_
     refine RG.at (b := c) .d rfl rfl (by omega) hget ?_
     refine RG.p (d := .bool (decide (c.toNat < 128))) .d (ev_bool (by rw [Bool.eq_iff_iff]; simp; omega)) ?_
     cases d1 : decide (c.toNat < 128)
     case true =>
      refine go ?_
      refine RG.nilS (AC.cond_t rfl (AC.seq (AC.reg ?_)))
      refine go ?_
      exact RG.nilS (AC.ret (fin rfl ⟨rfl, rfl⟩))
     have d1 := of_decide_eq_false d1
     refine go1 ?_
     refine go1 ?_
     refine go1 ?_
     refine RG.at (b := c) .d rfl rfl (by omega) hget ?_
     refine RG.p (d := .bool (decide (192 ≤ c.toNat))) .d (ev_bool (by rw [Bool.eq_iff_iff]; simp; omega)) ?_
     cases d2 : decide (192 ≤ c.toNat)
     case true =>
      refine go ?_
      refine RG.nilS (AC.cond_t rfl (AC.seq (AC.reg ?_)))
      refine go ?_
      exact RG.nilS (AC.ret (fin rfl ⟨rfl, rfl⟩))
     have d2 := of_decide_eq_false d2
     refine go ?_
     refine RG.nilS (AC.cond_f rfl (AC.skip (AC.reg ?_)))
     refine go1 ?_
     refine RG.p (d := .int .i64 (64 * foldX s x0 (i - 1) : Nat)) .d (by
      show some (DV.int .i64 (IntKind.wrap .i64 (64 * ((foldX s x0 (i - 1) : Nat) : Int)))) = _
      rw [IntWalk.i64_in _ (by omega)]
      congr 2) ?_
     refine go1 ?_
     refine go1 ?_
     refine RG.at (b := c) .d rfl rfl (by omega) hget ?_
     refine RG.p (d := .int .i64 c.toNat) .d (by
      show some (DV.int .i64 (IntKind.wrap .i64 (c.toNat : Int))) = _
      rw [IntWalk.i64_in _ (by omega)]) ?_
     refine RG.p (d := .int .i64 (c.toNat % 64 : Nat)) .d (by
      show (if (64 : Int) = 0 then none else some (DV.int .i64 ((c.toNat : Int).tmod 64))) = _
      rw [if_neg (by decide), Int.tmod_eq_emod_of_nonneg (by omega)]; rfl) ?_
     refine RG.p (d := .int .i64 (foldX s x0 i : Nat)) .d (by
      show some (DV.int .i64 (IntKind.wrap .i64 (((64 * foldX s x0 (i - 1) : Nat) : Int) + ((c.toNat % 64 : Nat) : Int)))) = _
      rw [IntWalk.i64_in _ (by omega), hfx]
      congr 2) ?_
     refine go1 ?_
     refine RG.nil (AC.reg ?_)
     refine go1 ?_
     refine go1 ?_
     refine go1 ?_
     exact RG.nil (ih (i + 1) _ ⟨by omega, by omega, rfl, hnext (by omega)⟩ (by omega) _ ⟨rfl, rfl, rfl, rfl, rfl, trivial⟩)
theorem Letters_bad {s : List UInt8} (hv : Lib.validD s = false) (hs : s.length ≤ 1000000) (H : Hp) : CALL prog G 149 [.str s] H (fun r H' => (∃ v, r = .tup [v, .bool false]) ∧ H' = H) (fun _ _ => False) := by
 refine CALL.of cF149 (Nat.le_of_ble_eq_true rfl) ?_
 refine AC.seq (AC.reg ?_)
 refine go1 ?_
 refine go1 ?_
 refine RG.nilS (AC.seq (AC.reg ?_))
 refine go1 ?_
 refine RG.nilS (AC.seq ?_)
 refine AC.bloopH (α := List UInt8 × List Int × DV) (β := Unit) (fun a => a.1.length) (fun a => [(0, .str a.1), (4, a.2.2)])
  (fun a H' => Lib.validD a.1 = false ∧ a.1.length + a.2.1.length ≤ s.length ∧ LI H a.2.1 a.2.2 H') (fun v => []) (fun _ H' => False) ?_ ?_ (s, [], .nils) _ ⟨hv, by simp, .inl ⟨rfl, rfl, rfl⟩⟩ ⟨rfl, rfl, trivial⟩
 · intro v He fr h1 hfr
   exact h1.elim
 · rintro ⟨t, L, v⟩ H' ⟨h1, h2, h3⟩ ih ex
   dsimp only at h1 h2 h3 ⊢
   refine AC.seq (AC.seq (AC.reg ?_))
   refine go1 ?_
   refine RG.p (d := .bool (!(t == []))) .d rfl ?_
   by_cases hne : t = []
   · subst hne
     exact absurd h1 (by decide)
   have hb : (t == []) = false := by simpa using hne
   rw [hb]
   refine RG.nilS (AC.cond_t rfl (AC.skip (AC.block (AC.seq (AC.reg ?_)))))
   rw [Lib.validD_step t hne] at h1
   split at h1
   · rename_i hbad
     refine go1 ?_
     refine RG.callP .d rfl (one_bad hne hbad) ?_
     refine go ?_
     refine RG.nilS (AC.seq (AC.seq (AC.reg ?_)))
     refine go ?_
     refine RG.nilS (AC.cond_t rfl (AC.seq (AC.reg ?_)))
     refine go ?_
     exact RG.nilS (AC.ret (finD (H' := H) rfl h3.sub ⟨⟨v, rfl⟩, rfl⟩))
   rename_i hok
   have hw := Lib.decodeL_width t
   have hle := Lib.decodeL_le t hne
   refine go1 ?_
   refine RG.call .d rfl (one_ok hne hok H') (fun r H2 ⟨⟨x, e1⟩, e2⟩ => ?_) (fun _ _ h => h.elim)
   subst e1; subst e2
   generalize (Lib.decodeL t).2 = k at h1 hw hle ⊢
   refine go1 ?_
   refine go1 ?_
   refine go1 ?_
   refine go1 ?_
   refine go1 ?_
   refine RG.nilS (AC.seq (AC.seq (AC.reg ?_)))
   refine go1 ?_
   refine RG.p (d := .bool false) .d (ev_bool (by simp; omega)) ?_
   refine RG.nilS (AC.cond_f rfl (AC.skip (AC.seq (AC.reg ?_))))
   refine go1 ?_
   refine go1 ?_
   refine RG.p (d := I32 (IntKind.wrap .i32 x)) .d rfl ?_
   refine RG.st (ST.bsl (cs := [I32 (IntKind.wrap .i32 x)]) rfl fun g hg => RG.drop (SubH.fresh hg) ?_)
   refine h3.app (q := IntKind.wrap .i32 x) rfl rfl (by omega) fun v2 H3 h4 => ?_
   refine go1 ?_
   refine RG.nil (AC.reg ?_)
   refine go1 ?_
   refine go1 ?_
   refine RG.from (s := t) (i := (k : Nat)) .d rfl rfl (by omega) ?_
   refine go1 ?_
   refine RG.nil (ih (t.drop k, L ++ [IntKind.wrap .i32 x], v2) _ ⟨h1, ?_, h4⟩ ?_ _ ⟨rfl, rfl, trivial⟩)
   · simp; omega
   · simp; omega
theorem refValidX {s : List UInt8} (hs : s.length ≤ 1000000) : PF prog G 90 [.str s] (.bool (Lib.validD s)) := by
 cases hv : Lib.validD s
 · intro H
   refine CALL.of cF90 (Nat.le_of_ble_eq_true rfl) ?_
   refine AC.seq (AC.reg ?_)
   refine go1 ?_
   refine RG.nilS (AC.seq (AC.reg ?_))
   refine go1 ?_
   refine RG.call .d rfl (Letters_bad hv hs H) (fun r H2 ⟨⟨v, e1⟩, e2⟩ => ?_) (fun _ _ h => h.elim)
   subst e1; subst e2
   refine go1 ?_
   refine go1 ?_
   refine go1 ?_
   refine go1 ?_
   refine go1 ?_
   refine RG.nilS (AC.seq (AC.reg ?_))
   refine go1 ?_
   refine go1 ?_
   exact RG.nilS (AC.ret (fin rfl ⟨rfl, rfl⟩))
 · exact refValid_ok hv hs
def F69 : FN := ⟨14, (.seq (.reg [ji 2 (.mv (.c (.bool false)))])
 (.seq (.reg [ji 3 (.mv (.t 0)), ji 4 (.bin .neq (.t 3) (.c (.str []))), ji 5 (.mv (.t 4)), jg 6 5 true (.mv (.t 0)), jg 7 5 true (.len true (.t 6)), jg 8 5 true (.bin .leq (.t 7) (ci 60)), ji 9 (.pick (.t 5) (.t 8) (.c (.bool false))), ji 10 (.mv (.t 9)), jg 11 10 true (.mv (.t 0)), jg 12 10 true (.call 128 [(.t 11)]), ji 13 (.pick (.t 10) (.t 12) (.c (.bool false))), ji 2 (.mv (.t 13))])
 .ret)), [.tmp 2]⟩
theorem cF69 : cFn prog 69 = some F69 := by kernel_rfl
def F68 : FN := ⟨9, (.seq (.reg [ji 2 (.mv (.c (.bool false)))])
 (.seq (.reg [ji 3 (.mv (.t 0)), ji 4 (.bin .eql (.t 3) (.c (.str []))), ji 5 (.mv (.t 4)), jg 6 5 false (.mv (.t 0)), jg 7 5 false (.call 69 [(.t 6)]), ji 8 (.pick (.t 5) (.c (.bool true)) (.t 7)), ji 2 (.mv (.t 8))])
 .ret)), [.tmp 2]⟩
theorem cF68 : cFn prog 68 = some F68 := by kernel_rfl
def F127 : FN := ⟨34, (.seq (.reg [ji 2 (.mv (.c (.bool false)))])
 (.seq (.seq (.reg [ji 4 (.mv (.t 0)), ji 5 (.len false (.t 4)), ji 6 (.bin .lss (.t 5) (ci 1)), ji 7 (.mv (.t 6)), jg 8 7 false (.mv (.t 0)), jg 9 7 false (.len false (.t 8)), jg 10 7 false (.bin .gtr (.t 9) (ci 6)), ji 11 (.pick (.t 7) (.c (.bool true)) (.t 10))])
 (.cond (.t 11) (.seq (.reg [ji 2 (.mv (.c (.bool false)))])
 .ret)
 .skip))
 (.seq (.seq (.reg [ji 3 (.mv (ci 0))])
 (.block 0 (.loop (.seq (.seq (.reg [ji 12 (.mv (.t 3)), ji 13 (.mv (.t 0)), ji 14 (.len false (.t 13)), ji 15 (.bin .lss (.t 12) (.t 14))])
 (.cond (.t 15) .skip
 (.exit 0)))
 (.seq (.block 1 (.seq (.reg [ji 18 (.mv (.t 0)), ji 19 (.mv (.t 3)), ji 20 (.iadr 2 (.t 18) (.t 19)), ji 21 (.fadr 0 (.t 20)), ji 22 (.ld false 1 (.t 21)), ji 23 (.call 69 [(.t 22)]), ji 24 (.un .not (.t 23)), ji 25 (.mv (.t 24)), jg 26 25 false (.mv (.t 0)), jg 27 25 false (.mv (.t 3)), jg 28 25 false (.iadr 2 (.t 26) (.t 27)), jg 29 25 false (.fadr 1 (.t 28)), jg 30 25 false (.ld false 1 (.t 29)), jg 31 25 false (.call 69 [(.t 30)]), jg 32 25 false (.un .not (.t 31)), ji 33 (.pick (.t 25) (.c (.bool true)) (.t 32))])
 (.cond (.t 33) (.seq (.reg [ji 2 (.mv (.c (.bool false)))])
 .ret)
 .skip)))
 (.reg [ji 16 (.mv (.t 3)), ji 17 (.bin .add (.t 16) (ci 1)), ji 3 (.mv (.t 17))]))))))
 (.seq (.reg [ji 2 (.mv (.c (.bool true)))])
 .ret)))), [.tmp 2]⟩
theorem cF127 : cFn prog 127 = some F127 := by kernel_rfl
def F67 : FN := ⟨63, (.seq (.reg [ji 1 (.box 56 (.t 0)), ji 2 (.mv (.c (.bool false)))])
 (.seq (.seq (.reg [ji 4 (.fadr 5 (.t 1)), ji 5 (.ld false 1 (.t 4)), ji 6 (.len false (.t 5)), ji 7 (.bin .lss (.t 6) (ci 1)), ji 8 (.mv (.t 7)), jg 9 8 false (.fadr 5 (.t 1)), jg 10 8 false (.ld false 1 (.t 9)), jg 11 8 false (.len false (.t 10)), jg 12 8 false (.bin .gtr (.t 11) (ci 8)), ji 13 (.pick (.t 8) (.c (.bool true)) (.t 12))])
 (.cond (.t 13) (.seq (.reg [ji 2 (.mv (.c (.bool false)))])
 .ret)
 .skip))
 (.seq (.seq (.reg [ji 3 (.mv (ci 0))])
 (.block 0 (.loop (.seq (.seq (.reg [ji 14 (.mv (.t 3)), ji 15 (.fadr 5 (.t 1)), ji 16 (.ld false 1 (.t 15)), ji 17 (.len false (.t 16)), ji 18 (.bin .lss (.t 14) (.t 17))])
 (.cond (.t 18) .skip
 (.exit 0)))
 (.seq (.block 1 (.seq (.reg [ji 21 (.fadr 5 (.t 1)), ji 22 (.ld false 1 (.t 21)), ji 23 (.mv (.t 3)), ji 24 (.iadr 1 (.t 22) (.t 23)), ji 25 (.ld false 1 (.t 24)), ji 26 (.bin .lss (.t 25) (ci 1)), ji 27 (.mv (.t 26)), jg 28 27 false (.fadr 5 (.t 1)), jg 29 27 false (.ld false 1 (.t 28)), jg 30 27 false (.mv (.t 3)), jg 31 27 false (.iadr 1 (.t 29) (.t 30)), jg 32 27 false (.ld false 1 (.t 31)), jg 33 27 false (.bin .gtr (.t 32) (ci 99)), ji 34 (.pick (.t 27) (.c (.bool true)) (.t 33))])
 (.cond (.t 34) (.seq (.reg [ji 2 (.mv (.c (.bool false)))])
 .ret)
 .skip)))
 (.reg [ji 19 (.mv (.t 3)), ji 20 (.bin .add (.t 19) (ci 1)), ji 3 (.mv (.t 20))]))))))
 (.seq (.reg [ji 35 (.fadr 0 (.t 1)), ji 36 (.ld false 1 (.t 35)), ji 37 (.call 69 [(.t 36)]), ji 38 (.mv (.t 37)), jg 39 38 true (.fadr 1 (.t 1)), jg 40 38 true (.ld false 1 (.t 39)), jg 41 38 true (.call 68 [(.t 40)]), ji 42 (.pick (.t 38) (.t 41) (.c (.bool false))), ji 43 (.mv (.t 42)), jg 44 43 true (.fadr 2 (.t 1)), jg 45 43 true (.ld false 1 (.t 44)), jg 46 43 true (.bin .geq (.t 45) (ci 0)), ji 47 (.pick (.t 43) (.t 46) (.c (.bool false))), ji 48 (.mv (.t 47)), jg 49 48 true (.fadr 2 (.t 1)), jg 50 48 true (.ld false 1 (.t 49)), jg 51 48 true (.bin .leq (.t 50) (ci 268435456)), ji 52 (.pick (.t 48) (.t 51) (.c (.bool false))), ji 53 (.mv (.t 52)), jg 54 53 true (.fadr 3 (.t 1)), jg 55 53 true (.ld false 1 (.t 54)), jg 56 53 true (.call 127 [(.t 55)]), ji 57 (.pick (.t 53) (.t 56) (.c (.bool false))), ji 58 (.mv (.t 57)), jg 59 58 true (.fadr 4 (.t 1)), jg 60 58 true (.ld false 1 (.t 59)), jg 61 58 true (.call 127 [(.t 60)]), ji 62 (.pick (.t 58) (.t 61) (.c (.bool false))), ji 2 (.mv (.t 62))])
 .ret)))), [.tmp 2]⟩
theorem cF67 : cFn prog 67 = some F67 := by kernel_rfl
def F20 : FN := ⟨56, (.seq (.reg [ji 1 (.box 28 (.t 0)), ji 2 (.mv (ci 0))])
 (.seq (.seq (.reg [ji 4 (.fadr 6 (.t 1)), ji 5 (.ld false 1 (.t 4)), ji 6 (.len false (.t 5)), ji 7 (.bin .lss (.t 6) (ci 1)), ji 8 (.mv (.t 7)), jg 9 8 false (.fadr 6 (.t 1)), jg 10 8 false (.ld false 1 (.t 9)), jg 11 8 false (.len false (.t 10)), jg 12 8 false (.bin .gtr (.t 11) (ci 6)), ji 13 (.pick (.t 8) (.c (.bool true)) (.t 12))])
 (.cond (.t 13) (.seq (.reg [ji 2 (.mv (ci 4))])
 .ret)
 .skip))
 (.seq (.seq (.reg [ji 3 (.mv (ci 0))])
 (.block 0 (.loop (.seq (.seq (.reg [ji 14 (.mv (.t 3)), ji 15 (.fadr 6 (.t 1)), ji 16 (.ld false 1 (.t 15)), ji 17 (.len false (.t 16)), ji 18 (.bin .lss (.t 14) (.t 17))])
 (.cond (.t 18) .skip
 (.exit 0)))
 (.seq (.block 1 (.seq (.reg [ji 21 (.fadr 6 (.t 1)), ji 22 (.ld false 1 (.t 21)), ji 23 (.mv (.t 3)), ji 24 (.iadr 6 (.t 22) (.t 23)), ji 25 (.ld true 6 (.t 24)), ji 26 (.call 67 [(.t 25)]), ji 27 (.un .not (.t 26))])
 (.cond (.t 27) (.seq (.reg [ji 2 (.mv (ci 3))])
 .ret)
 .skip)))
 (.reg [ji 19 (.mv (.t 3)), ji 20 (.bin .add (.t 19) (ci 1)), ji 3 (.mv (.t 20))]))))))
 (.seq (.seq (.reg [ji 28 (.fadr 0 (.t 1)), ji 29 (.ld false 1 (.t 28)), ji 30 (.call 68 [(.t 29)]), ji 31 (.un .not (.t 30)), ji 32 (.mv (.t 31)), jg 33 32 false (.fadr 1 (.t 1)), jg 34 32 false (.ld false 1 (.t 33)), jg 35 32 false (.call 68 [(.t 34)]), jg 36 32 false (.un .not (.t 35)), ji 37 (.pick (.t 32) (.c (.bool true)) (.t 36)), ji 38 (.mv (.t 37)), jg 39 38 false (.fadr 2 (.t 1)), jg 40 38 false (.ld false 1 (.t 39)), jg 41 38 false (.call 68 [(.t 40)]), jg 42 38 false (.un .not (.t 41)), ji 43 (.pick (.t 38) (.c (.bool true)) (.t 42)), ji 44 (.mv (.t 43)), jg 45 44 false (.fadr 3 (.t 1)), jg 46 44 false (.ld false 1 (.t 45)), jg 47 44 false (.call 69 [(.t 46)]), jg 48 44 false (.un .not (.t 47)), ji 49 (.pick (.t 44) (.c (.bool true)) (.t 48)), ji 50 (.mv (.t 49)), jg 51 50 false (.fadr 4 (.t 1)), jg 52 50 false (.ld false 1 (.t 51)), jg 53 50 false (.call 69 [(.t 52)]), jg 54 50 false (.un .not (.t 53)), ji 55 (.pick (.t 50) (.c (.bool true)) (.t 54))])
 (.cond (.t 55) (.seq (.reg [ji 2 (.mv (ci 3))])
 .ret)
 .skip))
 (.seq (.reg [ji 2 (.mv (ci 0))])
 .ret))))), [.tmp 2]⟩
theorem cF20 : cFn prog 20 = some F20 := by kernel_rfl
theorem isCtl_nat (c : UInt8) : isCtl c = (decide (c.toNat < 32) && !(decide (c.toNat = 9)) && !(decide (c.toNat = 10))) := by
 have key : ∀ n : _root_.Fin 256, isCtl (UInt8.ofNat n.val) = (decide ((UInt8.ofNat n.val).toNat < 32) && !(decide ((UInt8.ofNat n.val).toNat = 9)) && !(decide ((UInt8.ofNat n.val).toNat = 10))) := by decide +kernel
 have := key ⟨c.toNat, c.toNat_lt⟩
 simpa using this
theorem Shown_bad {s : List UInt8} (hv : shownF s = false) (hs : s.length ≤ 1000000) : PF prog G 128 [.str s] (.bool false) := by
 intro H
 refine CALL.of cF128 (Nat.le_of_ble_eq_true rfl) ?_
 refine AC.seq (AC.reg ?_)
 refine go1 ?_
 refine RG.nilS (AC.seq (AC.seq (AC.reg ?_)))
 refine go1 ?_
 refine RG.nilS ?_
 refine AC.bloopH (α := Nat) (β := Unit) (fun i => s.length - i) (fun i => [(0, .str s), (3, .int .i64 i)])
  (fun i H' => i ≤ s.length ∧ H' = H ∧ (s.take i).any isCtl = false) (fun _ => [(0, .str s)]) (fun _ H' => H' = H ∧ s.any isCtl = false) ?_ ?_ 0 _ ⟨Nat.zero_le _, rfl, rfl⟩ ⟨rfl, rfl, trivial⟩
 · rintro _ He fr ⟨h1, h2⟩ hfr
   subst h1
   have hv2 : Lib.validD s = false := by rw [shownF, h2] at hv; simpa using hv
   refine AC.to _ hfr (AC.seq (AC.reg ?_))
   refine go1 ?_
   have hV := refValidX (G := G) hs
   rw [hv2] at hV
   refine RG.callP .d rfl hV ?_
   refine go1 ?_
   exact RG.nilS (AC.ret (fin rfl ⟨rfl, rfl⟩))
 · rintro i H' ⟨h1, h2, h3⟩ ih ex
   subst h2
   refine AC.seq (AC.seq (AC.reg ?_))
   refine go1 ?_
   refine go1 ?_
   refine go1 ?_
   refine RG.p (d := .bool (decide (i < s.length))) .d (ev_bool (by rw [Bool.eq_iff_iff]; simp)) ?_
   cases c1 : decide (i < s.length)
   · have := of_decide_eq_false c1
     rw [List.take_of_length_le (by omega)] at h3
     exact RG.nilS (AC.cond_f rfl (AC.exit (ex () _ _ ⟨rfl, h3⟩ ⟨rfl, trivial⟩)))
   have hi := of_decide_eq_true c1
   have hget : s[((i : Nat) : Int).toNat]? = some (s.getD i 0) := at0 hi
   have htake : (s.take (i + 1)).any isCtl = isCtl (s.getD i 0) := by
    rw [List.take_succ_eq_append_getElem hi, List.any_append, h3]
    simp [List.getD, List.getElem?_eq_getElem hi]
   generalize s.getD i 0 = c at hget htake
   have hcn := isCtl_nat c
   have next : isCtl c = false → ∀ fr', fr' 0 = .str s → fr' 3 = .int .i64 (i : Nat) → AC prog G none F128.N (.reg [ji 8 (.mv (.t 3)), ji 9 (.bin .add (.t 8) (ci 1)), ji 3 (.mv (.t 9))]) (Sq prog G none F128.N _ (Bk 0 _)) fr' H' := fun hc fr' e0 e3 => by
    refine AC.to [(0, .str s), (3, .int .i64 i)] ⟨e0, e3, trivial⟩ (AC.reg ?_)
    refine go1 ?_
    refine go1 ?_
    refine go1 ?_
    exact RG.nil (ih (i + 1) _ ⟨by omega, rfl, by rw [htake, hc]⟩ (by omega) _ ⟨rfl, rfl, trivial⟩)
   refine RG.nilS (AC.cond_t rfl (AC.skip (AC.seq (AC.block (AC.seq (AC.reg ?_))))))
   refine go1 ?_
   refine go1 ?_
   refine RG.at (b := c) .d rfl rfl (by omega) hget ?_
   refine RG.p (d := .bool (decide (c.toNat < 32))) .d (ev_bool (by rw [Bool.eq_iff_iff]; simp; omega)) ?_
   cases c2 : decide (c.toNat < 32)
   · rw [c2] at hcn
     refine go ?_
     exact RG.nilS (AC.cond_f rfl (AC.skip (next hcn _ rfl rfl)))
   rw [c2] at hcn
   refine go1 ?_
   refine go1 ?_
   refine go1 ?_
   refine RG.at (b := c) .d rfl rfl (by omega) hget ?_
   refine RG.p (d := .bool (!decide (c.toNat = 9))) .d (ev_bool (by rw [Bool.eq_iff_iff]; simp; omega)) ?_
   cases c3 : decide (c.toNat = 9)
   case true =>
    rw [c3] at hcn
    refine go ?_
    exact RG.nilS (AC.cond_f rfl (AC.skip (next hcn _ rfl rfl)))
   rw [c3] at hcn
   refine go1 ?_
   refine go1 ?_
   refine go1 ?_
   refine go1 ?_
   refine RG.at (b := c) .d rfl rfl (by omega) hget ?_
   refine RG.p (d := .bool (!decide (c.toNat = 10))) .d (ev_bool (by rw [Bool.eq_iff_iff]; simp; omega)) ?_
   cases c4 : decide (c.toNat = 10)
   case true =>
    rw [c4] at hcn
    refine go ?_
    exact RG.nilS (AC.cond_f rfl (AC.skip (next hcn _ rfl rfl)))
   refine go ?_
   refine RG.nilS (AC.cond_t rfl (AC.seq (AC.reg ?_)))
   refine go ?_
   exact RG.nilS (AC.ret (fin rfl ⟨rfl, rfl⟩))
theorem ShownX (s : List UInt8) (hs : s.length ≤ 1000000) : PF prog G 128 [.str s] (.bool (shownF s)) := by
 cases h : shownF s
 · exact Shown_bad h hs
 · exact Shown_ok h hs
theorem refword_ok (s : List UInt8) : PF prog G 69 [.str s] (.bool (wordF s)) := by
 intro H
 refine CALL.of cF69 (Nat.le_of_ble_eq_true rfl) ?_
 have hw : wordF s = (!(s == []) && decide (((s.length : Nat) : Int) ≤ 60) && shownF s) := rfl
 refine au ?_
 cases c1 : s == []
 case true =>
  rw [c1] at hw
  refine au ?_
  exact AC.ret (fin rfl ⟨by rw [hw]; rfl, rfl⟩)
 rw [c1] at hw
 refine au ?_
 cases c2 : decide (((s.length : Nat) : Int) ≤ 60)
 · rw [c2] at hw
   refine au ?_
   exact AC.ret (fin rfl ⟨by rw [hw]; rfl, rfl⟩)
 rw [c2] at hw
 have hl := of_decide_eq_true c2
 have hS := ShownX (G := G) s (by omega)
 repeat (first | refine go1 ?_ | refine RG.zD ?_ | refine RG.callP .d rfl (hS) ?_ | refine nav ?_)
 exact AC.ret (fin rfl ⟨by rw [hw]; rfl, rfl⟩)
theorem refmaybe_ok (s : List UInt8) : PF prog G 68 [.str s] (.bool (maybeF s)) := by
 intro H
 refine CALL.of cF68 (Nat.le_of_ble_eq_true rfl) ?_
 have hw : maybeF s = (s == [] || wordF s) := rfl
 refine au ?_
 cases c1 : s == []
 · rw [c1] at hw
   repeat (first | refine go1 ?_ | refine RG.zD ?_ | refine RG.callP .d rfl (refword_ok s) ?_ | refine nav ?_)
   exact AC.ret (fin rfl ⟨by rw [hw]; rfl, rfl⟩)
 · rw [c1] at hw
   refine au ?_
   exact AC.ret (fin rfl ⟨by rw [hw]; rfl, rfl⟩)
theorem frmsC_drop : ∀ (l : List Frm) (i : Nat), (frmsC l).drop (i * 2) = frmsC (l.drop i)
 | l, 0 => by simp
 | [], i + 1 => by simp [frmsC]
 | f :: l, i + 1 => by
   have : frmsC (f :: l) = .str f.1 :: .str f.2 :: frmsC l := rfl
   rw [this, show (i + 1) * 2 = i * 2 + 1 + 1 by omega, List.drop_succ_cons, List.drop_succ_cons, List.drop_succ_cons]
   exact frmsC_drop l i
theorem evP_form {H : Hp} {fr : Fr} {x y : X} {l : List Frm} {i : Nat} (hx : XV G fr x = .lst (frmsC l) l.length 2 none) (hy : XV G fr y = .int .i64 i) (hi : i < l.length) :
  evP G fr H (.iadr 2 x y) = some (.cptr (.str l[i].1 :: .str l[i].2 :: frmsC (l.drop (i + 1)))) := by
 rw [evP_iadr hx hy (by omega), Int.toNat_natCast, frmsC_drop, List.drop_eq_getElem_cons hi]; rfl
theorem refforms_ok (l : List Frm) : PF prog G 127 [.lst (frmsC l) l.length 2 none] (.bool (formsF l)) := by
 intro H
 refine CALL.of cF127 (Nat.le_of_ble_eq_true rfl) ?_
 have lt1 : decide (((l.length : Nat) : Int) < 1) = !(decide (1 ≤ l.length)) := by rw [← decide_not, decide_eq_decide]; omega
 have gt6 : decide (((l.length : Nat) : Int) > 6) = !(decide (l.length ≤ 6)) := by rw [← decide_not, decide_eq_decide]; omega
 refine au ?_
 rw [lt1]
 cases h1 : decide (1 ≤ l.length)
 · refine au ?_
   exact AC.ret (fin rfl ⟨by rw [formsF, h1]; rfl, rfl⟩)
 refine au ?_
 rw [gt6]
 cases h2 : decide (l.length ≤ 6)
 · refine au ?_
   exact AC.ret (fin rfl ⟨by rw [formsF, h1, h2]; rfl, rfl⟩)
 have hl := of_decide_eq_true h2
 have hC : formsF l = l.all frmOk := by rw [formsF, h1, h2]; rfl
 rw [hC]
 refine al ?_
 refine AC.bloopH (α := Nat) (β := Unit) (fun n => l.length - n) (fun n => [(0, .lst (frmsC l) l.length 2 none), (3, .int .i64 n)])
  (fun n H' => H' = H ∧ n ≤ l.length ∧ l.all frmOk = (l.drop n).all frmOk) (fun _ => []) (fun _ H' => H' = H ∧ l.all frmOk = true) ?_ ?_ 0 H ⟨rfl, Nat.zero_le _, rfl⟩ ⟨rfl, rfl, trivial⟩
 · rintro _ He fr ⟨rfl, h3⟩ hfr
   show AC _ _ _ _ _ _ _ _
   refine au ?_
   exact AC.ret (fin rfl ⟨by rw [h3]; rfl, rfl⟩)
 · rintro n H' ⟨rfl, h3, h4⟩ ih ex
   refine AC.seq (AC.seq (AC.reg ?_))
   refine go ?_
   cases e1 : decide ((n : Int) < l.length)
   · have e := of_decide_eq_false e1
     have : l.drop n = [] := List.drop_eq_nil_of_le (by omega)
     rw [this] at h4
     exact RG.nilS (AC.cond_f rfl (AC.exit (ex () _ _ ⟨rfl, h4⟩ trivial)))
   have e := of_decide_eq_true e1
   have hn : n < l.length := by omega
   rw [List.drop_eq_getElem_cons hn, List.all_cons] at h4
   refine RG.nilS (AC.cond_t rfl (AC.skip (AC.seq (AC.block (AC.seq (AC.reg ?_))))))
   refine go1 ?_
   refine go1 ?_
   refine RG.p .d (evP_form wh wh hn) ?_
   have hform : ∀ {HH : Hp} {fr : Fr} {x y : X}, XV G fr x = .lst (frmsC l) l.length 2 none → XV G fr y = .int .i64 n → evP G fr HH (.iadr 2 x y) = some (.cptr (.str l[n].1 :: .str l[n].2 :: frmsC (l.drop (n + 1)))) := fun a b => evP_form a b hn
   generalize l[n] = f at h4 hform ⊢
   refine go ?_
   refine RG.callP .d rfl (refword_ok f.1) ?_
   have hfo : frmOk f = (wordF f.1 && wordF f.2) := rfl
   cases g1 : wordF f.1
   · rw [hfo, g1] at h4
     refine au ?_
     exact AC.ret (fin rfl ⟨by rw [h4]; rfl, rfl⟩)
   refine go1 ?_
   refine go1 ?_
   refine go1 ?_
   refine go1 ?_
   refine RG.p .d (hform wh wh) ?_
   refine go ?_
   refine RG.callP .d rfl (refword_ok f.2) ?_
   cases g2 : wordF f.2
   · rw [hfo, g1, g2] at h4
     refine au ?_
     exact AC.ret (fin rfl ⟨by rw [h4]; rfl, rfl⟩)
   rw [hfo, g1, g2] at h4
   refine au ?_
   exact ih (n + 1) _ ⟨rfl, by omega, h4⟩ (by omega) _ ⟨rfl, rfl, trivial⟩
theorem refplace_ok (p : Plc) : PF prog G 67 [.agg (plcC p)] (.bool (placeF p)) := by
 intro H
 refine CALL.of cF67 (Nat.le_of_ble_eq_true rfl) ?_
 refine AC.seq (AC.reg ?_)
 refine RG.box (d := .agg (plcC p)) (ys := plcC p) .d rfl rfl fun b hb => ?_
 rw [plcC]
 have hsb : SubH H (H.upd b (some (.cells [.str p.ref, .str p.name, .int .i64 p.maxId, .lst (frmsC p.takes) p.takes.length 2 none, .lst (frmsC p.gives) p.gives.length 2 none, .lst (p.kinds.map (DV.int .i64)) p.kinds.length 1 none] 56))) := SubH.fresh hb
 have hHb : (H.upd b (some (.cells [.str p.ref, .str p.name, .int .i64 p.maxId, .lst (frmsC p.takes) p.takes.length 2 none, .lst (frmsC p.gives) p.gives.length 2 none, .lst (p.kinds.map (DV.int .i64)) p.kinds.length 1 none] 56))) b = some (.cells [.str p.ref, .str p.name, .int .i64 p.maxId, .lst (frmsC p.takes) p.takes.length 2 none, .lst (frmsC p.gives) p.gives.length 2 none, .lst (p.kinds.map (DV.int .i64)) p.kinds.length 1 none] 56) := Hp.upd_same
 generalize H.upd b (some (.cells [.str p.ref, .str p.name, .int .i64 p.maxId, .lst (frmsC p.takes) p.takes.length 2 none, .lst (frmsC p.gives) p.gives.length 2 none, .lst (p.kinds.map (DV.int .i64)) p.kinds.length 1 none] 56)) = HH at hsb hHb ⊢
 have done : ∀ {fr : Fr} {q : Bool}, q = placeF p → fr 2 = .bool q → Fin F67.rs (fun d' H' => d' = .bool (placeF p) ∧ H' = H) (fun _ _ => False) .ret fr HH := by
  intro fr q hq h2
  exact finD (H' := H) rfl hsb ⟨by show fr 2 = _; rw [h2, hq], rfl⟩
 have lt1 : decide (((p.kinds.length : Nat) : Int) < 1) = !(decide (1 ≤ p.kinds.length)) := by rw [← decide_not, decide_eq_decide]; omega
 have gt8 : decide (((p.kinds.length : Nat) : Int) > 8) = !(decide (p.kinds.length ≤ 8)) := by rw [← decide_not, decide_eq_decide]; omega
 refine au ?_
 rw [lt1]
 cases h1 : decide (1 ≤ p.kinds.length)
 · refine au ?_
   exact AC.ret (done (by rw [placeF, h1]; simp) rfl)
 refine au ?_
 rw [gt8]
 cases h2 : decide (p.kinds.length ≤ 8)
 · refine au ?_
   exact AC.ret (done (by rw [placeF, h2]; simp) rfl)
 have hl := of_decide_eq_true h2
 refine al ?_
 refine AC.bloopH (α := Nat) (β := Unit) (fun n => p.kinds.length - n) (fun n => [(1, .ptr b 0), (3, .int .i64 n)])
  (fun n H' => H' = HH ∧ n ≤ p.kinds.length ∧ p.kinds.all kindOk = (p.kinds.drop n).all kindOk) (fun _ => [(1, .ptr b 0)]) (fun _ H' => H' = HH ∧ p.kinds.all kindOk = true) ?_ ?_ 0 HH ⟨rfl, Nat.zero_le _, rfl⟩ ⟨rfl, rfl, trivial⟩
 · rintro _ He fr ⟨rfl, k1⟩ hfr
   refine AC.to _ hfr ?_
   have hP : placeF p = (wordF p.ref && maybeF p.name && decide (0 ≤ p.maxId) && decide (p.maxId ≤ 268435456) && formsF p.takes && formsF p.gives) := by
    rw [placeF, h1, h2, k1, Bool.and_true, Bool.and_true, Bool.and_true]
   repeat (first | refine go1 ?_ | refine RG.zD ?_ | refine RG.callP .d rfl (refword_ok p.ref) ?_ | refine nav ?_)
   cases g1 : wordF p.ref
   · refine au ?_
     exact AC.ret (done (by rw [hP, g1]; rfl) rfl)
   repeat (first | refine go1 ?_ | refine RG.zD ?_ | refine RG.callP .d rfl (refmaybe_ok p.name) ?_ | refine nav ?_)
   cases g2 : maybeF p.name
   · refine au ?_
     exact AC.ret (done (by rw [hP, g1, g2]; rfl) rfl)
   refine au ?_
   rw [show decide (p.maxId ≥ 0) = decide (0 ≤ p.maxId) from rfl]
   cases g3 : decide (0 ≤ p.maxId)
   · refine au ?_
     exact AC.ret (done (by rw [hP, g1, g2, g3]; rfl) rfl)
   refine au ?_
   cases g4 : decide (p.maxId ≤ 268435456)
   · refine au ?_
     exact AC.ret (done (by rw [hP, g1, g2, g3, g4]; rfl) rfl)
   repeat (first | refine go1 ?_ | refine RG.zD ?_ | refine RG.callP .d rfl (refforms_ok p.takes) ?_ | refine nav ?_)
   cases g5 : formsF p.takes
   · refine au ?_
     exact AC.ret (done (by rw [hP, g1, g2, g3, g4, g5]; rfl) rfl)
   repeat (first | refine go1 ?_ | refine RG.zD ?_ | refine RG.callP .d rfl (refforms_ok p.gives) ?_ | refine nav ?_)
   exact AC.ret (done (q := formsF p.gives) (by rw [hP, g1, g2, g3, g4, g5]; rfl) rfl)
 · rintro n H' ⟨rfl, k2, k3⟩ ih ex
   refine AC.seq (AC.seq (AC.reg ?_))
   refine go ?_
   cases e1 : decide ((n : Int) < p.kinds.length)
   · have e := of_decide_eq_false e1
     have : p.kinds.drop n = [] := List.drop_eq_nil_of_le (by omega)
     rw [this] at k3
     exact RG.nilS (AC.cond_f rfl (AC.exit (ex () _ _ ⟨rfl, k3⟩ ⟨rfl, trivial⟩)))
   have e := of_decide_eq_true e1
   have hn : n < p.kinds.length := by omega
   rw [List.drop_eq_getElem_cons hn, List.all_cons] at k3
   have hrow : partD false 0 1 ((p.kinds.map (DV.int .i64)).drop (((n : Nat) : Int).toNat * 1)) = some (.int .i64 p.kinds[n]) := partD_one (by simp [hn])
   generalize p.kinds[n] = k at k3 hrow
   have hko : kindOk k = (decide (1 ≤ k) && decide (k ≤ 99)) := rfl
   have l1 : decide (k < 1) = !(decide (1 ≤ k)) := by rw [← decide_not, decide_eq_decide]; omega
   have l99 : decide (k > 99) = !(decide (k ≤ 99)) := by rw [← decide_not, decide_eq_decide]; omega
   refine RG.nilS (AC.cond_t rfl (AC.skip (AC.seq (AC.block (AC.seq (AC.reg ?_))))))
   refine go1 ?_
   refine go1 ?_
   refine go1 ?_
   refine RG.p .d (evP_iadr wh wh (by omega)) ?_
   refine RG.p .d (evP_ldc wh hrow) ?_
   refine go1 ?_
   rw [l1]
   cases g1 : decide (1 ≤ k)
   · rw [hko, g1] at k3
     refine au ?_
     exact AC.ret (done (q := false) (by rw [placeF, k3]; simp) rfl)
   refine go1 ?_
   refine go1 ?_
   refine go1 ?_
   refine go1 ?_
   refine RG.p .d (evP_iadr wh wh (by omega)) ?_
   refine RG.p .d (evP_ldc wh hrow) ?_
   refine go1 ?_
   rw [l99]
   cases g2 : decide (k ≤ 99)
   · rw [hko, g1, g2] at k3
     refine au ?_
     exact AC.ret (done (q := false) (by rw [placeF, k3]; simp) rfl)
   rw [hko, g1, g2] at k3
   refine au ?_
   exact ih (n + 1) _ ⟨rfl, by omega, k3⟩ (by omega) _ ⟨rfl, rfl, trivial⟩
theorem refCheckD_ok (d : Dvc) : PF prog G 20 [.agg (dvcC d)] (.int .i64 (checkD d)) := by
 intro H
 refine CALL.of cF20 (Nat.le_of_ble_eq_true rfl) ?_
 refine AC.seq (AC.reg ?_)
 refine RG.box (d := .agg (dvcC d)) (ys := dvcC d) .d rfl rfl fun b hb => ?_
 rw [dvcC]
 have hsb : SubH H (H.upd b (some (.cells [.str d.man, .str d.mod_, .str d.soft, .str d.id, .str d.type, .bool d.large, .lst (plcsC d.places) d.places.length 6 none] 28))) := SubH.fresh hb
 have hHb : (H.upd b (some (.cells [.str d.man, .str d.mod_, .str d.soft, .str d.id, .str d.type, .bool d.large, .lst (plcsC d.places) d.places.length 6 none] 28))) b = some (.cells [.str d.man, .str d.mod_, .str d.soft, .str d.id, .str d.type, .bool d.large, .lst (plcsC d.places) d.places.length 6 none] 28) := Hp.upd_same
 generalize H.upd b (some (.cells [.str d.man, .str d.mod_, .str d.soft, .str d.id, .str d.type, .bool d.large, .lst (plcsC d.places) d.places.length 6 none] 28)) = HH at hsb hHb ⊢
 have done : ∀ {fr : Fr} {q : Int}, q = checkD d → fr 2 = .int .i64 q → Fin F20.rs (fun d' H' => d' = .int .i64 (checkD d) ∧ H' = H) (fun _ _ => False) .ret fr HH := by
  intro fr q hq h2
  exact finD (H' := H) rfl hsb ⟨by show fr 2 = _; rw [h2, hq], rfl⟩
 have lt1 : decide (((d.places.length : Nat) : Int) < 1) = decide (d.places.length < 1) := by rw [decide_eq_decide]; omega
 have gt6 : decide (((d.places.length : Nat) : Int) > 6) = decide (6 < d.places.length) := by rw [decide_eq_decide]; omega
 refine au ?_
 rw [lt1]
 cases h1 : decide (d.places.length < 1)
 case true =>
  refine au ?_
  exact AC.ret (done (by rw [checkD, h1]; rfl) rfl)
 refine au ?_
 rw [gt6]
 cases h2 : decide (6 < d.places.length)
 case true =>
  refine au ?_
  exact AC.ret (done (by rw [checkD, h1, h2]; rfl) rfl)
 have hl := of_decide_eq_false h2
 have hC : checkD d = bif !(d.places.all placeF) then 3 else bif !(wordsD d) then 3 else 0 := by rw [checkD, h1, h2]; rfl
 refine al ?_
 refine AC.bloopH (α := Nat) (β := Unit) (fun n => d.places.length - n) (fun n => [(1, .ptr b 0), (3, .int .i64 n)])
  (fun n H' => H' = HH ∧ n ≤ d.places.length ∧ d.places.all placeF = (d.places.drop n).all placeF) (fun _ => [(1, .ptr b 0)]) (fun _ H' => H' = HH ∧ d.places.all placeF = true) ?_ ?_ 0 HH ⟨rfl, Nat.zero_le _, rfl⟩ ⟨rfl, rfl, trivial⟩
 · rintro _ He fr ⟨rfl, h3⟩ hfr
   rw [h3] at hC
   refine AC.to _ hfr ?_
   repeat (first | refine go1 ?_ | refine RG.zD ?_ | refine RG.callP .d rfl (refmaybe_ok d.man) ?_ | refine nav ?_)
   cases g1 : maybeF d.man
   case false =>
    refine au ?_
    exact AC.ret (done (by rw [hC, wordsD, g1]; rfl) rfl)
   repeat (first | refine go1 ?_ | refine RG.zD ?_ | refine RG.callP .d rfl (refmaybe_ok d.mod_) ?_ | refine nav ?_)
   cases g2 : maybeF d.mod_
   case false =>
    refine au ?_
    exact AC.ret (done (by rw [hC, wordsD, g1, g2]; rfl) rfl)
   repeat (first | refine go1 ?_ | refine RG.zD ?_ | refine RG.callP .d rfl (refmaybe_ok d.soft) ?_ | refine nav ?_)
   cases g3 : maybeF d.soft
   case false =>
    refine au ?_
    exact AC.ret (done (by rw [hC, wordsD, g1, g2, g3]; rfl) rfl)
   repeat (first | refine go1 ?_ | refine RG.zD ?_ | refine RG.callP .d rfl (refword_ok d.id) ?_ | refine nav ?_)
   cases g4 : wordF d.id
   case false =>
    refine au ?_
    exact AC.ret (done (by rw [hC, wordsD, g1, g2, g3, g4]; rfl) rfl)
   repeat (first | refine go1 ?_ | refine RG.zD ?_ | refine RG.callP .d rfl (refword_ok d.type) ?_ | refine nav ?_)
   cases g5 : wordF d.type
   case false =>
    refine au ?_
    exact AC.ret (done (by rw [hC, wordsD, g1, g2, g3, g4, g5]; rfl) rfl)
   refine au ?_
   exact AC.ret (done (by rw [hC, wordsD, g1, g2, g3, g4, g5]; rfl) rfl)
 · rintro n H' ⟨rfl, h3, h4⟩ ih ex
   refine AC.seq (AC.seq (AC.reg ?_))
   refine go ?_
   cases e1 : decide ((n : Int) < d.places.length)
   · have e := of_decide_eq_false e1
     have : d.places.drop n = [] := List.drop_eq_nil_of_le (by omega)
     rw [this] at h4
     exact RG.nilS (AC.cond_f rfl (AC.exit (ex () _ _ ⟨rfl, h4⟩ ⟨rfl, trivial⟩)))
   have e := of_decide_eq_true e1
   have hn : n < d.places.length := by omega
   rw [List.drop_eq_getElem_cons hn, List.all_cons] at h4
   have hrow := rowD (sz := 6) plcC (fun _ => rfl) d.places n _ (List.getElem?_eq_getElem hn)
   have hrow' : partD true 0 6 ((plcsC d.places).drop (((n : Nat) : Int).toNat * 6)) = some (.agg (plcC d.places[n])) := partD_row (i := n) (sz := 6) hrow (by rw [plcsC_length]; omega)
   generalize d.places[n] = pl at h4 hrow'
   refine RG.nilS (AC.cond_t rfl (AC.skip (AC.seq (AC.block (AC.seq (AC.reg ?_))))))
   refine go1 ?_
   refine go1 ?_
   refine go1 ?_
   refine RG.p .d (evP_iadr wh wh (by omega)) ?_
   refine RG.p .d (evP_ldc wh hrow') ?_
   refine RG.callP .d rfl (refplace_ok pl) ?_
   cases c1 : placeF pl
   · rw [c1, Bool.false_and] at h4
     refine au ?_
     exact AC.ret (done (by rw [hC, h4]; rfl) rfl)
   · rw [c1, Bool.true_and] at h4
     refine au ?_
     exact ih (n + 1) _ ⟨rfl, by omega, h4⟩ (by omega) _ ⟨rfl, rfl, trivial⟩
def F36 : FN := ⟨32, (.seq (.reg [ji 4 (.mv (.c (.bool false)))])
 (.seq (.seq (.reg [ji 6 (.mv (.t 0)), ji 7 (.len false (.t 6)), ji 8 (.mv (.t 1)), ji 9 (.len false (.t 8)), ji 10 (.bin .neq (.t 7) (.t 9))])
 (.cond (.t 10) (.seq (.reg [ji 4 (.mv (.c (.bool false)))])
 .ret)
 .skip))
 (.seq (.seq (.reg [ji 5 (.mv (ci 0))])
 (.block 0 (.loop (.seq (.seq (.reg [ji 11 (.mv (.t 5)), ji 12 (.mv (.t 0)), ji 13 (.len false (.t 12)), ji 14 (.bin .lss (.t 11) (.t 13)), ji 15 (.mv (.t 14)), jg 16 15 true (.mv (.t 5)), jg 17 15 true (.mv (.t 1)), jg 18 15 true (.len false (.t 17)), jg 19 15 true (.bin .lss (.t 16) (.t 18)), ji 20 (.pick (.t 15) (.t 19) (.c (.bool false)))])
 (.cond (.t 20) .skip
 (.exit 0)))
 (.seq (.block 1 (.seq (.draw [ji 23 (.mv (.t 0)), ji 24 (.mv (.t 5)), ji 25 (.iadr 2 (.t 23) (.t 24)), ji 26 (.ld true 2 (.t 25)), ji 27 (.mv (.t 1)), ji 28 (.mv (.t 5)), ji 29 (.iadr 2 (.t 27) (.t 28)), ji 30 (.ld true 2 (.t 29)), ji 31 (.oth (.binOp .neq 115 (.tmp 26) (.tmp 30) 115))] [[], [], [0, 1], [2], [], [], [4, 5], [6], [3, 7]])
 (.cond (.t 31) (.seq (.reg [ji 4 (.mv (.c (.bool false)))])
 .ret)
 .skip)))
 (.reg [ji 21 (.mv (.t 5)), ji 22 (.bin .add (.t 21) (ci 1)), ji 5 (.mv (.t 22))]))))))
 (.seq (.reg [ji 4 (.mv (.c (.bool true)))])
 .ret)))), [.tmp 4]⟩
theorem cF36 : cFn prog 36 = some F36 := by kernel_rfl
def F11 : FN := ⟨151, (.seq (.reg [ji 2 (.box 28 (.t 0)), ji 3 (.box 28 (.t 1)), ji 4 (.mv (.c (.bool false)))])
 (.seq (.seq (.reg [ji 9 (.fadr 0 (.t 2)), ji 10 (.ld false 1 (.t 9)), ji 11 (.fadr 0 (.t 3)), ji 12 (.ld false 1 (.t 11)), ji 13 (.bin .neq (.t 10) (.t 12)), ji 14 (.mv (.t 13)), jg 15 14 false (.fadr 1 (.t 2)), jg 16 14 false (.ld false 1 (.t 15)), jg 17 14 false (.fadr 1 (.t 3)), jg 18 14 false (.ld false 1 (.t 17)), jg 19 14 false (.bin .neq (.t 16) (.t 18)), ji 20 (.pick (.t 14) (.c (.bool true)) (.t 19)), ji 21 (.mv (.t 20)), jg 22 21 false (.fadr 2 (.t 2)), jg 23 21 false (.ld false 1 (.t 22)), jg 24 21 false (.fadr 2 (.t 3)), jg 25 21 false (.ld false 1 (.t 24)), jg 26 21 false (.bin .neq (.t 23) (.t 25)), ji 27 (.pick (.t 21) (.c (.bool true)) (.t 26)), ji 28 (.mv (.t 27)), jg 29 28 false (.fadr 3 (.t 2)), jg 30 28 false (.ld false 1 (.t 29)), jg 31 28 false (.fadr 3 (.t 3)), jg 32 28 false (.ld false 1 (.t 31)), jg 33 28 false (.bin .neq (.t 30) (.t 32)), ji 34 (.pick (.t 28) (.c (.bool true)) (.t 33)), ji 35 (.mv (.t 34)), jg 36 35 false (.fadr 4 (.t 2)), jg 37 35 false (.ld false 1 (.t 36)), jg 38 35 false (.fadr 4 (.t 3)), jg 39 35 false (.ld false 1 (.t 38)), jg 40 35 false (.bin .neq (.t 37) (.t 39)), ji 41 (.pick (.t 35) (.c (.bool true)) (.t 40)), ji 42 (.mv (.t 41)), jg 43 42 false (.fadr 5 (.t 2)), jg 44 42 false (.ld false 1 (.t 43)), jg 45 42 false (.fadr 5 (.t 3)), jg 46 42 false (.ld false 1 (.t 45)), jg 47 42 false (.eqn true .bool (.t 44) (.t 46)), ji 48 (.pick (.t 42) (.c (.bool true)) (.t 47)), ji 49 (.mv (.t 48)), jg 50 49 false (.fadr 6 (.t 2)), jg 51 49 false (.ld false 1 (.t 50)), jg 52 49 false (.len false (.t 51)), jg 53 49 false (.fadr 6 (.t 3)), jg 54 49 false (.ld false 1 (.t 53)), jg 55 49 false (.len false (.t 54)), jg 56 49 false (.bin .neq (.t 52) (.t 55)), ji 57 (.pick (.t 49) (.c (.bool true)) (.t 56))])
 (.cond (.t 57) (.seq (.reg [ji 4 (.mv (.c (.bool false)))])
 .ret)
 .skip))
 (.seq (.seq (.reg [ji 5 (.mv (ci 0))])
 (.block 0 (.loop (.seq (.seq (.reg [ji 58 (.mv (.t 5)), ji 59 (.fadr 6 (.t 2)), ji 60 (.ld false 1 (.t 59)), ji 61 (.len false (.t 60)), ji 62 (.bin .lss (.t 58) (.t 61)), ji 63 (.mv (.t 62)), jg 64 63 true (.mv (.t 5)), jg 65 63 true (.fadr 6 (.t 3)), jg 66 63 true (.ld false 1 (.t 65)), jg 67 63 true (.len false (.t 66)), jg 68 63 true (.bin .lss (.t 64) (.t 67)), ji 69 (.pick (.t 63) (.t 68) (.c (.bool false)))])
 (.cond (.t 69) .skip
 (.exit 0)))
 (.seq (.block 1 (.seq (.draw [ji 72 (.fadr 6 (.t 2)), ji 73 (.ld false 1 (.t 72)), ji 74 (.mv (.t 5)), ji 75 (.iadr 6 (.t 73) (.t 74)), ji 76 (.ld true 6 (.t 75)), ji 77 (.fadr 6 (.t 3)), ji 78 (.ld false 1 (.t 77)), ji 79 (.mv (.t 5)), ji 80 (.iadr 6 (.t 78) (.t 79)), ji 81 (.ld true 6 (.t 80)), ji 6 (.alloc [(.str []), (.str []), (.int .i64 0), .nils, .nils, .nils] 56), ji 7 (.alloc [(.str []), (.str []), (.int .i64 0), .nils, .nils, .nils] 56), jn (.st 6 (.t 6) (.t 76)), jn (.st 6 (.t 7) (.t 81))] [[], [0], [], [1, 2], [3], [], [5], [], [6, 7], [8], [], [], [10, 4, 0, 1, 2, 3, 4, 10, 11], [11, 9, 12, 0, 1, 2, 3, 4, 5, 6, 7, 8, 9, 10, 11, 12]])
 (.seq (.seq (.reg [ji 82 (.fadr 0 (.t 6)), ji 83 (.ld false 1 (.t 82)), ji 84 (.fadr 0 (.t 7)), ji 85 (.ld false 1 (.t 84)), ji 86 (.bin .neq (.t 83) (.t 85)), ji 87 (.mv (.t 86)), jg 88 87 false (.fadr 1 (.t 6)), jg 89 87 false (.ld false 1 (.t 88)), jg 90 87 false (.fadr 1 (.t 7)), jg 91 87 false (.ld false 1 (.t 90)), jg 92 87 false (.bin .neq (.t 89) (.t 91)), ji 93 (.pick (.t 87) (.c (.bool true)) (.t 92)), ji 94 (.mv (.t 93)), jg 95 94 false (.fadr 2 (.t 6)), jg 96 94 false (.ld false 1 (.t 95)), jg 97 94 false (.fadr 2 (.t 7)), jg 98 94 false (.ld false 1 (.t 97)), jg 99 94 false (.bin .neq (.t 96) (.t 98)), ji 100 (.pick (.t 94) (.c (.bool true)) (.t 99)), ji 101 (.mv (.t 100)), jg 102 101 false (.fadr 3 (.t 6)), jg 103 101 false (.ld false 1 (.t 102)), jg 104 101 false (.fadr 3 (.t 7)), jg 105 101 false (.ld false 1 (.t 104)), jg 106 101 false (.call 36 [(.t 103), (.t 105)]), jg 107 101 false (.un .not (.t 106)), ji 108 (.pick (.t 101) (.c (.bool true)) (.t 107)), ji 109 (.mv (.t 108)), jg 110 109 false (.fadr 4 (.t 6)), jg 111 109 false (.ld false 1 (.t 110)), jg 112 109 false (.fadr 4 (.t 7)), jg 113 109 false (.ld false 1 (.t 112)), jg 114 109 false (.call 36 [(.t 111), (.t 113)]), jg 115 109 false (.un .not (.t 114)), ji 116 (.pick (.t 109) (.c (.bool true)) (.t 115)), ji 117 (.mv (.t 116)), jg 118 117 false (.fadr 5 (.t 6)), jg 119 117 false (.ld false 1 (.t 118)), jg 120 117 false (.len false (.t 119)), jg 121 117 false (.fadr 5 (.t 7)), jg 122 117 false (.ld false 1 (.t 121)), jg 123 117 false (.len false (.t 122)), jg 124 117 false (.bin .neq (.t 120) (.t 123)), ji 125 (.pick (.t 117) (.c (.bool true)) (.t 124))])
 (.cond (.t 125) (.seq (.reg [ji 4 (.mv (.c (.bool false)))])
 .ret)
 .skip))
 (.seq (.reg [ji 8 (.mv (ci 0))])
 (.block 2 (.loop (.seq (.seq (.reg [ji 126 (.mv (.t 8)), ji 127 (.fadr 5 (.t 6)), ji 128 (.ld false 1 (.t 127)), ji 129 (.len false (.t 128)), ji 130 (.bin .lss (.t 126) (.t 129)), ji 131 (.mv (.t 130)), jg 132 131 true (.mv (.t 8)), jg 133 131 true (.fadr 5 (.t 7)), jg 134 131 true (.ld false 1 (.t 133)), jg 135 131 true (.len false (.t 134)), jg 136 131 true (.bin .lss (.t 132) (.t 135)), ji 137 (.pick (.t 131) (.t 136) (.c (.bool false)))])
 (.cond (.t 137) .skip
 (.exit 2)))
 (.seq (.block 3 (.seq (.draw [ji 140 (.fadr 5 (.t 6)), ji 141 (.ld false 1 (.t 140)), ji 142 (.mv (.t 8)), ji 143 (.iadr 1 (.t 141) (.t 142)), ji 144 (.ld false 1 (.t 143)), ji 145 (.fadr 5 (.t 7)), ji 146 (.ld false 1 (.t 145)), ji 147 (.mv (.t 8)), ji 148 (.iadr 1 (.t 146) (.t 147)), ji 149 (.ld false 1 (.t 148)), ji 150 (.bin .neq (.t 144) (.t 149))] [[], [0], [], [1, 2], [3], [], [5], [], [6, 7], [8], [4, 9]])
 (.cond (.t 150) (.seq (.reg [ji 4 (.mv (.c (.bool false)))])
 .ret)
 .skip)))
 (.reg [ji 138 (.mv (.t 8)), ji 139 (.bin .add (.t 138) (ci 1)), ji 8 (.mv (.t 139))])))))))))
 (.reg [ji 70 (.mv (.t 5)), ji 71 (.bin .add (.t 70) (ci 1)), ji 5 (.mv (.t 71))]))))))
 (.seq (.reg [ji 4 (.mv (.c (.bool true)))])
 .ret)))), [.tmp 4]⟩
theorem cF11 : cFn prog 11 = some F11 := by kernel_rfl
theorem run_part_str {P : Program} {w : World} {t : TypeId} {xs : Array Value} {off : Nat} {v : Value} (hu : P.underlying t = some .string) (hx : xs[off]? = some v) : (part t xs off).run P w = .ok v w := by
 simp [part, isAgg, run_underlying hu, hx]
theorem run_neq2 {P : Program} {w : World} {H : Hp} {Z : Zn} {t s : TypeId} {n1 n2 : String} {X Y : Operand} {x y : Value} {a b c d : List UInt8} (hst : P.underlying t = some (.struct (P.fieldsOf t))) (hp : P.stoodInHeld t = false) (hm : P.eqGuardType P.depth t = false)
  (hfs : (P.fieldsOf t).toList.map (fun f => (f.name, f.type, f.offset)) = [(n1, s, 0), (n2, s, 1)]) (h1 : n1 ≠ "_") (h2 : n2 ≠ "_") (hs : P.underlying s = some .string)
  (hx : VR w H Z x (.agg [.str a, .str b])) (hy : VR w H Z y (.agg [.str c, .str d])) :
  (do eqGuard .neq t X Y x y; binOp .neq t x y : Sem Value).run P w = .ok (.bool (!(a == c && b == d))) w := by
 obtain ⟨xs, rfl, x1, _, x2⟩ := hx.agg_inv
 obtain ⟨ys, rfl, y1, _, y2⟩ := hy.agg_inv
 have hget : ∀ (zs : Array Value), zs.size = 2 → ∃ u v, zs[0]? = some u ∧ zs[1]? = some v := fun zs hz => ⟨zs[0], zs[1], by simp [hz], by simp [hz]⟩
 obtain ⟨u0, u1, hu0, hu1⟩ := hget xs x1
 obtain ⟨v0, v1, hv0, hv1⟩ := hget ys y1
 obtain ⟨sa, rfl, ea⟩ := (x2 0 u0 (.str a) hu0 rfl).str_inv
 obtain ⟨sb, rfl, eb⟩ := (x2 1 u1 (.str b) hu1 rfl).str_inv
 obtain ⟨sc, rfl, ec⟩ := (y2 0 v0 (.str c) hv0 rfl).str_inv
 obtain ⟨sd, rfl, ed⟩ := (y2 1 v1 (.str d) hv1 rfl).str_inv
 have key : (Op.equalIn 10000 t (.agg xs) (.agg ys)).run P w = .ok (a == c && b == d) w := by
  rw [run_equalIn_struct w 9999 t xs ys hst hp]
  generalize (P.fieldsOf t).toList = l at hfs
  obtain ⟨f1, f2, rfl⟩ : ∃ f1 f2, l = [f1, f2] := by
   have hl := congrArg List.length hfs
   rw [List.length_map] at hl
   match l, hl with
   | [f1, f2], _ => exact ⟨f1, f2, rfl⟩
  simp only [List.map_cons, List.map_nil, List.cons.injEq, Prod.mk.injEq, and_true] at hfs
  obtain ⟨⟨e1, e2, e3⟩, e4, e5, e6⟩ := hfs
  have f1n : f1.name ≠ "_" := by rw [e1]; exact h1
  have f2n : f2.name ≠ "_" := by rw [e4]; exact h2
  have k1 : (sa.toList == sc.toList) = (a == c) := by rw [ByteArray.toList_eq, ByteArray.toList_eq, ea, ec]
  have k2 : (sb.toList == sd.toList) = (b == d) := by rw [ByteArray.toList_eq, ByteArray.toList_eq, eb, ed]
  have hq : ∀ x y, (Op.equalIn 9999 s (.string x) (.string y)).run P w = .ok (x.toList == y.toList) w := fun x y => run_equalIn_string w 9998 s x y hs
  have p1 := run_part_str (w := w) hs hu0
  have p2 := run_part_str (w := w) hs hv0
  have p3 := run_part_str (w := w) hs hu1
  have p4 := run_part_str (w := w) hs hv1
  unfold Op.eqFields
  rw [if_pos f1n]
  simp only [e2, e3, Sem.run_bind, p1, p2, hq, k1, Result.andThen_ok]
  cases a == c
  · simp
  simp only [Bool.not_true, Bool.false_eq_true, if_false, Bool.true_and]
  unfold Op.eqFields
  rw [if_pos f2n]
  simp only [e5, e6, Sem.run_bind, p3, p4, hq, k2, Result.andThen_ok]
  cases b == d <;> simp [Op.eqFields]
 simp only [Sem.run_bind, run_eqGuard_agg w .neq t X Y xs ys hm, Result.andThen_ok, run_neq_struct, key]
theorem ST.neq2 {r : Option Nat} {N : Nat} {P : Program} {t s u : TypeId} {i j : Nat} {n1 n2 : String} {a b c d : List UInt8} {dst : Option Nat} {K : Fr → Hp → Prop} {Q : EX → Fr → Hp → Prop} {fr : Fr} {H : Hp} (hst : P.underlying t = some (.struct (P.fieldsOf t))) (hp : P.stoodInHeld t = false) (hm : P.eqGuardType P.depth t = false)
  (hfs : (P.fieldsOf t).toList.map (fun f => (f.name, f.type, f.offset)) = [(n1, s, 0), (n2, s, 1)]) (h1 : n1 ≠ "_") (h2 : n2 ≠ "_") (hs : P.underlying s = some .string)
  (hx' : fr i = .agg [.str a, .str b]) (hy' : fr j = .agg [.str c, .str d]) (h : K (fr.put dst (.bool (!(a == c && b == d)))) H) : ST P G r N (.oth (.binOp .neq t (.tmp i) (.tmp j) u)) dst K Q fr H := by
 intro n base w Z A o hc hx hdst hr hf
 have ho := cOp_oth hc
 have hi := oth_slot (t := i) hx (x := [.tmp i, .tmp j]) rfl (by simp)
 have hj := oth_slot (t := j) hx (x := [.tmp i, .tmp j]) rfl (by simp)
 have vi : VR w H Z (A.eval (.tmp i)) (.agg [.str a, .str b]) := by have := hf.vals i hi; rw [hx'] at this; exact this
 have vj : VR w H Z (A.eval (.tmp j)) (.agg [.str c, .str d]) := by have := hf.vals j hj; rw [hy'] at this; exact this
 refine wpIn_value (v := .bool (!(a == c && b == d))) (by rw [ho]; intro c e; cases e) ?_ ⟨_, H, Z, h, hr, by rw [hdst]; exact hf.putO (.bool _), .refl hr⟩
 exact execOp_v (s := do eqGuard .neq t (.tmp i) (.tmp j) (A.eval (.tmp i)) (A.eval (.tmp j)); binOp .neq t (A.eval (.tmp i)) (A.eval (.tmp j))) (by simp only [execOp, ho]) (run_neq2 hst hp hm hfs h1 h2 hs vi vj)
theorem frm_u : Go.Program.underlying prog 115 = some (.struct (Go.Program.fieldsOf prog 115)) := by kernel_rfl
theorem frm_p : Go.Program.stoodInHeld prog 115 = false := by kernel_rfl
theorem frm_g : Go.Program.eqGuardType prog (Go.Program.depth prog) 115 = false := by kernel_rfl
theorem frm_s : Go.Program.underlying prog 9 = some .string := by kernel_rfl
theorem frm_f : (Go.Program.fieldsOf prog 115).toList.map (fun f => (f.name, f.type, f.offset)) = [("Type", 9, 0), ("Version", 9, 1)] := by kernel_rfl
theorem QV.neqF {r : Option Nat} {N : Nat} {i j : Nat} {u : TypeId} {a b c d : List UInt8} {dst : Option Nat} {fr : Fr} {H : Hp} (hx : fr i = .agg [.str a, .str b]) (hy : fr j = .agg [.str c, .str d]) :
  QV prog G r N ⟨dst, none, .oth (.binOp .neq 115 (.tmp i) (.tmp j) u)⟩ fr H (.bool (!(a == c && b == d))) := by
 intro fr1 l Q hs k
 have hi : fr1 i = fr i := hs i (show i ∈ [i, j] by simp)
 have hj : fr1 j = fr j := hs j (show j ∈ [i, j] by simp)
 exact RG.st (ST.neq2 frm_u frm_p frm_g frm_f (by decide) (by decide) frm_s (hi.trans hx) (hj.trans hy) k)
theorem sameForms_ok (l : List Frm) (hl : l.length ≤ 4611686018427387904) : PF prog G 36 [.lst (frmsC l) l.length 2 none, .lst (frmsC l) l.length 2 none] (.bool true) := by
 intro H
 refine CALL.of cF36 (Nat.le_of_ble_eq_true rfl) ?_
 have hne : (((l.length : Nat) : Int) != (l.length : Nat)) = false := by simp
 refine au ?_
 rw [hne]
 refine al ?_
 refine AC.bloopH (α := Nat) (β := Unit) (fun n => l.length - n) (fun n => [(0, .lst (frmsC l) l.length 2 none), (1, .lst (frmsC l) l.length 2 none), (5, .int .i64 n)])
  (fun n H' => H' = H ∧ n ≤ l.length) (fun _ => []) (fun _ H' => H' = H) ?_ ?_ 0 H ⟨rfl, Nat.zero_le _⟩ ⟨rfl, rfl, rfl, trivial⟩
 · rintro _ He fr rfl hfr
   show AC _ _ _ _ _ _ _ _
   refine au ?_
   exact AC.ret (fin rfl ⟨rfl, rfl⟩)
 · rintro n H' ⟨rfl, h3⟩ ih ex
   refine AC.seq (AC.seq (AC.reg ?_))
   refine go ?_
   cases e1 : decide ((n : Int) < l.length)
   · refine go ?_
     exact RG.nilS (AC.cond_f rfl (AC.exit (ex () _ _ rfl trivial)))
   have e := of_decide_eq_true e1
   have hn : n < l.length := by omega
   refine go ?_
   rw [e1]
   refine RG.nilS (AC.cond_t rfl (AC.skip (AC.seq (AC.block (AC.seq (AC.drawP [] rfl ?_))))))
   have hld : partD true 0 2 (.str l[n].1 :: .str l[n].2 :: frmsC (l.drop (n + 1))) = some (.agg [.str l[n].1, .str l[n].2]) := rfl
   first|refine VP.z0 0 ?_|refine VP.z1 0 ?_|refine VP.z2 0 ?_|refine VP.z3 0 ?_|refine VP.z4 0 ?_|refine VP.z5 0 ?_|refine VP.z6 0 ?_|refine VP.z7 0 ?_|refine VP.z8 0 ?_
   first|refine VP.z0 1 ?_|refine VP.z1 1 ?_|refine VP.z2 1 ?_|refine VP.z3 1 ?_|refine VP.z4 1 ?_|refine VP.z5 1 ?_|refine VP.z6 1 ?_|refine VP.z7 1 ?_|refine VP.z8 1 ?_
   refine VP.v 2 rfl (evP_form rfl rfl hn) ?_
   refine VP.v 3 rfl (evP_ldc rfl hld) ?_
   first|refine VP.z0 4 ?_|refine VP.z1 4 ?_|refine VP.z2 4 ?_|refine VP.z3 4 ?_|refine VP.z4 4 ?_|refine VP.z5 4 ?_|refine VP.z6 4 ?_|refine VP.z7 4 ?_|refine VP.z8 4 ?_
   first|refine VP.z0 5 ?_|refine VP.z1 5 ?_|refine VP.z2 5 ?_|refine VP.z3 5 ?_|refine VP.z4 5 ?_|refine VP.z5 5 ?_|refine VP.z6 5 ?_|refine VP.z7 5 ?_|refine VP.z8 5 ?_
   refine VP.v 6 rfl (evP_form rfl rfl hn) ?_
   refine VP.v 7 rfl (evP_ldc rfl hld) ?_
   refine VP.q 8 ?_ (hs := QV.neqF rfl rfl)
   refine VP.pd ?_
   refine AC.cond_f (by show DV.bool (!(l[n].1 == l[n].1 && l[n].2 == l[n].2)) = _; simp) (AC.skip ?_)
   refine au ?_
   exact ih (n + 1) _ ⟨rfl, by omega⟩ (by omega) _ ⟨rfl, rfl, rfl, trivial⟩
def fitsP (p : Plc) : Prop := p.takes.length ≤ 140737488355328 ∧ p.gives.length ≤ 140737488355328 ∧ p.kinds.length ≤ 140737488355328
def fitsD (d : Dvc) : Prop := d.places.length ≤ 140737488355328 ∧ ∀ p ∈ d.places, fitsP p
def Z6 : List DV := [.str [], .str [], .int .i64 0, .nils, .nils, .nils]
set_option maxRecDepth 8000 in
theorem Same20_ok (d : Dvc) (hf : fitsD d) : PF prog G 11 [.agg (dvcC d), .agg (dvcC d)] (.bool true) := by
 intro H
 refine CALL.of cF11 (Nat.le_of_ble_eq_true rfl) ?_
 refine AC.seq (AC.reg ?_)
 refine RG.box (d := .agg (dvcC d)) (ys := dvcC d) .d rfl rfl fun b2 q2 => ?_
 refine RG.box (d := .agg (dvcC d)) (ys := dvcC d) .d rfl rfl fun b3 q3 => ?_
 rw [dvcC] at q3 ⊢
 have n32 : b3 ≠ b2 := fun e => by rw [e, Hp.upd_same] at q3; cases q3
 have hsb : SubH H ((H.upd b2 (some (.cells [.str d.man, .str d.mod_, .str d.soft, .str d.id, .str d.type, .bool d.large, .lst (plcsC d.places) d.places.length 6 none] 28))).upd b3 (some (.cells [.str d.man, .str d.mod_, .str d.soft, .str d.id, .str d.type, .bool d.large, .lst (plcsC d.places) d.places.length 6 none] 28))) := (SubH.fresh q2).trans (SubH.fresh q3)
 have h3 : ((H.upd b2 (some (.cells [.str d.man, .str d.mod_, .str d.soft, .str d.id, .str d.type, .bool d.large, .lst (plcsC d.places) d.places.length 6 none] 28))).upd b3 (some (.cells [.str d.man, .str d.mod_, .str d.soft, .str d.id, .str d.type, .bool d.large, .lst (plcsC d.places) d.places.length 6 none] 28))) b3 = some (.cells [.str d.man, .str d.mod_, .str d.soft, .str d.id, .str d.type, .bool d.large, .lst (plcsC d.places) d.places.length 6 none] 28) := Hp.upd_same
 have h2 : ((H.upd b2 (some (.cells [.str d.man, .str d.mod_, .str d.soft, .str d.id, .str d.type, .bool d.large, .lst (plcsC d.places) d.places.length 6 none] 28))).upd b3 (some (.cells [.str d.man, .str d.mod_, .str d.soft, .str d.id, .str d.type, .bool d.large, .lst (plcsC d.places) d.places.length 6 none] 28))) b2 = some (.cells [.str d.man, .str d.mod_, .str d.soft, .str d.id, .str d.type, .bool d.large, .lst (plcsC d.places) d.places.length 6 none] 28) := (Hp.upd_ne (Ne.symm n32)).trans Hp.upd_same
 generalize (H.upd b2 (some (.cells [.str d.man, .str d.mod_, .str d.soft, .str d.id, .str d.type, .bool d.large, .lst (plcsC d.places) d.places.length 6 none] 28))).upd b3 (some (.cells [.str d.man, .str d.mod_, .str d.soft, .str d.id, .str d.type, .bool d.large, .lst (plcsC d.places) d.places.length 6 none] 28)) = HH at hsb h2 h3 ⊢
 have hb : ∀ (a : List UInt8), (!(a == a)) = false := fun a => by simp
 refine au ?_
 rw [hb d.man]
 refine au ?_
 rw [hb d.mod_]
 refine au ?_
 rw [hb d.soft]
 refine au ?_
 rw [hb d.id]
 refine au ?_
 rw [hb d.type]
 refine au ?_
 have hbb : (bif true then !(d.large == d.large) else (d.large == d.large)) = false := by cases d.large <;> rfl
 rw [hbb]
 refine au ?_
 have hne : ∀ n : Nat, (((n : Nat) : Int) != (n : Nat)) = false := fun n => by simp
 rw [hne]
 refine al ?_
 obtain ⟨hdl, hdp⟩ := hf
 refine AC.bloopH (α := Nat) (β := Unit) (fun n => d.places.length - n) (fun n => [(2, .ptr b2 0), (3, .ptr b3 0), (5, .int .i64 n)])
  (fun n H' => H' = HH ∧ n ≤ d.places.length) (fun _ => []) (fun _ H' => H' = HH) ?_ ?_ 0 HH ⟨rfl, Nat.zero_le _⟩ ⟨rfl, rfl, rfl, trivial⟩
 · rintro _ He fr rfl hfr
   show AC _ _ _ _ _ _ _ _
   refine au ?_
   exact AC.ret (finD (H' := H) rfl hsb ⟨rfl, rfl⟩)
 · rintro n H' ⟨rfl, h5⟩ ih ex
   refine AC.seq (AC.seq (AC.reg ?_))
   refine go ?_
   cases e1 : decide ((n : Int) < d.places.length)
   · refine go ?_
     exact RG.nilS (AC.cond_f rfl (AC.exit (ex () _ _ rfl trivial)))
   have e := of_decide_eq_true e1
   have hn : n < d.places.length := by omega
   refine go ?_
   rw [e1]
   have hrow := rowD (sz := 6) plcC (fun _ => rfl) d.places n _ (List.getElem?_eq_getElem hn)
   have hrow' : partD true 0 6 ((plcsC d.places).drop (((n : Nat) : Int).toNat * 6)) = some (.agg (plcC d.places[n])) := partD_row (i := n) (sz := 6) hrow (by rw [plcsC_length]; omega)
   have hfp := hdp _ (List.getElem_mem hn)
   generalize d.places[n] = x at hrow' hfp
   refine RG.nilS (AC.cond_t rfl (AC.skip (AC.seq (AC.block (AC.seqI (I := fun fr' HX => ∃ q6 q7, Agrees fr' [(2, .ptr b2 0), (3, .ptr b3 0), (5, .int .i64 n), (6, .ptr q6 0), (7, .ptr q7 0)] ∧ HX q6 = some (.cells (plcC x) 56) ∧ HX q7 = some (.cells (plcC x) 56) ∧ SubH H' HX) ?_ ?_)))))
   rotate_left
   · rintro fr1 HX ⟨q6, q7, hag, l6, l7, hs⟩
     refine AC.to _ hag ?_
     clear hag
     rw [plcC] at l6 l7
     obtain ⟨f1, f2, f3⟩ := hfp
     have hnx : (x.maxId != x.maxId) = false := by simp
     refine au ?_
     rw [hb x.ref]
     refine au ?_
     rw [hb x.name]
     refine au ?_
     rw [hnx]
     repeat (first | refine go1 ?_ | refine RG.zD ?_ | refine RG.callP .d rfl (sameForms_ok x.takes (by omega)) ?_ | refine RG.callP .d rfl (sameForms_ok x.gives (by omega)) ?_ | refine nav ?_)
     rw [hne]
     refine al ?_
     refine AC.bloopH (α := Nat) (β := Unit) (fun j => x.kinds.length - j) (fun j => [(2, .ptr b2 0), (3, .ptr b3 0), (5, .int .i64 n), (6, .ptr q6 0), (7, .ptr q7 0), (8, .int .i64 j)])
      (fun j H2 => H2 = HX ∧ j ≤ x.kinds.length) (fun _ => [(2, .ptr b2 0), (3, .ptr b3 0), (5, .int .i64 n)]) (fun _ H2 => H2 = HX) ?_ ?_ 0 HX ⟨rfl, Nat.zero_le _⟩ ⟨rfl, rfl, rfl, rfl, rfl, rfl, trivial⟩
     · rintro _ He fr rfl hfr
       refine AC.to _ hfr ?_
       refine AC.drop hs (AC.reg ?_)
       refine go ?_
       exact RG.nil (ih (n + 1) _ ⟨rfl, by omega⟩ (by omega) _ ⟨rfl, rfl, rfl, trivial⟩)
     · rintro j H2 ⟨rfl, j2⟩ ih2 ex2
       refine AC.seq (AC.seq (AC.reg ?_))
       refine go ?_
       cases g1 : decide ((j : Int) < x.kinds.length)
       · refine go ?_
         exact RG.nilS (AC.cond_f rfl (AC.exit (ex2 () _ _ rfl ⟨rfl, rfl, rfl, trivial⟩)))
       have g2 := of_decide_eq_true g1
       have hj : j < x.kinds.length := by omega
       refine go ?_
       rw [g1]
       have hk : partD false 0 1 ((x.kinds.map (DV.int .i64)).drop (((j : Nat) : Int).toNat * 1)) = some (.int .i64 x.kinds[j]) := partD_one (by simp [hj])
       generalize x.kinds[j] = kk at hk
       refine RG.nilS (AC.cond_t rfl (AC.skip (AC.seq (AC.block (AC.seq (AC.drawP [] rfl ?_))))))
       first|refine VP.z0 0 ?_|refine VP.z1 0 ?_|refine VP.z2 0 ?_|refine VP.z3 0 ?_|refine VP.z4 0 ?_|refine VP.z5 0 ?_|refine VP.z6 0 ?_|refine VP.z7 0 ?_|refine VP.z8 0 ?_
       refine VP.v 1 rfl (evP_ld rfl l6 rfl) ?_
       first|refine VP.z0 2 ?_|refine VP.z1 2 ?_|refine VP.z2 2 ?_|refine VP.z3 2 ?_|refine VP.z4 2 ?_|refine VP.z5 2 ?_|refine VP.z6 2 ?_|refine VP.z7 2 ?_|refine VP.z8 2 ?_
       refine VP.v 3 rfl (evP_iadr rfl rfl (by omega)) ?_
       refine VP.v 4 rfl (evP_ldc rfl hk) ?_
       first|refine VP.z0 5 ?_|refine VP.z1 5 ?_|refine VP.z2 5 ?_|refine VP.z3 5 ?_|refine VP.z4 5 ?_|refine VP.z5 5 ?_|refine VP.z6 5 ?_|refine VP.z7 5 ?_|refine VP.z8 5 ?_
       refine VP.v 6 rfl (evP_ld rfl l7 rfl) ?_
       first|refine VP.z0 7 ?_|refine VP.z1 7 ?_|refine VP.z2 7 ?_|refine VP.z3 7 ?_|refine VP.z4 7 ?_|refine VP.z5 7 ?_|refine VP.z6 7 ?_|refine VP.z7 7 ?_|refine VP.z8 7 ?_
       refine VP.v 8 rfl (evP_iadr rfl rfl (by omega)) ?_
       refine VP.v 9 rfl (evP_ldc rfl hk) ?_
       refine VP.v (d := .bool false) 10 rfl (by show some (DV.bool (kk != kk)) = _; simp) ?_
       refine VP.pd ?_
       refine AC.cond_f rfl (AC.skip ?_)
       refine au ?_
       exact ih2 (j + 1) _ ⟨rfl, by omega⟩ (by omega) _ ⟨rfl, rfl, rfl, rfl, rfl, rfl, trivial⟩
   refine AC.drawP [10, 11, 12, 13] rfl ?_
   first|refine VP.z0 0 ?_|refine VP.z1 0 ?_|refine VP.z2 0 ?_|refine VP.z3 0 ?_|refine VP.z4 0 ?_|refine VP.z5 0 ?_|refine VP.z6 0 ?_|refine VP.z7 0 ?_|refine VP.z8 0 ?_
   refine VP.v 1 rfl (evP_ld rfl h2 rfl) ?_
   first|refine VP.z0 2 ?_|refine VP.z1 2 ?_|refine VP.z2 2 ?_|refine VP.z3 2 ?_|refine VP.z4 2 ?_|refine VP.z5 2 ?_|refine VP.z6 2 ?_|refine VP.z7 2 ?_|refine VP.z8 2 ?_
   refine VP.v 3 rfl (evP_iadr rfl rfl (by omega)) ?_
   refine VP.v 4 rfl (evP_ldc rfl hrow') ?_
   first|refine VP.z0 5 ?_|refine VP.z1 5 ?_|refine VP.z2 5 ?_|refine VP.z3 5 ?_|refine VP.z4 5 ?_|refine VP.z5 5 ?_|refine VP.z6 5 ?_|refine VP.z7 5 ?_|refine VP.z8 5 ?_
   refine VP.v 6 rfl (evP_ld rfl h3 rfl) ?_
   first|refine VP.z0 7 ?_|refine VP.z1 7 ?_|refine VP.z2 7 ?_|refine VP.z3 7 ?_|refine VP.z4 7 ?_|refine VP.z5 7 ?_|refine VP.z6 7 ?_|refine VP.z7 7 ?_|refine VP.z8 7 ?_
   refine VP.v 8 rfl (evP_iadr rfl rfl (by omega)) ?_
   refine VP.v 9 rfl (evP_ldc rfl hrow') ?_
   refine VP.pe2 10 11 (by decide) rfl rfl rfl (EF.alloc trivial) (EF.alloc trivial) (fun _ _ _ h => h.elim) (fun _ _ _ h => h.elim) (fun dd H2 ⟨q6, k1, hqq6, k2⟩ => ⟨?_, ?_⟩) (fun dd H2 ⟨q7, k1, hqq7, k2⟩ => ⟨?_, ?_⟩)
   · subst k2
     have nq62 : q6 ≠ b2 := fun e => by rw [e, h2] at hqq6; cases hqq6
     have nq63 : q6 ≠ b3 := fun e => by rw [e, h3] at hqq6; cases hqq6
     exact (by (repeat (refine stabP_cons rfl (by first | exact StabP.of (QV.evP trivial rfl) rfl | exact StabP.of (QV.bsl trivial rfl) rfl | exact StabP.of (QV.evP trivial (evP_ld rfl ((Hp.upd_ne (Ne.symm nq62)).trans h2) rfl)) rfl | exact StabP.of (QV.evP trivial (evP_ld rfl ((Hp.upd_ne (Ne.symm nq63)).trans h3) rfl)) rfl | exact StabP.of (QV.evP trivial (evP_iadr rfl rfl (by omega))) rfl | exact StabP.of (QV.evP trivial (evP_ldc rfl hrow')) rfl) ?_)); exact stabP_nil)
   · subst k1; subst k2
     have nq62 : q6 ≠ b2 := fun e => by rw [e, h2] at hqq6; cases hqq6
     have nq63 : q6 ≠ b3 := fun e => by rw [e, h3] at hqq6; cases hqq6
     refine VP.pe 11 rfl rfl (EF.alloc trivial) (fun _ _ _ h => h.elim) (fun d H2 ⟨q7, k1, hqq7, k2⟩ => ⟨?_, ?_⟩)
     · subst k2
       have m2 : q7 ≠ b2 := fun e => by rw [e, Hp.upd_ne (Ne.symm nq62), h2] at hqq7; cases hqq7
       have m3 : q7 ≠ b3 := fun e => by rw [e, Hp.upd_ne (Ne.symm nq63), h3] at hqq7; cases hqq7
       exact (by (repeat (refine stabP_cons rfl (by first | exact StabP.of (QV.evP trivial rfl) rfl | exact StabP.of (QV.bsl trivial rfl) rfl | exact StabP.of (QV.evP trivial (evP_ld rfl ((Hp.upd_ne (Ne.symm m2)).trans ((Hp.upd_ne (Ne.symm nq62)).trans h2)) rfl)) rfl | exact StabP.of (QV.evP trivial (evP_ld rfl ((Hp.upd_ne (Ne.symm m3)).trans ((Hp.upd_ne (Ne.symm nq63)).trans h3)) rfl)) rfl | exact StabP.of (QV.evP trivial (evP_iadr rfl rfl (by omega))) rfl | exact StabP.of (QV.evP trivial (evP_ldc rfl hrow')) rfl) ?_)); exact stabP_nil)
     subst k1; subst k2
     have nq7q6 : q7 ≠ q6 := fun e => by rw [e, Hp.upd_same] at hqq7; cases hqq7
     rw [Hp.upd_ne nq7q6] at hqq7
     have nq72 : q7 ≠ b2 := fun e => by rw [e, h2] at hqq7; cases hqq7
     have nq73 : q7 ≠ b3 := fun e => by rw [e, h3] at hqq7; cases hqq7
     have nq : q6 ≠ q7 := Ne.symm nq7q6
     have hL : SubH H' ((H'.upd q6 (some (.cells Z6 56))).upd q7 (some (.cells Z6 56))) := (SubH.fresh hqq6).trans (SubH.fresh (by rw [Hp.upd_ne nq7q6]; exact hqq7))
     have l6 : ((H'.upd q6 (some (.cells Z6 56))).upd q7 (some (.cells Z6 56))) q6 = some (.cells Z6 56) := (Hp.upd_ne (Ne.symm nq7q6)).trans Hp.upd_same
     have l7 : ((H'.upd q6 (some (.cells Z6 56))).upd q7 (some (.cells Z6 56))) q7 = some (.cells Z6 56) := Hp.upd_same
     have x2 : ((H'.upd q6 (some (.cells Z6 56))).upd q7 (some (.cells Z6 56))) b2 = _ := hL _ _ h2
     have x3 : ((H'.upd q6 (some (.cells Z6 56))).upd q7 (some (.cells Z6 56))) b3 = _ := hL _ _ h3
     change VP _ _ _ _ _ _ _ _ _ _ _ ((H'.upd q6 (some (.cells Z6 56))).upd q7 (some (.cells Z6 56)))
     have hsb : SubH H' ((((H'.upd q6 (some (.cells Z6 56))).upd q7 (some (.cells Z6 56))).upd q6 (some (.cells (plcC x) 56))).upd q7 (some (.cells (plcC x) 56))) := by
      intro k o hk
      rw [Hp.upd_ne (fun e => by rw [e, hqq7] at hk; cases hk), Hp.upd_ne (fun e => by rw [e, hqq6] at hk; cases hk)]
      exact hL k o hk
     generalize (H'.upd q6 (some (.cells Z6 56))).upd q7 (some (.cells Z6 56)) = HX at l6 l7 x2 x3 hsb ⊢
     refine VP.pe 12 rfl rfl (EF.sto (cs := Z6) (ty := 56) (ys := plcC x) (d := .agg (plcC x)) trivial rfl l6 rfl rfl rfl (by exact Nat.le_refl _)) (fun _ _ _ h => h.elim) (fun d H9 ⟨f1, f2⟩ => ⟨?_, ?_⟩)
     · subst f2
       exact (by (repeat (refine stabP_cons rfl (by first | exact StabP.of (QV.evP trivial rfl) rfl | exact StabP.of (QV.bsl trivial rfl) rfl | exact StabP.of (QV.evP trivial (evP_ld rfl ((Hp.upd_ne (Ne.symm nq62)).trans x2) rfl)) rfl | exact StabP.of (QV.evP trivial (evP_ld rfl ((Hp.upd_ne (Ne.symm nq63)).trans x3) rfl)) rfl | exact StabP.of (QV.evP trivial (evP_iadr rfl rfl (by omega))) rfl | exact StabP.of (QV.evP trivial (evP_ldc rfl hrow')) rfl) ?_)); exact stabP_nil)
     subst f1; subst f2
     rw [show spliceL 0 (plcC x) Z6 = plcC x from rfl]
     refine VP.pe 13 rfl rfl (EF.sto (cs := Z6) (ty := 56) (ys := plcC x) (d := .agg (plcC x)) trivial rfl ((Hp.upd_ne (Ne.symm nq)).trans l7) rfl rfl rfl (by exact Nat.le_refl _)) (fun _ _ _ h => h.elim) (fun d H9 ⟨f1, f2⟩ => ⟨stabP_nil, ?_⟩)
     subst f1; subst f2
     rw [show spliceL 0 (plcC x) Z6 = plcC x from rfl]
     refine VP.pd ?_
     exact ⟨q6, q7, ⟨rfl, rfl, rfl, rfl, rfl, trivial⟩, (Hp.upd_ne nq).trans Hp.upd_same, Hp.upd_same, hsb⟩
   · subst k2
     have nq72 : q7 ≠ b2 := fun e => by rw [e, h2] at hqq7; cases hqq7
     have nq73 : q7 ≠ b3 := fun e => by rw [e, h3] at hqq7; cases hqq7
     exact (by (repeat (refine stabP_cons rfl (by first | exact StabP.of (QV.evP trivial rfl) rfl | exact StabP.of (QV.bsl trivial rfl) rfl | exact StabP.of (QV.evP trivial (evP_ld rfl ((Hp.upd_ne (Ne.symm nq72)).trans h2) rfl)) rfl | exact StabP.of (QV.evP trivial (evP_ld rfl ((Hp.upd_ne (Ne.symm nq73)).trans h3) rfl)) rfl | exact StabP.of (QV.evP trivial (evP_iadr rfl rfl (by omega))) rfl | exact StabP.of (QV.evP trivial (evP_ldc rfl hrow')) rfl) ?_)); exact stabP_nil)
   · subst k1; subst k2
     have nq72 : q7 ≠ b2 := fun e => by rw [e, h2] at hqq7; cases hqq7
     have nq73 : q7 ≠ b3 := fun e => by rw [e, h3] at hqq7; cases hqq7
     refine VP.pe 10 rfl rfl (EF.alloc trivial) (fun _ _ _ h => h.elim) (fun d H2 ⟨q6, k1, hqq6, k2⟩ => ⟨?_, ?_⟩)
     · subst k2
       have m2 : q6 ≠ b2 := fun e => by rw [e, Hp.upd_ne (Ne.symm nq72), h2] at hqq6; cases hqq6
       have m3 : q6 ≠ b3 := fun e => by rw [e, Hp.upd_ne (Ne.symm nq73), h3] at hqq6; cases hqq6
       exact (by (repeat (refine stabP_cons rfl (by first | exact StabP.of (QV.evP trivial rfl) rfl | exact StabP.of (QV.bsl trivial rfl) rfl | exact StabP.of (QV.evP trivial (evP_ld rfl ((Hp.upd_ne (Ne.symm m2)).trans ((Hp.upd_ne (Ne.symm nq72)).trans h2)) rfl)) rfl | exact StabP.of (QV.evP trivial (evP_ld rfl ((Hp.upd_ne (Ne.symm m3)).trans ((Hp.upd_ne (Ne.symm nq73)).trans h3)) rfl)) rfl | exact StabP.of (QV.evP trivial (evP_iadr rfl rfl (by omega))) rfl | exact StabP.of (QV.evP trivial (evP_ldc rfl hrow')) rfl) ?_)); exact stabP_nil)
     subst k1; subst k2
     have nq6q7 : q6 ≠ q7 := fun e => by rw [e, Hp.upd_same] at hqq6; cases hqq6
     rw [Hp.upd_ne nq6q7] at hqq6
     have nq62 : q6 ≠ b2 := fun e => by rw [e, h2] at hqq6; cases hqq6
     have nq63 : q6 ≠ b3 := fun e => by rw [e, h3] at hqq6; cases hqq6
     have nq : q6 ≠ q7 := nq6q7
     have hL : SubH H' ((H'.upd q7 (some (.cells Z6 56))).upd q6 (some (.cells Z6 56))) := (SubH.fresh hqq7).trans (SubH.fresh (by rw [Hp.upd_ne nq6q7]; exact hqq6))
     have l6 : ((H'.upd q7 (some (.cells Z6 56))).upd q6 (some (.cells Z6 56))) q6 = some (.cells Z6 56) := Hp.upd_same
     have l7 : ((H'.upd q7 (some (.cells Z6 56))).upd q6 (some (.cells Z6 56))) q7 = some (.cells Z6 56) := (Hp.upd_ne (Ne.symm nq6q7)).trans Hp.upd_same
     have x2 : ((H'.upd q7 (some (.cells Z6 56))).upd q6 (some (.cells Z6 56))) b2 = _ := hL _ _ h2
     have x3 : ((H'.upd q7 (some (.cells Z6 56))).upd q6 (some (.cells Z6 56))) b3 = _ := hL _ _ h3
     change VP _ _ _ _ _ _ _ _ _ _ _ ((H'.upd q7 (some (.cells Z6 56))).upd q6 (some (.cells Z6 56)))
     have hsb : SubH H' ((((H'.upd q7 (some (.cells Z6 56))).upd q6 (some (.cells Z6 56))).upd q6 (some (.cells (plcC x) 56))).upd q7 (some (.cells (plcC x) 56))) := by
      intro k o hk
      rw [Hp.upd_ne (fun e => by rw [e, hqq7] at hk; cases hk), Hp.upd_ne (fun e => by rw [e, hqq6] at hk; cases hk)]
      exact hL k o hk
     generalize (H'.upd q7 (some (.cells Z6 56))).upd q6 (some (.cells Z6 56)) = HX at l6 l7 x2 x3 hsb ⊢
     refine VP.pe 12 rfl rfl (EF.sto (cs := Z6) (ty := 56) (ys := plcC x) (d := .agg (plcC x)) trivial rfl l6 rfl rfl rfl (by exact Nat.le_refl _)) (fun _ _ _ h => h.elim) (fun d H9 ⟨f1, f2⟩ => ⟨?_, ?_⟩)
     · subst f2
       exact (by (repeat (refine stabP_cons rfl (by first | exact StabP.of (QV.evP trivial rfl) rfl | exact StabP.of (QV.bsl trivial rfl) rfl | exact StabP.of (QV.evP trivial (evP_ld rfl ((Hp.upd_ne (Ne.symm nq62)).trans x2) rfl)) rfl | exact StabP.of (QV.evP trivial (evP_ld rfl ((Hp.upd_ne (Ne.symm nq63)).trans x3) rfl)) rfl | exact StabP.of (QV.evP trivial (evP_iadr rfl rfl (by omega))) rfl | exact StabP.of (QV.evP trivial (evP_ldc rfl hrow')) rfl) ?_)); exact stabP_nil)
     subst f1; subst f2
     rw [show spliceL 0 (plcC x) Z6 = plcC x from rfl]
     refine VP.pe 13 rfl rfl (EF.sto (cs := Z6) (ty := 56) (ys := plcC x) (d := .agg (plcC x)) trivial rfl ((Hp.upd_ne (Ne.symm nq)).trans l7) rfl rfl rfl (by exact Nat.le_refl _)) (fun _ _ _ h => h.elim) (fun d H9 ⟨f1, f2⟩ => ⟨stabP_nil, ?_⟩)
     subst f1; subst f2
     rw [show spliceL 0 (plcC x) Z6 = plcC x from rfl]
     refine VP.pd ?_
     exact ⟨q6, q7, ⟨rfl, rfl, rfl, rfl, rfl, trivial⟩, (Hp.upd_ne nq).trans Hp.upd_same, Hp.upd_same, hsb⟩
def F66 : FN := ⟨62, (.seq (.reg [ji 1 (.box 56 (.t 0)), ji 2 (.mv (.c (.bool false)))])
 (.seq (.seq (.reg [ji 5 (.fadr 3 (.t 1)), ji 6 (.ld false 1 (.t 5)), ji 7 (.len false (.t 6)), ji 8 (.bin .gtr (.t 7) (ci 30)), ji 9 (.mv (.t 8)), jg 10 9 false (.fadr 4 (.t 1)), jg 11 9 false (.ld false 1 (.t 10)), jg 12 9 false (.len false (.t 11)), jg 13 9 false (.bin .gtr (.t 12) (ci 30)), ji 14 (.pick (.t 9) (.c (.bool true)) (.t 13)), ji 15 (.mv (.t 14)), jg 16 15 false (.fadr 5 (.t 1)), jg 17 15 false (.ld false 1 (.t 16)), jg 18 15 false (.len false (.t 17)), jg 19 15 false (.bin .gtr (.t 18) (ci 60)), ji 20 (.pick (.t 15) (.c (.bool true)) (.t 19)), ji 21 (.mv (.t 20)), jg 22 21 false (.fadr 0 (.t 1)), jg 23 21 false (.ld false 1 (.t 22)), jg 24 21 false (.len true (.t 23)), jg 25 21 false (.bin .gtr (.t 24) (ci 2000)), ji 26 (.pick (.t 21) (.c (.bool true)) (.t 25)), ji 27 (.mv (.t 26)), jg 28 27 false (.fadr 1 (.t 1)), jg 29 27 false (.ld false 1 (.t 28)), jg 30 27 false (.len true (.t 29)), jg 31 27 false (.bin .gtr (.t 30) (ci 2000)), ji 32 (.pick (.t 27) (.c (.bool true)) (.t 31))])
 (.cond (.t 32) (.seq (.reg [ji 2 (.mv (.c (.bool true)))])
 .ret)
 .skip))
 (.seq (.draw [ji 33 (.bsl 115 0 2 [] []), ji 34 (.fadr 3 (.t 1)), ji 35 (.ld false 1 (.t 34)), ji 36 (.app 115 2 32 (.t 33) (.t 35)), ji 37 (.fadr 4 (.t 1)), ji 38 (.ld false 1 (.t 37)), ji 39 (.app 115 2 32 (.t 36) (.t 38)), ji 3 (.mv (.t 39))] [[], [], [1], [0, 2], [], [4], [3, 5, 3], [6, 6, 0, 1, 2, 3, 4, 5, 6]])
 (.seq (.seq (.reg [ji 4 (.mv (ci 0))])
 (.block 0 (.loop (.seq (.seq (.reg [ji 40 (.mv (.t 4)), ji 41 (.mv (.t 3)), ji 42 (.len false (.t 41)), ji 43 (.bin .lss (.t 40) (.t 42))])
 (.cond (.t 43) .skip
 (.exit 0)))
 (.seq (.block 1 (.seq (.reg [ji 46 (.mv (.t 3)), ji 47 (.mv (.t 4)), ji 48 (.iadr 2 (.t 46) (.t 47)), ji 49 (.fadr 0 (.t 48)), ji 50 (.ld false 1 (.t 49)), ji 51 (.len true (.t 50)), ji 52 (.bin .gtr (.t 51) (ci 2000)), ji 53 (.mv (.t 52)), jg 54 53 false (.mv (.t 3)), jg 55 53 false (.mv (.t 4)), jg 56 53 false (.iadr 2 (.t 54) (.t 55)), jg 57 53 false (.fadr 1 (.t 56)), jg 58 53 false (.ld false 1 (.t 57)), jg 59 53 false (.len true (.t 58)), jg 60 53 false (.bin .gtr (.t 59) (ci 2000)), ji 61 (.pick (.t 53) (.c (.bool true)) (.t 60))])
 (.cond (.t 61) (.seq (.reg [ji 2 (.mv (.c (.bool true)))])
 .ret)
 .skip)))
 (.reg [ji 44 (.mv (.t 4)), ji 45 (.bin .add (.t 44) (ci 1)), ji 4 (.mv (.t 45))]))))))
 (.seq (.reg [ji 2 (.mv (.c (.bool false)))])
 .ret))))), [.tmp 2]⟩
theorem cF66 : cFn prog 66 = some F66 := by kernel_rfl
def F18 : FN := ⟨43, (.seq (.reg [ji 1 (.box 28 (.t 0)), ji 2 (.mv (.c (.bool false)))])
 (.seq (.seq (.reg [ji 4 (.fadr 6 (.t 1)), ji 5 (.ld false 1 (.t 4)), ji 6 (.len false (.t 5)), ji 7 (.bin .gtr (.t 6) (ci 20)), ji 8 (.mv (.t 7)), jg 9 8 false (.fadr 0 (.t 1)), jg 10 8 false (.ld false 1 (.t 9)), jg 11 8 false (.len true (.t 10)), jg 12 8 false (.fadr 1 (.t 1)), jg 13 8 false (.ld false 1 (.t 12)), jg 14 8 false (.len true (.t 13)), jg 15 8 false (.bin .add (.t 11) (.t 14)), jg 16 8 false (.fadr 2 (.t 1)), jg 17 8 false (.ld false 1 (.t 16)), jg 18 8 false (.len true (.t 17)), jg 19 8 false (.bin .add (.t 15) (.t 18)), jg 20 8 false (.fadr 3 (.t 1)), jg 21 8 false (.ld false 1 (.t 20)), jg 22 8 false (.len true (.t 21)), jg 23 8 false (.bin .add (.t 19) (.t 22)), jg 24 8 false (.fadr 4 (.t 1)), jg 25 8 false (.ld false 1 (.t 24)), jg 26 8 false (.len true (.t 25)), jg 27 8 false (.bin .add (.t 23) (.t 26)), jg 28 8 false (.bin .gtr (.t 27) (ci 5000)), ji 29 (.pick (.t 8) (.c (.bool true)) (.t 28))])
 (.cond (.t 29) (.seq (.reg [ji 2 (.mv (.c (.bool true)))])
 .ret)
 .skip))
 (.seq (.seq (.reg [ji 3 (.mv (ci 0))])
 (.block 0 (.loop (.seq (.seq (.reg [ji 30 (.mv (.t 3)), ji 31 (.fadr 6 (.t 1)), ji 32 (.ld false 1 (.t 31)), ji 33 (.len false (.t 32)), ji 34 (.bin .lss (.t 30) (.t 33))])
 (.cond (.t 34) .skip
 (.exit 0)))
 (.seq (.block 1 (.seq (.reg [ji 37 (.fadr 6 (.t 1)), ji 38 (.ld false 1 (.t 37)), ji 39 (.mv (.t 3)), ji 40 (.iadr 6 (.t 38) (.t 39)), ji 41 (.ld true 6 (.t 40)), ji 42 (.call 66 [(.t 41)])])
 (.cond (.t 42) (.seq (.reg [ji 2 (.mv (.c (.bool true)))])
 .ret)
 .skip)))
 (.reg [ji 35 (.mv (.t 3)), ji 36 (.bin .add (.t 35) (ci 1)), ji 3 (.mv (.t 36))]))))))
 (.seq (.reg [ji 2 (.mv (.c (.bool false)))])
 .ret)))), [.tmp 2]⟩
theorem cF18 : cFn prog 18 = some F18 := by kernel_rfl
def GO (ty : TypeId) (sz : Nat) (H : Hp) (cs : List DV) (n : Nat) (v : DV) (H' : Hp) : Prop := ∃ b, H b = none ∧ v = .lst cs n sz (some (b, 0)) ∧ H' = H.upd b (some (.front n sz ty))
theorem GO.sub {ty : TypeId} {sz n : Nat} {H H' : Hp} {cs : List DV} {v : DV} (h : GO ty sz H cs n v H') : SubH H H' := by
 obtain ⟨b, hb, _, rfl⟩ := h; exact SubH.fresh hb
theorem EF.bslO {r : Option Nat} {N : Nat} {fr : Fr} {H : Hp} {dst : Option Nat} {ty len sz : Nat} {zs cs : List DV} {ps : List (Nat × Nat × X)} (hb : ∀ fr1 : Fr, bldD (XV G fr1) ps zs = some cs) :
  EF prog G r N ⟨dst, none, .bsl ty len sz zs ps⟩ (fun d H' => GO ty sz H cs len d H') (fun _ _ => False) fr H := by
 intro fr1 l Q hs k kp
 exact RG.st (ST.bsl (hb fr1) fun b hb => k _ _ ⟨b, hb, rfl, rfl⟩)
theorem EF.appO {r : Option Nat} {N : Nat} {fr : Fr} {H H0 : Hp} {dst : Option Nat} {ty sz bytes n m : Nat} {x y : X} {cs ys : List DV} {v : DV} (h : GO ty sz H0 cs n v H) (hx : XV G fr x = v)
  (hy : srcD H sz (XV G fr y) = some (ys, m)) (hlen : (n + m) * bytes ≤ 140737488355328) :
  EF prog G r N ⟨dst, none, .app ty sz bytes x y⟩ (fun v' H' => GO ty sz H0 (cs ++ ys) (n + m) v' H') (fun _ _ => False) fr H := by
 intro fr1 l Q hs k kp
 have hx1 : XV G fr1 x = v := (XV_slots (i := ⟨dst, none, .app ty sz bytes x y⟩) hs (by simp [opX])).trans hx
 have hy1 : XV G fr1 y = XV G fr y := XV_slots (i := ⟨dst, none, .app ty sz bytes x y⟩) hs (by simp [opX])
 obtain ⟨b, hb, rfl, rfl⟩ := h
 refine RG.st (ST.app_own (m := m) hx1 Hp.upd_same (by rw [hy1]; exact hy) hlen fun b' hb' => ?_)
 have e1 : (H0.upd b (some (.front n sz ty))).upd b none = H0 := by rw [Hp.upd_upd]; exact Hp.upd_id hb
 rw [e1]
 refine k _ _ ⟨b', ?_, rfl, rfl⟩
 rcases hb' with rfl | hb'
 · exact hb
 · have hne : b' ≠ b := fun e => by rw [e, Hp.upd_same] at hb'; cases hb'
   rw [Hp.upd_ne hne] at hb'; exact hb'
theorem evP_formT {H : Hp} {fr : Fr} {x y : X} {l : List Frm} {i n : Nat} {tag : Option (Nat × Nat)} (hx : XV G fr x = .lst (frmsC l) n 2 tag) (hy : XV G fr y = .int .i64 i) (hn : n = l.length) (hi : i < l.length) :
  evP G fr H (.iadr 2 x y) = some (.cptr (.str l[i].1 :: .str l[i].2 :: frmsC (l.drop (i + 1)))) := by
 rw [evP_iadr hx hy (by omega), Int.toNat_natCast, frmsC_drop, List.drop_eq_getElem_cons hi]; rfl
theorem greatPlace_ok (p : Plc) (hf : fitsP p) (H : Hp) : CALL prog G 66 [.agg (plcC p)] H (fun r H' => (∃ b, r = .bool b) ∧ H' = H) (fun _ _ => False) := by
 refine CALL.of cF66 (Nat.le_of_ble_eq_true rfl) ?_
 refine AC.seq (AC.reg ?_)
 refine RG.box (d := .agg (plcC p)) (ys := plcC p) .d rfl rfl fun b hb => ?_
 rw [plcC]
 have hsb : SubH H (H.upd b (some (.cells [.str p.ref, .str p.name, .int .i64 p.maxId, .lst (frmsC p.takes) p.takes.length 2 none, .lst (frmsC p.gives) p.gives.length 2 none, .lst (p.kinds.map (DV.int .i64)) p.kinds.length 1 none] 56))) := SubH.fresh hb
 have hHb : (H.upd b (some (.cells [.str p.ref, .str p.name, .int .i64 p.maxId, .lst (frmsC p.takes) p.takes.length 2 none, .lst (frmsC p.gives) p.gives.length 2 none, .lst (p.kinds.map (DV.int .i64)) p.kinds.length 1 none] 56))) b = some (.cells [.str p.ref, .str p.name, .int .i64 p.maxId, .lst (frmsC p.takes) p.takes.length 2 none, .lst (frmsC p.gives) p.gives.length 2 none, .lst (p.kinds.map (DV.int .i64)) p.kinds.length 1 none] 56) := Hp.upd_same
 generalize H.upd b (some (.cells [.str p.ref, .str p.name, .int .i64 p.maxId, .lst (frmsC p.takes) p.takes.length 2 none, .lst (frmsC p.gives) p.gives.length 2 none, .lst (p.kinds.map (DV.int .i64)) p.kinds.length 1 none] 56)) = HH at hsb hHb ⊢
 have done : ∀ {fr : Fr} {q : Bool} {HR : Hp}, fr 2 = .bool q → SubH HH HR → Fin F66.rs (fun r H' => (∃ b, r = .bool b) ∧ H' = H) (fun _ _ => False) .ret fr HR := by
  intro fr q HR h2 hs
  exact finD (H' := H) rfl (hsb.trans hs) ⟨⟨q, h2⟩, rfl⟩
 obtain ⟨f1, f2, f3⟩ := hf
 refine au ?_
 cases c1 : decide (((p.takes.length : Nat) : Int) > 30)
 case true =>
  refine au ?_
  exact AC.ret (done rfl (SubH.refl _))
 refine au ?_
 cases c2 : decide (((p.gives.length : Nat) : Int) > 30)
 case true =>
  refine au ?_
  exact AC.ret (done rfl (SubH.refl _))
 refine au ?_
 cases c3 : decide (((p.kinds.length : Nat) : Int) > 60)
 case true =>
  refine au ?_
  exact AC.ret (done rfl (SubH.refl _))
 refine au ?_
 cases c4 : decide (((p.ref.length : Nat) : Int) > 2000)
 case true =>
  refine au ?_
  exact AC.ret (done rfl (SubH.refl _))
 refine au ?_
 cases c5 : decide (((p.name.length : Nat) : Int) > 2000)
 case true =>
  refine au ?_
  exact AC.ret (done rfl (SubH.refl _))
 have w1 := of_decide_eq_false c1
 have w2 := of_decide_eq_false c2
 refine au ?_
 refine AC.drawP [0, 3, 6, 7] rfl ?_
 first|refine VP.z0 1 ?_|refine VP.z1 1 ?_|refine VP.z2 1 ?_|refine VP.z3 1 ?_|refine VP.z4 1 ?_|refine VP.z5 1 ?_|refine VP.z6 1 ?_|refine VP.z7 1 ?_|refine VP.z8 1 ?_
 refine VP.v 2 rfl (evP_ld rfl hHb rfl) ?_
 first|refine VP.z0 4 ?_|refine VP.z1 4 ?_|refine VP.z2 4 ?_|refine VP.z3 4 ?_|refine VP.z4 4 ?_|refine VP.z5 4 ?_|refine VP.z6 4 ?_|refine VP.z7 4 ?_|refine VP.z8 4 ?_
 refine VP.v 5 rfl (evP_ld rfl hHb rfl) ?_
 refine VP.pe 0 rfl rfl (EF.bslO (cs := []) fun _ => rfl) (fun _ _ _ h => h.elim) (fun v0 H0 g0 => ⟨?_, ?_⟩)
 · exact (by (repeat (refine stabP_cons rfl (by first | exact StabP.of (QV.evP trivial rfl) rfl | exact StabP.of (QV.bsl trivial rfl) rfl | exact StabP.of (QV.evP trivial (evP_ld rfl (g0.sub _ _ hHb) rfl)) rfl) ?_)); exact stabP_nil)
 refine VP.pe 3 rfl rfl (EF.appO (m := p.takes.length) (ys := frmsC p.takes) g0 rfl (by show srcD _ 2 (.lst (frmsC p.takes) p.takes.length 2 none) = _; simp [srcD]) (by omega)) (fun _ _ _ h => h.elim) (fun v1 H1 g1 => ⟨?_, ?_⟩)
 · exact (by (repeat (refine stabP_cons rfl (by first | exact StabP.of (QV.evP trivial rfl) rfl | exact StabP.of (QV.bsl trivial rfl) rfl | exact StabP.of (QV.evP trivial (evP_ld rfl (g1.sub _ _ hHb) rfl)) rfl) ?_)); exact stabP_nil)
 refine VP.pe 6 rfl rfl (EF.appO (m := p.gives.length) (ys := frmsC p.gives) g1 rfl (by show srcD _ 2 (.lst (frmsC p.gives) p.gives.length 2 none) = _; simp [srcD]) (by omega)) (fun _ _ _ h => h.elim) (fun v2 H2 g2 => ⟨?_, ?_⟩)
 · exact (by (repeat (refine stabP_cons rfl (by first | exact StabP.of (QV.evP trivial rfl) rfl | exact StabP.of (QV.bsl trivial rfl) rfl | exact StabP.of (QV.evP trivial (evP_ld rfl (g2.sub _ _ hHb) rfl)) rfl) ?_)); exact stabP_nil)
 refine VP.pe 7 rfl rfl (EF.of_evP (d := v2) rfl) (fun _ _ _ h => h.elim) (fun d H3 ⟨e1, e2⟩ => ⟨stabP_nil, ?_⟩)
 subst e1; subst e2
 refine VP.pd ?_
 rw [List.nil_append, ← frmsC_append, Nat.zero_add] at g2
 have hs2 := g2.sub
 obtain ⟨bq, _, rfl, _⟩ := g2
 have hL : p.takes.length + p.gives.length = (p.takes ++ p.gives).length := by rw [List.length_append]
 have hLL : (p.takes ++ p.gives).length ≤ 2000000 := by rw [← hL]; omega
 rw [hL]
 generalize p.takes ++ p.gives = L at hLL ⊢
 show AC _ _ _ _ _ _ _ _
 refine al ?_
 refine AC.bloopH (α := Nat) (β := Unit) (fun n => L.length - n) (fun n => [(3, .lst (frmsC L) L.length 2 (some (bq, 0))), (4, .int .i64 n)])
  (fun n H' => H' = H3 ∧ n ≤ L.length) (fun _ => []) (fun _ H' => H' = H3) ?_ ?_ 0 H3 ⟨rfl, Nat.zero_le _⟩ ⟨rfl, rfl, trivial⟩
 · rintro _ He fr rfl hfr
   show AC _ _ _ _ _ _ _ _
   refine au ?_
   exact AC.ret (done rfl hs2)
 · rintro n H' ⟨rfl, h5⟩ ih ex
   refine AC.seq (AC.seq (AC.reg ?_))
   refine go ?_
   cases x1 : decide ((n : Int) < L.length)
   · exact RG.nilS (AC.cond_f rfl (AC.exit (ex () _ _ rfl trivial)))
   have x2 := of_decide_eq_true x1
   have hn : n < L.length := by omega
   have hform : ∀ {HH : Hp} {fr : Fr} {x y : X}, XV G fr x = .lst (frmsC L) L.length 2 (some (bq, 0)) → XV G fr y = .int .i64 n → evP G fr HH (.iadr 2 x y) = some (.cptr (.str L[n].1 :: .str L[n].2 :: frmsC (L.drop (n + 1)))) := fun a b => evP_formT a b rfl hn
   generalize L[n] = f at hform
   refine RG.nilS (AC.cond_t rfl (AC.skip (AC.seq (AC.block (AC.seq (AC.reg ?_))))))
   refine go1 ?_
   refine go1 ?_
   refine RG.p .d (hform wh wh) ?_
   refine go ?_
   cases d1 : decide (((f.1.length : Nat) : Int) > 2000)
   case true =>
    refine au ?_
    exact AC.ret (done rfl hs2)
   refine go1 ?_
   refine go1 ?_
   refine RG.p .d (hform wh wh) ?_
   refine go ?_
   cases d2 : decide (((f.2.length : Nat) : Int) > 2000)
   case true =>
    refine au ?_
    exact AC.ret (done rfl hs2)
   refine au ?_
   exact ih (n + 1) _ ⟨rfl, by omega⟩ (by omega) _ ⟨rfl, rfl, trivial⟩
theorem GreatD_ok (d : Dvc) (hf : fitsD d) (H : Hp) : CALL prog G 18 [.agg (dvcC d)] H (fun r H' => (∃ b, r = .bool b) ∧ H' = H) (fun _ _ => False) := by
 refine CALL.of cF18 (Nat.le_of_ble_eq_true rfl) ?_
 refine AC.seq (AC.reg ?_)
 refine RG.box (d := .agg (dvcC d)) (ys := dvcC d) .d rfl rfl fun b hb => ?_
 rw [dvcC]
 have hsb : SubH H (H.upd b (some (.cells [.str d.man, .str d.mod_, .str d.soft, .str d.id, .str d.type, .bool d.large, .lst (plcsC d.places) d.places.length 6 none] 28))) := SubH.fresh hb
 have hHb : (H.upd b (some (.cells [.str d.man, .str d.mod_, .str d.soft, .str d.id, .str d.type, .bool d.large, .lst (plcsC d.places) d.places.length 6 none] 28))) b = some (.cells [.str d.man, .str d.mod_, .str d.soft, .str d.id, .str d.type, .bool d.large, .lst (plcsC d.places) d.places.length 6 none] 28) := Hp.upd_same
 generalize H.upd b (some (.cells [.str d.man, .str d.mod_, .str d.soft, .str d.id, .str d.type, .bool d.large, .lst (plcsC d.places) d.places.length 6 none] 28)) = HH at hsb hHb ⊢
 have done : ∀ {fr : Fr} {q : Bool}, fr 2 = .bool q → Fin F18.rs (fun r H' => (∃ b, r = .bool b) ∧ H' = H) (fun _ _ => False) .ret fr HH := by
  intro fr q h2
  exact finD (H' := H) rfl hsb ⟨⟨q, h2⟩, rfl⟩
 obtain ⟨f1, f2⟩ := hf
 refine go1 ?_
 refine RG.nilS (AC.seq ?_)
 refine AC.seqI (I := fun fr' HX => HX = HH ∧ fr' 1 = .ptr b 0 ∧ ∃ q, fr' 29 = .bool q) (AC.reg ?_) ?_
 · refine au ?_
   cases c1 : decide (((d.places.length : Nat) : Int) > 20)
   · refine au ?_
     exact RG.nil ⟨rfl, rfl, _, rfl⟩
   · refine au ?_
     exact RG.nil ⟨rfl, rfl, _, rfl⟩
 rintro fr1 H1 ⟨rfl, g1, q, g2⟩
 refine AC.to [(1, .ptr b 0), (29, .bool q)] ⟨g1, g2, trivial⟩ ?_
 cases q
 case true =>
  refine au ?_
  exact AC.ret (done rfl)
 refine al ?_
 refine AC.bloopH (α := Nat) (β := Unit) (fun n => d.places.length - n) (fun n => [(1, .ptr b 0), (3, .int .i64 n)])
  (fun n H' => H' = H1 ∧ n ≤ d.places.length) (fun _ => []) (fun _ H' => H' = H1) ?_ ?_ 0 H1 ⟨rfl, Nat.zero_le _⟩ ⟨rfl, rfl, trivial⟩
 · rintro _ He fr rfl hfr
   show AC _ _ _ _ _ _ _ _
   refine au ?_
   exact AC.ret (done rfl)
 · rintro n H' ⟨rfl, h5⟩ ih ex
   refine AC.seq (AC.seq (AC.reg ?_))
   refine go ?_
   cases x1 : decide ((n : Int) < d.places.length)
   · exact RG.nilS (AC.cond_f rfl (AC.exit (ex () _ _ rfl trivial)))
   have x2 := of_decide_eq_true x1
   have hn : n < d.places.length := by omega
   have hrow := rowD (sz := 6) plcC (fun _ => rfl) d.places n _ (List.getElem?_eq_getElem hn)
   have hrow' : partD true 0 6 ((plcsC d.places).drop (((n : Nat) : Int).toNat * 6)) = some (.agg (plcC d.places[n])) := partD_row (i := n) (sz := 6) hrow (by rw [plcsC_length]; omega)
   have hfp := f2 _ (List.getElem_mem hn)
   generalize d.places[n] = pl at hrow' hfp
   refine RG.nilS (AC.cond_t rfl (AC.skip (AC.seq (AC.block (AC.seq (AC.reg ?_))))))
   refine go1 ?_
   refine go1 ?_
   refine go1 ?_
   refine RG.p .d (evP_iadr wh wh (by omega)) ?_
   refine RG.p .d (evP_ldc wh hrow') ?_
   refine RG.call .d rfl (greatPlace_ok pl hfp _) (fun r H2 ⟨⟨q, k1⟩, k2⟩ => ?_) (fun _ _ h => h.elim)
   subst k1; subst k2
   cases q
   · refine au ?_
     exact ih (n + 1) _ ⟨rfl, by omega⟩ (by omega) _ ⟨rfl, rfl, trivial⟩
   · refine au ?_
     exact AC.ret (done rfl)
def F19 : FN := ⟨18, (.seq (.reg [ji 1 (.box 28 (.t 0)), ji 2 (.mv (.c (.str []))), ji 3 (.mv (ci 0))])
 (.seq (.reg [ji 7 (.ld true 7 (.t 1)), ji 8 (.call 27 [(.t 7)]), ji 6 (.mv (.t 8)), ji 9 (.ext (.t 6) 0), ji 10 (.ext (.t 6) 1), ji 4 (.alloc [(.int .i64 0), (.str []), (.str []), (.bool false), .nils] 24), jn (.st 5 (.t 4) (.t 9)), ji 5 (.mv (.t 10))])
 (.seq (.seq (.reg [ji 11 (.mv (.t 5)), ji 12 (.bin .neq (.t 11) (ci 0))])
 (.cond (.t 12) (.seq (.reg [ji 13 (.mv (.t 5)), ji 2 (.mv (.c (.str []))), ji 3 (.mv (.t 13))])
 .ret)
 .skip))
 (.seq (.reg [ji 14 (.ld true 5 (.t 4)), ji 15 (.call 13 [(.t 14)]), ji 16 (.ext (.t 15) 0), ji 17 (.ext (.t 15) 1), ji 2 (.mv (.t 16)), ji 3 (.mv (.t 17))])
 .ret)))), [.tmp 2, .tmp 3]⟩
theorem cF19 : cFn prog 19 = some F19 := by kernel_rfl
def F9 : FN := ⟨21, (.seq (.reg [ji 2 (.alloc [(.str []), (.str []), (.str []), (.str []), (.str []), (.bool false), .nils] 28), ji 3 (.mv (ci 0))])
 (.seq (.reg [ji 8 (.mv (.t 0)), ji 9 (.call 15 [(.t 8)]), ji 7 (.mv (.t 9)), ji 10 (.ext (.t 7) 0), ji 11 (.ext (.t 7) 1), ji 12 (.ext (.t 7) 2), ji 4 (.alloc [(.int .i64 0), (.str []), (.str []), (.bool false), .nils] 24), jn (.st 5 (.t 4) (.t 10)), ji 5 (.mv (.t 11)), ji 6 (.mv (.t 12))])
 (.seq (.seq (.reg [ji 13 (.mv (.t 6)), ji 14 (.bin .neq (.t 13) (ci 0))])
 (.cond (.t 14) (.seq (.reg [ji 15 (.bld [(.str []), (.str []), (.str []), (.str []), (.str []), (.bool false), .nils] []), ji 16 (.mv (.t 6)), jn (.st 7 (.t 2) (.t 15)), ji 3 (.mv (.t 16))])
 .ret)
 .skip))
 (.seq (.reg [ji 17 (.ld true 5 (.t 4)), ji 18 (.call 7 [(.t 17)]), ji 19 (.ext (.t 18) 0), ji 20 (.ext (.t 18) 1), jn (.st 7 (.t 2) (.t 19)), ji 3 (.mv (.t 20))])
 .ret)))), [.cell 2 true 7, .tmp 3]⟩
theorem cF9 : cFn prog 9 = some F9 := by kernel_rfl
def F5 : FN := ⟨39, (.seq (.reg [ji 1 (.box 28 (.t 0)), ji 2 (.mv (.c (.bool false)))])
 (.seq (.seq (.reg [ji 7 (.ld true 7 (.t 1)), ji 8 (.call 18 [(.t 7)])])
 (.cond (.t 8) (.seq (.reg [ji 2 (.mv (.c (.bool true)))])
 .ret)
 .skip))
 (.seq (.reg [ji 10 (.ld true 7 (.t 1)), ji 11 (.call 19 [(.t 10)]), ji 9 (.mv (.t 11)), ji 12 (.ext (.t 9) 0), ji 13 (.ext (.t 9) 1), ji 3 (.mv (.t 12)), ji 4 (.mv (.t 13))])
 (.seq (.seq (.reg [ji 14 (.mv (.t 4)), ji 15 (.bin .neq (.t 14) (ci 0))])
 (.cond (.t 15) (.seq (.reg [ji 16 (.mv (.t 3)), ji 17 (.bin .eql (.t 16) (.c (.str []))), ji 18 (.mv (.t 17)), jg 19 18 true (.mv (.t 4)), jg 20 18 true (.bin .eql (.t 19) (ci 8)), jg 21 18 true (.mv (.t 20)), jg 22 21 false (.ld true 7 (.t 1)), jg 23 21 false (.call 20 [(.t 22)]), jg 24 21 false (.bin .neq (.t 23) (ci 0)), jg 25 18 true (.pick (.t 21) (.c (.bool true)) (.t 24)), ji 26 (.pick (.t 18) (.t 25) (.c (.bool false))), ji 2 (.mv (.t 26))])
 .ret)
 .skip))
 (.seq (.reg [ji 28 (.mv (.t 3)), ji 29 (.call 9 [(.t 28)]), ji 27 (.mv (.t 29)), ji 30 (.ext (.t 27) 0), ji 31 (.ext (.t 27) 1), ji 5 (.alloc [(.str []), (.str []), (.str []), (.str []), (.str []), (.bool false), .nils] 28), jn (.st 7 (.t 5) (.t 30)), ji 6 (.mv (.t 31))])
 (.seq (.reg [ji 32 (.mv (.t 6)), ji 33 (.bin .eql (.t 32) (ci 0)), ji 34 (.mv (.t 33)), jg 35 34 true (.ld true 7 (.t 5)), jg 36 34 true (.ld true 7 (.t 1)), jg 37 34 true (.call 11 [(.t 35), (.t 36)]), ji 38 (.pick (.t 34) (.t 37) (.c (.bool false))), ji 2 (.mv (.t 38))])
 .ret)))))), [.tmp 2]⟩
theorem cF5 : cFn prog 5 = some F5 := by kernel_rfl
theorem fits_elemDF (d : Dvc) (h : (elemDF d).2 = 0) : (elemDF d).1 = elemD d ∧ checkD d = 0 ∧ fits (elemD d) := by
 rw [elemDF] at h ⊢
 cases c : checkD d == 0
 · rw [c] at h; rw [show checkD d = 0 from h] at c; cases c
 · have hc : checkD d = 0 := by simpa using c
   exact ⟨rfl, hc, fits_ok _ (check_ok (dev_law _ hc).1).1⟩
def textD (d : Dvc) : List UInt8 × Int := bif !((elemDF d).2 == 0) then ([], (elemDF d).2) else writeF (elemDF d).1
theorem TextD_ok (hG : GOK G) (d : Dvc) : PF prog G 19 [.agg (dvcC d)] (.tup [.str (textD d).1, .int .i64 (textD d).2]) := by
 intro H
 refine CALL.of cF19 (Nat.le_of_ble_eq_true rfl) ?_
 refine AC.seq (AC.reg ?_)
 refine RG.box (d := .agg (dvcC d)) (ys := dvcC d) .d rfl rfl fun b hb => ?_
 have hHb : (H.upd b (some (.cells (dvcC d) 28))) b = some (.cells (dvcC d) 28) := Hp.upd_same
 have hsb : SubH H (H.upd b (some (.cells (dvcC d) 28))) := SubH.fresh hb
 change RG _ _ _ _ _ _ _ (H.upd b (some (.cells (dvcC d) 28)))
 generalize H.upd b (some (.cells (dvcC d) 28)) = HH at hHb hsb ⊢
 refine go ?_
 refine RG.nilS (AC.seq (AC.reg ?_))
 refine RG.ld .d wh hHb (ldDev d) ?_
 refine RG.callP .d rfl (elemDev_ok hG d) ?_
 have hfx := fits_elemDF d
 have hT : textD d = bif !((elemDF d).2 == 0) then ([], (elemDF d).2) else writeF (elemDF d).1 := rfl
 generalize elemDF d = ef at hfx hT ⊢
 obtain ⟨f, fl⟩ := ef
 dsimp only at hfx hT ⊢
 refine go ?_
 refine RG.alloc .d fun q hq => ?_
 refine RG.sto (cs := [.int .i64 0, .str [], .str [], .bool false, .nils]) (ty := elT) (d := .agg (elC f)) (ys := elC f) .d wh Hp.upd_same (by exact rfl) rfl (elC_length _) (by exact Nat.le_refl _) ?_
 rw [Hp.upd_upd, spl_el]
 have hqq : (HH.upd q (some (.cells (elC f) elT))) q = some (.cells (elC f) elT) := Hp.upd_same
 have hs2 : SubH H (HH.upd q (some (.cells (elC f) elT))) := hsb.trans (SubH.fresh hq)
 generalize HH.upd q (some (.cells (elC f) elT)) = HX at hqq hs2 ⊢
 refine go ?_
 refine RG.nilS (AC.seq (AC.seq (AC.reg ?_)))
 refine go1 ?_
 refine RG.p (d := .bool (!(fl == 0))) .d (by rfl) ?_
 cases c1 : fl == 0
 · rw [c1] at hT
   refine au ?_
   exact AC.ret (finD (H' := H) rfl hs2 ⟨by rw [hT]; rfl, rfl⟩)
 rw [c1] at hT
 obtain ⟨e1, e2, e3⟩ := hfx (by simpa using c1)
 refine RG.nilS (AC.cond_f rfl (AC.skip (AC.seq (AC.reg ?_))))
 refine RG.ld .d wh hqq (ldEl f) ?_
 refine RG.callP .d rfl (Write_ok hG f (by rw [e1]; exact e3)) ?_
 refine go ?_
 exact RG.nilS (AC.ret (finD (H' := H) rfl hs2 ⟨by rw [hT]; rfl, rfl⟩))
def readD (s : List UInt8) : Dvc × Int := bif !((readF s).2.2 == 0) then (Dvc0, (readF s).2.2) else ofF (readF s).1
theorem ReadD_ok (hG : GOS G) (s : List UInt8) (hfit : (readF s).2.2 = 0 → fits (readF s).1) : PF prog G 9 [.str s] (.tup [.agg (dvcC (readD s).1), .int .i64 (readD s).2]) := by
 intro H
 refine CALL.of cF9 (Nat.le_of_ble_eq_true rfl) ?_
 refine AC.seq (AC.reg ?_)
 refine RG.alloc .d fun b2 q2 => ?_
 have hres : ∀ {cs : List DV} {HR : Hp} {fr : Fr}, fr 2 = .ptr b2 0 → fr 3 = .int .i64 (readD s).2 → HR b2 = some (.cells cs 28) → cs.length = 7 → SubH H HR → DLe (.agg cs) (.agg (dvcC (readD s).1)) →
   Fin F9.rs (fun d' H' => d' = .tup [.agg (dvcC (readD s).1), .int .i64 (readD s).2] ∧ H' = H) (fun _ _ => False) .ret fr HR := by
  intro cs HR fr f2 f3 l2 hl hs hd
  refine finL (ds := [.agg cs, .int .i64 (readD s).2]) (d := .tup [.agg (dvcC (readD s).1), .int .i64 (readD s).2]) (H' := H) ?_ ?_ hs ⟨rfl, rfl⟩
  · show (ldD HR true 7 (fr 2)).bind (fun d => ((some [fr 3]).bind fun l => some (d :: l))) = _
    rw [f2, f3, show ldD HR true 7 (.ptr b2 0) = some (.agg cs) by
     simp only [ldD, l2]
     have h7 : partD true 0 7 (cs.drop (0 * 7)) = some (.agg cs) := partD_row (i := 0) (ds := cs) (by simp only [Nat.zero_mul, List.drop_zero]; exact List.take_of_length_le (by omega)) (by omega)
     simpa using h7]
    rfl
  · exact (DLes.cons hd (.cons (DLe.refl _) .nil)).tup
 have h2 : (H.upd b2 (some (.cells Z7 28))) b2 = some (.cells Z7 28) := Hp.upd_same
 have hsb : ∀ o, SubH H ((H.upd b2 (some (.cells Z7 28))).upd b2 o) := fun o => by rw [Hp.upd_upd]; exact SubH.fresh q2
 change RG _ _ _ _ _ _ _ (H.upd b2 (some (.cells Z7 28)))
 have hsb' : ∀ q o o', (H.upd b2 (some (.cells Z7 28))) q = none → SubH H (((H.upd b2 (some (.cells Z7 28))).upd q o').upd b2 o) := fun q o o' hq k x hk => by
  have hkb : k ≠ b2 := fun e => by rw [e, q2] at hk; cases hk
  rw [Hp.upd_ne hkb, Hp.upd_ne (fun e => by rw [← e, Hp.upd_ne hkb] at hq; rw [hk] at hq; cases hq), Hp.upd_ne hkb]; exact hk
 generalize H.upd b2 (some (.cells Z7 28)) = HH at h2 hsb hsb' ⊢
 refine go ?_
 refine RG.nilS (AC.seq (AC.reg ?_))
 refine go1 ?_
 refine RG.callP .d rfl (Read_ok hG.ok s) ?_
 have hT : readD s = bif !((readF s).2.2 == 0) then (Dvc0, (readF s).2.2) else ofF (readF s).1 := rfl
 generalize readF s = rf at hfit hT ⊢
 obtain ⟨f, at_, fl⟩ := rf
 dsimp only at hfit hT ⊢
 refine go ?_
 refine RG.alloc .d fun q hq => ?_
 refine RG.sto (cs := [.int .i64 0, .str [], .str [], .bool false, .nils]) (ty := elT) (d := .agg (elC f)) (ys := elC f) .d wh Hp.upd_same (by exact rfl) rfl (elC_length _) (by exact Nat.le_refl _) ?_
 rw [Hp.upd_upd, spl_el]
 have hqq : (HH.upd q (some (.cells (elC f) elT))) q = some (.cells (elC f) elT) := Hp.upd_same
 have nq : q ≠ b2 := fun e => by rw [e, h2] at hq; cases hq
 have hx2 : (HH.upd q (some (.cells (elC f) elT))) b2 = some (.cells Z7 28) := (Hp.upd_ne (Ne.symm nq)).trans h2
 have hs2 := fun o => hsb' q o (some (.cells (elC f) elT)) hq
 generalize HH.upd q (some (.cells (elC f) elT)) = HX at hqq hx2 hs2 ⊢
 refine go ?_
 refine RG.nilS (AC.seq (AC.seq (AC.reg ?_)))
 refine go1 ?_
 refine RG.p (d := .bool (!(fl == 0))) .d (by rfl) ?_
 cases c1 : fl == 0
 · rw [c1] at hT
   refine RG.nilS (AC.cond_t rfl (AC.seq (AC.reg ?_)))
   refine go1 ?_
   refine go1 ?_
   refine RG.sto (cs := Z7) (ty := 28) (d := .agg Z7) (ys := Z7) .d wh hx2 (by exact rfl) rfl rfl (by exact Nat.le_refl _) ?_
   rw [show spliceL 0 Z7 Z7 = Z7 from rfl]
   refine go1 ?_
   exact RG.nilS (AC.ret (hres rfl (by rw [hT]; rfl) Hp.upd_same rfl (hs2 _) (by rw [hT]; exact Dvc0_le)))
 rw [c1] at hT
 have hff := hfit (by simpa using c1)
 refine RG.nilS (AC.cond_f rfl (AC.skip (AC.seq (AC.reg ?_))))
 refine RG.ld .d wh hqq (ldEl f) ?_
 refine RG.callP .d rfl (Of_ok hG f hff) ?_
 have hT' : readD s = ofF f := hT
 refine go1 ?_
 refine go1 ?_
 refine RG.sto (cs := Z7) (ty := 28) (d := .agg (dvcC (ofF f).1)) (ys := dvcC (ofF f).1) .d wh hx2 (by exact rfl) rfl rfl (by exact Nat.le_refl _) ?_
 rw [show spliceL 0 (dvcC (ofF f).1) Z7 = dvcC (ofF f).1 from rfl]
 refine go1 ?_
 exact RG.nilS (AC.ret (hres rfl (by rw [hT']; rfl) Hp.upd_same rfl (hs2 _) (by rw [hT']; exact DLe.refl _)))
theorem of_back (d : Dvc) (h : checkD d = 0) : ofF (elemD d) = (d, 0) := by
 obtain ⟨h1, h2, h3⟩ := dev_law d h
 have hE : elemDF d = (elemD d, 0) := by rw [elemDF, h]; rfl
 rw [ofF, h2, h3, hE]
 show (bif (0 : Int) == 0 && sameF (elemD d) (elemD d) 20 then (d, (0 : Int)) else (Dvc0, 3)) = _
 rw [sameF_refl]; rfl
theorem devBack (d : Dvc) : ((textD d).2 ≠ 0 → (textD d).1 = [] ∧ ((textD d).2 = 8 ∨ checkD d ≠ 0)) ∧ ((textD d).2 = 0 → readD (textD d).1 = (d, 0) ∧ fits (readF (textD d).1).1) := by
 cases c : checkD d == 0
 · have hc : checkD d ≠ 0 := by simpa using c
   have hE : elemDF d = (El0, checkD d) := by rw [elemDF, c]; rfl
   have hT : textD d = ([], checkD d) := by rw [textD, hE]; show (bif !(checkD d == 0) then _ else _) = _; rw [c]; rfl
   rw [hT]
   exact ⟨fun _ => ⟨rfl, .inr hc⟩, fun h => absurd h hc⟩
 · have hc : checkD d = 0 := by simpa using c
   have hE : elemDF d = (elemD d, 0) := by rw [elemDF, hc]; rfl
   have hT : textD d = writeF (elemD d) := by rw [textD, hE]; rfl
   obtain ⟨h1, h2, h3⟩ := dev_law d hc
   obtain ⟨k1, k2⟩ := back_law (elemD d)
   rw [hT]
   refine ⟨fun h => ⟨k2 h, ?_⟩, fun h => ?_⟩
   · left
     have hw : writeF (elemD d) = bif decide ((((docF (elemD d)).length : Nat) : Int) > 12000) then ([], 8) else (docF (elemD d), 0) := by rw [writeF, h1]; rfl
     rw [hw] at h ⊢
     cases e : decide ((((docF (elemD d)).length : Nat) : Int) > 12000)
     · rw [e] at h; exact absurd rfl h
     · rfl
   · have hr := k1 h
     refine ⟨?_, by rw [hr]; exact fits_ok _ (check_ok h1).1⟩
     rw [readD, hr]
     exact of_back d hc
theorem DevinfBack_ok (hG : GOS G) (d : Dvc) (hf : fitsD d) : PF prog G 5 [.agg (dvcC d)] (.bool true) := by
 intro H
 refine CALL.of cF5 (Nat.le_of_ble_eq_true rfl) ?_
 refine AC.seq (AC.reg ?_)
 refine RG.box (d := .agg (dvcC d)) (ys := dvcC d) .d rfl rfl fun b hb => ?_
 have hHb : (H.upd b (some (.cells (dvcC d) 28))) b = some (.cells (dvcC d) 28) := Hp.upd_same
 have hsb : SubH H (H.upd b (some (.cells (dvcC d) 28))) := SubH.fresh hb
 change RG _ _ _ _ _ _ _ (H.upd b (some (.cells (dvcC d) 28)))
 generalize H.upd b (some (.cells (dvcC d) 28)) = HH at hHb hsb ⊢
 refine go1 ?_
 refine RG.nilS (AC.seq (AC.seq (AC.reg ?_)))
 refine RG.ld .d wh hHb (ldDev d) ?_
 refine RG.call .d rfl (GreatD_ok d hf _) (fun r H' ⟨⟨g, hv⟩, hH⟩ => ?_) (fun _ _ h => h.elim)
 subst hH; subst hv
 cases g
 case true =>
  refine au ?_
  exact AC.ret (finD (H' := H) rfl hsb ⟨rfl, rfl⟩)
 refine RG.nilS (AC.cond_f rfl (AC.skip (AC.seq (AC.reg ?_))))
 refine RG.ld .d wh hHb (ldDev d) ?_
 refine RG.callP .d rfl (TextD_ok hG.ok d) ?_
 obtain ⟨k1, k2⟩ := devBack d
 generalize textD d = td at k1 k2 ⊢
 obtain ⟨s, f⟩ := td
 dsimp only at k1 k2 ⊢
 refine go ?_
 refine RG.nilS (AC.seq (AC.seq (AC.reg ?_)))
 refine go1 ?_
 refine RG.p (d := .bool (!(f == 0))) .d (by rfl) ?_
 cases c1 : f == 0
 · obtain ⟨rfl, h8⟩ := k1 (by simpa using c1)
   refine RG.nilS (AC.cond_t rfl (AC.seq (AC.reg ?_)))
   refine go1 ?_
   refine go1 ?_
   refine go1 ?_
   refine go1 ?_
   refine RG.p (d := .bool (f == 8)) .d (by rfl) ?_
   cases c2 : f == 8
   · have hc : checkD d ≠ 0 := by
      rcases h8 with h | h
      · rw [h] at c2; cases c2
      · exact h
     refine go1 ?_
     refine RG.ld .d wh hHb (ldDev d) ?_
     refine RG.callP .d rfl (refCheckD_ok d) ?_
     refine RG.p (d := .bool true) .d (by
      show some (DV.bool (!(checkD d == 0))) = _
      rw [show (checkD d == 0) = false by simpa using hc]; rfl) ?_
     refine go ?_
     exact RG.nilS (AC.ret (finD (H' := H) rfl hsb ⟨rfl, rfl⟩))
   · refine go ?_
     exact RG.nilS (AC.ret (finD (H' := H) rfl hsb ⟨rfl, rfl⟩))
 have hf0 : f = 0 := by simpa using c1
 obtain ⟨hr, hfr⟩ := k2 hf0
 have hR := ReadD_ok hG s (fun _ => hfr)
 rw [hr] at hR
 dsimp only at hR
 refine RG.nilS (AC.cond_f rfl (AC.skip (AC.seq (AC.reg ?_))))
 refine go1 ?_
 refine RG.callP .d rfl hR ?_
 refine go ?_
 refine RG.alloc .d fun q hq => ?_
 refine RG.sto (cs := Z7) (ty := 28) (d := .agg (dvcC d)) (ys := dvcC d) .d wh Hp.upd_same (by exact rfl) rfl rfl (by exact Nat.le_refl _) ?_
 rw [Hp.upd_upd, show spliceL 0 (dvcC d) Z7 = dvcC d from rfl]
 have nq : q ≠ b := fun e => by rw [e, hHb] at hq; cases hq
 have hqq : (H'.upd q (some (.cells (dvcC d) 28))) q = some (.cells (dvcC d) 28) := Hp.upd_same
 have hqb : (H'.upd q (some (.cells (dvcC d) 28))) b = some (.cells (dvcC d) 28) := (Hp.upd_ne (Ne.symm nq)).trans hHb
 have hs2 : SubH H (H'.upd q (some (.cells (dvcC d) 28))) := hsb.trans (SubH.fresh hq)
 generalize H'.upd q (some (.cells (dvcC d) 28)) = HX at hqq hqb hs2 ⊢
 refine go ?_
 refine RG.nilS (AC.seq (AC.reg ?_))
 refine go1 ?_
 refine go1 ?_
 refine go1 ?_
 refine RG.ld .d wh hqq (ldDev d) ?_
 refine RG.ld .d wh hqb (ldDev d) ?_
 refine RG.callP .d rfl (Same20_ok d hf) ?_
 refine go ?_
 exact RG.nilS (AC.ret (finD (H' := H) rfl hs2 ⟨rfl, rfl⟩))
open Go.ChangeShapes Go.WideShapes Go.ChangeAt
variable {H0 : Type} {enc : TypeId × Value → H0}
def CL (W : World) (Z : Zn) (cs : List Value) (ds : List DV) : Prop :=
 cs.length = ds.length ∧ (∀ (j : Nat) (v : Value), cs[j]? = some v → v.oneCell' = true) ∧ ∀ (j : Nat) (v : Value) (d : DV), cs[j]? = some v → ds[j]? = some d → VR W (fun _ => none) Z v d
theorem CL.nil {W : World} {Z : Zn} : CL W Z [] [] := ⟨rfl, fun j v h => by simp at h, fun j v d h => by simp at h⟩
theorem CL.cons {W : World} {Z : Zn} {v : Value} {d : DV} {cs : List Value} {ds : List DV} (h1 : v.oneCell' = true) (h2 : VR W (fun _ => none) Z v d) (h : CL W Z cs ds) : CL W Z (v :: cs) (d :: ds) := by
 refine ⟨by simp [h.1], fun j w hj => ?_, fun j w e hj he => ?_⟩
 · cases j with
   | zero => simp at hj; subst hj; exact h1
   | succ j => exact h.2.1 j w (by simpa using hj)
 · cases j with
   | zero => simp at hj he; subst hj; subst he; exact h2
   | succ j => exact h.2.2 j w e (by simpa using hj) (by simpa using he)
theorem weights_all {P : Program} {e : TypeId} {q : Nat → Bool} : ∀ (L : List (DataW H0)), (DataW.weightsAll P e L).all q = true → ∀ d ∈ L, (d.weights P e).all q = true
 | [], _, d, h => by simp at h
 | x :: L, h, d, hd => by
   rw [DataW.weightsAll, List.all_append, Bool.and_eq_true] at h
   rcases List.mem_cons.1 hd with rfl | hd
   · exact h.1
   · exact weights_all L h.2 d hd
theorem cellsI : (prog).cellsOf 3 = 1 := by kernel_rfl
theorem cellsS : (prog).cellsOf 9 = 1 := by kernel_rfl
theorem cellsB : (prog).cellsOf 4 = 1 := by kernel_rfl
theorem cell_norm {W : World} {a : Addr} {v : Value} (h : W.cell? a = some v) : W.cell? ⟨a.block, a.off, none⟩ = some v ∧ a.spot = none ∧ a.block < W.heap.size := by
 unfold World.cell? at h ⊢
 cases e : W.heap[a.block]? with
 | none => rw [e] at h; cases h
 | some o =>
   rw [e] at h
   have hlt := (Array.getElem?_eq_some_iff.1 e).1
   cases o with
   | cells c t f =>
     dsimp only at h ⊢
     split at h
     · cases h
     · rename_i hs
       exact ⟨by simpa using h, by simpa using hs, hlt⟩
   | _ => cases h
theorem add_off (a : Addr) (i : Nat) : (a.add i).block = a.block ∧ (a.add i).off = a.off + i := by
 unfold Addr.add
 split <;> simp_all
end Go.Run.Tryz
