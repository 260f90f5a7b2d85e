/- Part 11 of a proof: texts B9 B10 B11 B12 B13 B14 B15. -/
import Derived.Test.YthmjdmianbobbaaGreatDoorVJ
namespace Go.Run.Tryz
open Go Go.Run Go.RowKit
open Go.Proofs.Tryz (prog)
def F61 : FN := ⟨21, (.seq (.reg [ji 2 (.mv (.c (.bool false)))])
 (.seq (.reg [ji 6 (.mv (.t 0)), ji 7 (.nilc (.t 6)), ji 8 (.fadr 0 (.t 7)), ji 9 (.ld false 1 (.t 8)), ji 10 (.call 64 [(.t 9)]), ji 5 (.mv (.t 10)), ji 11 (.ext (.t 5) 0), ji 12 (.ext (.t 5) 1), ji 3 (.mv (.t 11)), ji 4 (.mv (.t 12))])
 (.seq (.reg [ji 13 (.mv (.t 0)), ji 14 (.nilc (.t 13)), ji 15 (.fadr 3 (.t 14)), ji 16 (.ld false 1 (.t 15)), ji 17 (.mv (.t 16)), jg 18 17 false (.mv (.t 4)), jg 19 17 false (.bin .neq (.t 18) (ci 0)), ji 20 (.pick (.t 17) (.c (.bool true)) (.t 19)), ji 2 (.mv (.t 20))])
 .ret))), [.tmp 2]⟩
theorem cF61 : cFn prog 61 = some F61 := by kernel_rfl
def F121 : FN := ⟨22, (.seq (.reg [ji 6 (.mv (.t 0)), ji 7 (.nilc (.t 6)), ji 8 (.fadr 0 (.t 7)), ji 9 (.ld false 1 (.t 8)), ji 10 (.call 63 [(.t 9)]), ji 4 (.mv (.t 10))])
 (.seq (.reg [ji 11 (.mv (.t 0)), ji 12 (.nilc (.t 11)), ji 13 (.fadr 0 (.t 12)), ji 14 (.ld false 1 (.t 13)), ji 15 (.call 122 [(.t 14)]), ji 5 (.mv (.t 15))])
 (.seq (.reg [ji 16 (.mv (.t 5)), ji 17 (.mv (.t 1)), ji 18 (.bin .neq (.t 16) (.t 17))])
 (.cond (.t 18) (.reg [ji 19 (.mv (.t 0)), ji 20 (.mv (.t 4)), ji 21 (.call 58 [(.t 19), (.t 20), (ci 5)])])
 .skip)))), []⟩
theorem cF121 : cFn prog 121 = some F121 := by kernel_rfl
def F124 : FN := ⟨51, (.seq (.reg [ji 2 (.mv (.c (.str [])))])
 (.seq (.reg [ji 7 (.mv (.t 0)), ji 8 (.nilc (.t 7)), ji 9 (.fadr 0 (.t 8)), ji 10 (.ld false 1 (.t 9)), ji 11 (.call 122 [(.t 10)]), ji 3 (.mv (.t 11))])
 (.seq (.seq (.reg [ji 12 (.mv (.t 0)), ji 13 (.call 61 [(.t 12)])])
 (.cond (.t 13) (.seq (.reg [ji 2 (.mv (.c (.str [])))])
 .ret)
 .skip))
 (.seq (.seq (.reg [ji 14 (.mv (.t 3)), ji 15 (.conv .u64 (.t 14)), ji 16 (.mv (.t 0)), ji 17 (.nilc (.t 16)), ji 18 (.fadr 1 (.t 17)), ji 19 (.ld false 1 (.t 18)), ji 20 (.len true (.t 19)), ji 21 (.conv .u64 (.t 20)), ji 22 (.bin .geq (.t 15) (.t 21))])
 (.cond (.t 22) (.seq (.reg [ji 23 (.mv (.t 0)), ji 24 (.mv (.t 0)), ji 25 (.nilc (.t 24)), ji 26 (.fadr 0 (.t 25)), ji 27 (.ld false 1 (.t 26)), ji 28 (.call 63 [(.t 27)]), ji 29 (.call 58 [(.t 23), (.t 28), (ci 2)])])
 (.seq (.reg [ji 2 (.mv (.c (.str [])))])
 .ret))
 .skip))
 (.seq (.reg [ji 31 (.mv (.t 0)), ji 32 (.nilc (.t 31)), ji 33 (.fadr 1 (.t 32)), ji 34 (.ld false 1 (.t 33)), ji 35 (.mv (.t 3)), ji 36 (.slcS (.t 34) (some (.t 35)) none), ji 37 (.call 110 [(.t 36), (.c (.str [0]))]), ji 30 (.mv (.t 37)), ji 38 (.ext (.t 30) 0), ji 39 (.ext (.t 30) 1), ji 40 (.ext (.t 30) 2), ji 4 (.mv (.t 38)), ji 5 (.mv (.t 39)), ji 6 (.mv (.t 40))])
 (.seq (.seq (.reg [ji 41 (.mv (.t 6)), ji 42 (.un .not (.t 41))])
 (.cond (.t 42) (.seq (.reg [ji 43 (.mv (.t 0)), ji 44 (.mv (.t 0)), ji 45 (.nilc (.t 44)), ji 46 (.fadr 0 (.t 45)), ji 47 (.ld false 1 (.t 46)), ji 48 (.call 63 [(.t 47)]), ji 49 (.call 58 [(.t 43), (.t 48), (ci 1)])])
 (.seq (.reg [ji 2 (.mv (.c (.str [])))])
 .ret))
 .skip))
 (.seq (.reg [ji 50 (.mv (.t 4)), ji 2 (.mv (.t 50))])
 .ret))))))), [.tmp 2]⟩
theorem cF124 : cFn prog 124 = some F124 := by kernel_rfl
def F59 : FN := ⟨31, (.seq (.seq (.reg [ji 3 (.mv (.t 0)), ji 4 (.call 61 [(.t 3)]), ji 5 (.un .not (.t 4))])
 (.cond (.t 5) (.reg [ji 6 (.mv (.t 0)), ji 7 (.call 121 [(.t 6), (.c (.int .u32 1))])])
 .skip))
 (.seq (.seq (.reg [ji 8 (.mv (.t 0)), ji 9 (.call 61 [(.t 8)]), ji 10 (.un .not (.t 9))])
 (.cond (.t 10) (.reg [ji 11 (.mv (.t 0)), ji 12 (.call 121 [(.t 11), (.c (.int .u32 106))])])
 .skip))
 (.seq (.reg [ji 13 (.mv (.t 0)), ji 14 (.call 61 [(.t 13)]), ji 15 (.un .not (.t 14))])
 (.cond (.t 15) (.seq (.reg [ji 16 (.mv (.t 0)), ji 17 (.nilc (.t 16)), ji 18 (.fadr 0 (.t 17)), ji 19 (.ld false 1 (.t 18)), ji 20 (.call 122 [(.t 19)]), ji 2 (.mv (.t 20))])
 (.reg [ji 21 (.mv (.t 0)), ji 22 (.mv (.t 0)), ji 23 (.nilc (.t 22)), ji 24 (.fadr 0 (.t 23)), ji 25 (.ld false 1 (.t 24)), ji 26 (.mv (.t 2)), ji 27 (.conv .i64 (.t 26)), ji 28 (.call 123 [(.t 25), (.t 27)]), ji 29 (.nilc (.t 21)), ji 30 (.fadr 1 (.t 29)), jn (.st 1 (.t 30) (.t 28))]))
 .skip)))), []⟩
theorem cF59 : cFn prog 59 = some F59 := by kernel_rfl
variable {G : Gl}
def wrd (q : Nat) (tb : List UInt8) (pg : Int) : Option DO := some (.cells [.ptr q 0, .str tb, .int .i64 pg, .bool false, .int .i64 0, .int .i64 0] 99)
theorem bad_ok {H : Hp} {b q i : Nat} {s tb : List UInt8} {pg : Int} (hb : H b = wrd q tb pg) (hq : H q = mrd s i) : CALL prog G 61 [.ptr b 0] H (fun d H' => d = .bool false ∧ H' = H) (fun _ _ => False) := by
 refine CALL.of cF61 (Nat.le_of_ble_eq_true rfl) ?_
 refine AC.seq (AC.reg ?_)
 refine go ?_
 refine RG.nilS (AC.seq (AC.reg ?_))
 refine go1 ?_
 refine go1 ?_
 refine go1 ?_
 refine RG.ld .d rfl hb (d := .ptr q 0) rfl ?_
 refine RG.callR .d rfl (mErr_ok hq) ?_
 refine go ?_
 refine RG.nilS (AC.seq (AC.reg ?_))
 refine go1 ?_
 refine go1 ?_
 refine go1 ?_
 refine RG.ld .d rfl hb (d := .bool false) rfl ?_
 refine go ?_
 exact RG.nilS (AC.ret (fin rfl ⟨rfl, rfl⟩))
theorem want_ok {H : Hp} {b q i n : Nat} {s tb r : List UInt8} {pg : Int} (hb : H b = wrd q tb pg) (hq : H q = mrd s i) (hbq : b ≠ q) (hi : i ≤ s.length) (hs : s.length ≤ 1000000000) (hn : n < 4294967296) (hd : s.drop i = mbF n ++ r) :
  CALL prog G 121 [.ptr b 0, .int .u32 n] H (fun _ H' => H' = H.upd q (mrd s (i + (mbF n).length))) (fun _ _ => False) := by
 refine CALL.of cF121 (Nat.le_of_ble_eq_true rfl) ?_
 refine AC.seq (AC.reg ?_)
 refine go1 ?_
 refine go1 ?_
 refine go1 ?_
 refine RG.ld .d rfl hb (d := .ptr q 0) rfl ?_
 refine RG.callR .d rfl (mAt_ok hq) ?_
 refine go ?_
 refine RG.nilS (AC.seq (AC.reg ?_))
 refine go1 ?_
 refine go1 ?_
 refine go1 ?_
 refine RG.ld .d rfl hb (d := .ptr q 0) rfl ?_
 refine RG.callR .d rfl (mNumber_ok hq hi hs hn hd) ?_
 refine go ?_
 refine RG.nilS (AC.seq (AC.reg ?_))
 refine go1 ?_
 refine go1 ?_
 refine RG.p (d := .bool false) .d (by show some (DV.bool (((n : Nat) : Int) != ((n : Nat) : Int))) = _; congr 2; simp) ?_
 exact RG.nilS (AC.cond_f rfl (AC.skip (fin rfl rfl)))
def tabAt (tb : List UInt8) (n : Nat) : Option (List UInt8) := bif decide (tb.length ≤ n) then none else (cutO [0] (tb.drop n)).map (·.1)
theorem rtext_ok (hG : GOS G) {H : Hp} {b q i n : Nat} {s tb r x : List UInt8} {pg : Int} (hb : H b = wrd q tb pg) (hq : H q = mrd s i) (hbq : b ≠ q) (hi : i ≤ s.length) (hs : s.length ≤ 1000000000) (htl : tb.length ≤ 1000000000) (hn : n < 4294967296) (hd : s.drop i = mbF n ++ r) (ht : tabAt tb n = some x) :
  CALL prog G 124 [.ptr b 0] H (fun d H' => d = .str x ∧ H' = H.upd q (mrd s (i + (mbF n).length))) (fun _ _ => False) := by
 have hlt : n < tb.length := by
  unfold tabAt at ht
  cases c : decide (tb.length ≤ n)
  · have := of_decide_eq_false c; omega
  · rw [c] at ht; cases ht
 have hcut : ∃ y, cutO [0] (tb.drop n) = some (x, y) := by
  unfold tabAt at ht
  rw [show decide (tb.length ≤ n) = false by simp; omega, cond_false] at ht
  obtain ⟨⟨x', y⟩, h1, h2⟩ := Option.map_eq_some_iff.1 ht
  cases h2
  exact ⟨y, h1⟩
 obtain ⟨y, hcut⟩ := hcut
 have hb' : (H.upd q (mrd s (i + (mbF n).length))) b = wrd q tb pg := by rw [Hp.upd_ne hbq]; exact hb
 have hq' : (H.upd q (mrd s (i + (mbF n).length))) q = mrd s (i + (mbF n).length) := Hp.upd_same
 refine CALL.of cF124 (Nat.le_of_ble_eq_true rfl) ?_
 refine AC.seq (AC.reg ?_)
 refine go ?_
 refine RG.nilS (AC.seq (AC.reg ?_))
 refine go1 ?_
 refine go1 ?_
 refine go1 ?_
 refine RG.ld .d rfl hb (d := .ptr q 0) rfl ?_
 refine RG.callR .d rfl (mNumber_ok hq hi hs hn hd) ?_
 generalize H.upd q (mrd s (i + (mbF n).length)) = H1 at hb' hq' ⊢
 refine go ?_
 refine RG.nilS (AC.seq (AC.seq (AC.reg ?_)))
 refine go1 ?_
 refine RG.callR .d rfl (bad_ok hb' hq') ?_
 refine RG.nilS (AC.cond_f rfl (AC.skip (AC.seq (AC.seq (AC.reg ?_)))))
 refine go1 ?_
 refine RG.p (d := .int .u64 n) .d (by
  show some (DV.int .u64 (IntKind.u64.wrap ((n : Nat) : Int))) = _
  rw [IntWalk.u64_in _ (by omega)]) ?_
 refine go1 ?_
 refine go1 ?_
 refine go1 ?_
 refine RG.ld .d rfl hb' (d := .str tb) rfl ?_
 refine go1 ?_
 refine RG.p (d := .int .u64 (tb.length : Nat)) .d (by
  show some (DV.int .u64 (IntKind.u64.wrap ((tb.length : Nat) : Int))) = _
  rw [IntWalk.u64_in _ (by omega)]) ?_
 refine RG.p (d := .bool false) .d (by show some (DV.bool (decide (((n : Nat) : Int) ≥ ((tb.length : Nat) : Int)))) = _; congr 2; simp; omega) ?_
 refine RG.nilS (AC.cond_f rfl (AC.skip (AC.seq (AC.reg ?_))))
 refine go1 ?_
 refine go1 ?_
 refine go1 ?_
 refine RG.ld .d rfl hb' (d := .str tb) rfl ?_
 refine go1 ?_
 refine RG.p (d := .str (tb.drop n)) .d (by
  show slcSD (some (DV.int .u32 (n : Nat))) none (.str tb) = _
  have h1 : (0 : Int) ≤ ((n : Nat) : Int) ∧ ((n : Nat) : Int) ≤ ((tb.length : Nat) : Int) := by omega
  simp only [slcSD, bndD, Option.bind_some, if_pos h1, Int.toNat_natCast, List.take_length]) ?_
 refine RG.callP .d rfl (cut_ok hG.ok.ml (tb.drop n) [0] (by rw [List.length_drop]; omega)) ?_
 rw [show Lib.cut (tb.drop n) [0] = (x, y, true) by rw [cut_cutO, hcut]]
 refine go ?_
 refine RG.nilS (AC.seq (AC.seq (AC.reg ?_)))
 refine go ?_
 refine RG.nilS (AC.cond_f rfl (AC.skip (AC.seq (AC.reg ?_))))
 refine go ?_
 exact RG.nilS (AC.ret (fin rfl ⟨rfl, rfl⟩))
theorem head_ok {H : Hp} {b q i : Nat} {s tb r : List UInt8} {pg : Int} (hb : H b = wrd q [] pg) (hq : H q = mrd s i) (hbq : b ≠ q) (hi : i ≤ s.length) (hs : s.length ≤ 1000000000) (hd : s.drop i = mbF 1 ++ (mbF 106 ++ (mbF tb.length ++ (tb ++ r)))) :
  CALL prog G 59 [.ptr b 0] H (fun _ H' => H' = (H.upd q (mrd s (i + (2 + (mbF tb.length).length + tb.length)))).upd b (wrd q tb pg)) (fun _ _ => False) := by
 have e1 : (mbF 1).length = 1 := by kernel_rfl
 have e2 : (mbF 106).length = 1 := by kernel_rfl
 have hl := congrArg List.length hd
 simp only [List.length_drop, List.length_append, e1, e2] at hl
 have hd1 : s.drop (i + 1) = mbF 106 ++ (mbF tb.length ++ (tb ++ r)) := by
  have := drop_add hd; rw [e1] at this; exact this
 have hd2 : s.drop (i + 1 + 1) = mbF tb.length ++ (tb ++ r) := by
  have := drop_add hd1; rw [e2] at this; exact this
 have hd3 := drop_add hd2
 have up : ∀ j k, (H.upd q (mrd s j)).upd q (mrd s k) = H.upd q (mrd s k) := fun j k => Hp.upd_upd
 have lb : ∀ j, (H.upd q (mrd s j)) b = wrd q [] pg := fun j => by rw [Hp.upd_ne hbq]; exact hb
 have lq : ∀ j, (H.upd q (mrd s j)) q = mrd s j := fun j => Hp.upd_same
 refine CALL.of cF59 (Nat.le_of_ble_eq_true rfl) ?_
 refine AC.seq (AC.seq (AC.reg ?_))
 refine go1 ?_
 refine RG.callR .d rfl (bad_ok hb hq) ?_
 refine go ?_
 refine RG.nilS (AC.cond_t rfl (AC.reg ?_))
 refine go1 ?_
 refine RG.call .d rfl (want_ok (n := 1) hb hq hbq hi hs (by decide) hd) (fun d H' e => ?_) (fun _ _ h => h.elim)
 subst e
 rw [e1]
 refine RG.nil (AC.seq (AC.seq (AC.reg ?_)))
 refine go1 ?_
 refine RG.callR .d rfl (bad_ok (lb _) (lq _)) ?_
 refine go ?_
 refine RG.nilS (AC.cond_t rfl (AC.reg ?_))
 refine go1 ?_
 refine RG.call .d rfl (want_ok (n := 106) (lb _) (lq _) hbq (by omega) hs (by decide) hd1) (fun d H' e => ?_) (fun _ _ h => h.elim)
 subst e
 rw [e2, up]
 refine RG.nil (AC.seq (AC.reg ?_))
 refine go1 ?_
 refine RG.callR .d rfl (bad_ok (lb _) (lq _)) ?_
 refine go ?_
 refine RG.nilS (AC.cond_t rfl (AC.seq (AC.reg ?_)))
 refine go1 ?_
 refine go1 ?_
 refine go1 ?_
 refine RG.ld .d rfl (lb _) (d := .ptr q 0) rfl ?_
 refine RG.callR .d rfl (mNumber_ok (lq _) (by omega) hs (by omega) hd2) ?_
 rw [up]
 refine go ?_
 refine RG.nilS (AC.reg ?_)
 refine go1 ?_
 refine go1 ?_
 refine go1 ?_
 refine go1 ?_
 refine RG.ld .d rfl (lb _) (d := .ptr q 0) rfl ?_
 refine go1 ?_
 refine RG.p (d := .int .i64 (tb.length : Nat)) .d (by
  show some (DV.int .i64 (IntKind.i64.wrap ((tb.length : Nat) : Int))) = _
  rw [IntWalk.i64_in _ (by omega)]) ?_
 refine RG.callR .d rfl (mBytes_ok (n := tb.length) (lq _) (by omega) hs) ?_
 rw [up, hd3, List.take_left]
 refine go1 ?_
 refine go1 ?_
 refine RG.sto (d := .str tb) .d rfl (lb _) rfl rfl rfl (by exact Nat.le_of_ble_eq_true rfl) ?_
 refine RG.nil (fin rfl ?_)
 have : i + 1 + 1 + (mbF tb.length).length + tb.length = i + (2 + (mbF tb.length).length + tb.length) := by omega
 rw [this]
 rfl
theorem each_rng : ∀ (ws : List (List UInt8)) (t : Nat), ∀ a ∈ eachF t ws, t ≤ a.1 ∧ a.1 < t + ws.length
 | [], t, a, ha => by simp [eachF] at ha
 | w :: ws, t, a, ha => by
   rw [eachF] at ha
   rw [List.length_cons]
   cases c : w == [45]
   · rw [c, cond_false] at ha
     rcases List.mem_cons.1 ha with rfl | ha
     · exact ⟨Nat.le_refl _, by dsimp only; omega⟩
     · have := each_rng ws (t + 1) a ha; omega
   · rw [c, cond_true] at ha
     have := each_rng ws (t + 1) a ha; omega
theorem each_back (n : List UInt8) : ∀ (ws : List (List UInt8)) (t : Nat) (a : Nat × List UInt8), (eachF t ws).find? (fun a => a.2 == n) = some a → (eachF t ws).find? (fun x => Nat.beq x.1 a.1) = some a
 | [], t, a, h => by simp [eachF] at h
 | w :: ws, t, a, h => by
   rw [eachF] at h ⊢
   cases c : w == [45]
   · rw [c, cond_false, List.find?_cons] at h
     rw [cond_false, List.find?_cons]
     cases c2 : w == n
     · dsimp only at h
       rw [c2] at h
       have hr := each_rng ws (t + 1) a (List.mem_of_find?_eq_some h)
       have hb : Nat.beq t a.1 = false := by
        cases hb : Nat.beq t a.1 with
        | false => rfl
        | true => have := Nat.eq_of_beq_eq_true hb; omega
       dsimp only
       rw [hb]
       exact each_back n ws (t + 1) a h
     · dsimp only at h
       rw [c2] at h
       cases h
       dsimp only
       rw [Nat.beq_refl]
   · rw [c, cond_true] at h
     rw [cond_true]
     exact each_back n ws (t + 1) a h
theorem name_back (p : Int) (n : List UInt8) (h : tokF p n ≠ 0) : nameF p (tokF p n) = n ∧ 5 ≤ tokF p n := by
 unfold tokF at h ⊢
 cases e : (vocF p).find? (fun a => a.2 == n) with
 | none => rw [e] at h; exact absurd rfl h
 | some a =>
   have h1 := each_back n _ _ a e
   have h2 := each_rng _ _ a (List.mem_of_find?_eq_some e)
   have h3 := List.find?_some e
   refine ⟨?_, h2.1⟩
   show nameF p a.1 = n
   rw [nameF, vocF, h1]
   exact eq_of_beq h3
def noz (t : List UInt8) : Bool := t.all fun c => !(c == 0)
theorem noz_name {n : List UInt8} (h : isName n = true) : noz n = true := by
 have key : ∀ c : UInt8, (isLetter c || isDigit c) = true → (!(c == 0)) = true := fun c hc => by
  cases hz : c == 0
  · rfl
  · rw [eq_of_beq hz] at hc; cases hc
 cases n with
 | nil => cases h
 | cons c l =>
   simp only [isName, Bool.and_eq_true] at h
   have h2 := h.2.2
   rw [Bool.not_eq_true', List.any_eq_false] at h2
   rw [noz, List.all_eq_true]
   intro d hd
   have h3 := h2 d hd
   refine key d ?_
   rw [Bool.not_eq_true, Bool.not_eq_false'] at h3
   exact h3
theorem noz_shown {t : List UInt8} (h : shownF t = true) : noz t = true := by
 unfold shownF at h
 rw [Bool.and_eq_true, Bool.not_eq_true', List.any_eq_false] at h
 rw [noz, List.all_eq_true]
 intro c hc
 cases hz : c == 0
 · rfl
 · have := h.2 c hc
   rw [eq_of_beq hz] at this
   exact absurd rfl this
theorem cut0 : ∀ (x r : List UInt8), noz x = true → cutO [0] (x ++ 0 :: r) = some (x, r)
 | [], r, _ => rfl
 | c :: x, r, h => by
   simp only [noz, List.all_cons, Bool.and_eq_true, Bool.not_eq_true'] at h
   have hp : List.isPrefixOf [0] (c :: (x ++ 0 :: r)) = false := by
    simp only [List.isPrefixOf, Bool.and_true]
    have := h.1
    rw [beq_eq_false_iff_ne] at this ⊢
    exact fun e => this e.symm
   rw [List.cons_append, cutO, hp, cond_false, cut0 x r h.2]; rfl
def TA (tb : List UInt8) (n : Nat) (x : List UInt8) : Prop := noz x = true ∧ ∃ r, n ≤ tb.length ∧ tb.drop n = x ++ 0 :: r
theorem TA.at {tb : List UInt8} {n : Nat} {x : List UInt8} (h : TA tb n x) : tabAt tb n = some x ∧ n < tb.length := by
 obtain ⟨h1, r, h0, h2⟩ := h
 have hl := congrArg List.length h2
 rw [List.length_drop, List.length_append, List.length_cons] at hl
 have hlt : n < tb.length := by omega
 refine ⟨?_, hlt⟩
 rw [tabAt, show decide (tb.length ≤ n) = false by simp; omega, cond_false, h2, cut0 x r h1]; rfl
theorem TA.more {tb : List UInt8} {n : Nat} {x : List UInt8} (y : List UInt8) (h : TA tb n x) : TA (tb ++ y) n x := by
 obtain ⟨h1, r, h0, h2⟩ := h
 refine ⟨h1, r ++ y, by rw [List.length_append]; omega, ?_⟩
 rw [List.drop_append_of_le_length h0, h2]
 simp
theorem mget_mset (x : List UInt8) : ∀ (l : IX) (s : List UInt8) (v : Int), mget (mset l s v) x = bif s == x then some v else mget l x
 | [], s, v => by
   simp only [mset, mget, List.find?_cons, List.find?_nil]
   cases s == x <;> rfl
 | p :: l, s, v => by
   have ih := mget_mset x l s v
   simp only [mset]
   cases c : p.1 == s
   · rw [cond_false]
     simp only [mget, List.find?_cons] at ih ⊢
     cases c2 : p.1 == x
     · exact ih
     · have : (s == x) = false := by
        rw [beq_eq_false_iff_ne] at c ⊢
        intro e; exact c (e ▸ eq_of_beq c2)
       rw [this]; rfl
   · rw [cond_true]
     simp only [mget, List.find?_cons]
     cases c2 : s == x
     · have : (p.1 == x) = false := by rw [eq_of_beq c]; exact c2
       rw [this]; rfl
     · rfl
def ixTab (ix : IX) (tb : List UInt8) : Prop := ∀ s a, mget ix s = some a → ∃ n : Nat, a = n ∧ TA tb n s
theorem ixTab.step {ix : IX} {tb s : List UInt8} (h : ixTab ix tb) (hs : noz s = true) : ixTab (mset ix s (tb.length : Nat)) (tb ++ s ++ [0]) := by
 intro x a hx
 rw [mget_mset] at hx
 cases c : s == x
 · rw [c, cond_false] at hx
   obtain ⟨n, h1, h2⟩ := h x a hx
   refine ⟨n, h1, ?_⟩
   rw [List.append_assoc]; exact h2.more _
 · rw [c, cond_true] at hx
   cases hx
   have := eq_of_beq c
   subst this
   refine ⟨tb.length, rfl, hs, [], by simp, ?_⟩
   rw [List.append_assoc, List.drop_left]
theorem ixTab.ok {ix : IX} {tb : List UInt8} (h : ixTab ix tb) (hl : tb.length ≤ 100000000) : ixOk ix := fun s a ha => by
 obtain ⟨n, h1, h2⟩ := h s a ha
 have := h2.at.2
 exact ⟨n, h1, by omega⟩
mutual
theorem tok_len (ix : IX) : ∀ (e : El) (pg : Int), okE e → (tokW ix pg e).length ≤ 5000 * nodes e
 | .mk p n t o ks, pg, h => by
   obtain ⟨hp, hn, _, _, htl, _, _⟩ := check1_ok h.1
   have hk := toks_len ix ks p h.2
   have h1 : (turnW pg p).length ≤ 2 := by
    unfold turnW
    cases p == pg
    · exact Nat.le_refl _
    · exact Nat.zero_le _
   have h2 : (nameW ix p n (conB t ks)).length ≤ 7 := by
    have := mbF_len (ixN ix n)
    unfold nameW
    cases tokF p n == 0
    · exact Nat.le_of_ble_eq_true rfl
    · rw [cond_true, List.length_cons]; omega
   have h3 := textW_len ix t o
   have h4 : (bif conB t ks == 0 then [] else textW ix t o ++ toksW ix p ks ++ [1]).length ≤ 4008 + (toksW ix p ks).length := by
    cases conB t ks == 0
    · rw [cond_false, List.length_append, List.length_append, List.length_singleton]; omega
    · exact Nat.zero_le _
   rw [tokW, List.length_append, List.length_append, nodes]
   omega
theorem toks_len (ix : IX) : ∀ (ks : List El) (pg : Int), okEs ks → (toksW ix pg ks).length ≤ 5000 * nodess ks
 | [], pg, _ => by simp [toksW]
 | k :: ks, pg, h => by
   have h1 := tok_len ix k pg h.1
   have h2 := toks_len ix ks (lastP k) h.2
   rw [toksW, List.length_append, nodess]
   omega
end
theorem tok_doc (ix : IX) {e : El} (h : checkF e = 0) : (tokW ix 0 e).length ≤ 10000000 := by
 obtain ⟨h1, h2⟩ := check_ok h
 have h3 := tok_len ix e 0 h1
 have h4 := nodes_pre e 1 20 (by omega)
 have h5 := pre_count e h
 omega
mutual
theorem pre_okE (m : Nat) : ∀ (e : El) (d : Nat), okE e → ∀ q ∈ pre m e d, okE q.2
 | .mk p n t o ks, d, h, q, hq => by
   rw [pre] at hq
   cases c : Nat.blt m d
   · rw [c, cond_false] at hq
     rcases List.mem_cons.1 hq with rfl | hq
     · exact h
     · exact pres_okE m ks (d + 1) h.2 q hq
   · rw [c, cond_true] at hq; simp at hq
theorem pres_okE (m : Nat) : ∀ (ks : List El) (d : Nat), okEs ks → ∀ q ∈ pres m ks d, okE q.2
 | [], d, _, q, hq => by simp [pres] at hq
 | k :: ks, d, h, q, hq => by
   rw [pres] at hq
   rcases List.mem_append.1 hq with hq | hq
   · exact pre_okE m k d h.1 q hq
   · exact pres_okE m ks d h.2 q hq
end
open Go Go.Run Go.RowKit
open Go.Proofs.Tryz (prog)
def F14 : FN := ⟨61, (.seq (.reg [ji 1 (.box 24 (.t 0)), ji 2 (.mv (.c (.str []))), ji 3 (.mv (ci 0))])
 (.seq (.seq (.reg [ji 9 (.ld true 5 (.t 1)), ji 10 (.call 38 [(.t 9)]), ji 4 (.mv (.t 10))])
 (.seq (.reg [ji 11 (.mv (.t 4)), ji 12 (.bin .neq (.t 11) (ci 0))])
 (.cond (.t 12) (.seq (.reg [ji 13 (.mv (.t 4)), ji 2 (.mv (.c (.str []))), ji 3 (.mv (.t 13))])
 .ret)
 .skip)))
 (.seq (.reg [ji 14 (.oth (.makeMap 76 none)), ji 15 (.bld [.nilmap, (.int .i64 0), .nilp, .nils] [(0, 1, (.t 14))]), ji 16 (.box 78 (.t 15)), ji 5 (.mv (.t 16))])
 (.seq (.reg [ji 6 (.alloc [.nilp, .nils] 67)])
 (.seq (.seq (.reg [ji 17 (.ld true 5 (.t 1)), ji 18 (.call 43 [(.t 17)]), ji 19 (.len false (.t 18)), ji 20 (.mv (ci 0))])
 (.block 0 (.loop (.seq (.reg [ji 21 (.bin .lss (.t 20) (.t 19))])
 (.seq (.cond (.t 21) .skip
 (.exit 0))
 (.seq (.block 1 (.seq (.reg [ji 22 (.iadr 1 (.t 18) (.t 20)), ji 23 (.ld false 1 (.t 22)), ji 8 (.mv (.t 23))])
 (.seq (.draw [ji 24 (.mv (.t 5)), ji 25 (.nilc (.t 24)), ji 26 (.fadr 0 (.t 25)), ji 27 (.ld false 1 (.t 26)), ji 28 (.mv (.t 8)), ji 29 (.call 41 [(.t 6)]), jn (.oth (.mapUpdate 76 (.tmp 27) (.tmp 28) (.tmp 29)))] [[], [0], [1], [2], [], [], [3, 4, 5, 5, 0, 1, 2, 3, 4, 5]])
 (.seq (.reg [ji 30 (.mv (.t 8)), ji 31 (.call 39 [(.t 6), (.t 30)])])
 (.reg [ji 32 (.call 44 [(.t 6), (.c (.int .u8 0))])])))))
 (.reg [ji 33 (.bin .add (.t 20) (ci 1)), ji 20 (.mv (.t 33))])))))))
 (.seq (.reg [ji 34 (.mv (.t 5)), ji 35 (.bsl 5 1 1 [(.int .u8 0)] [(0, 1, (.c (.int .u8 3)))]), ji 36 (.call 45 [(.t 34), (.t 35)])])
 (.seq (.reg [ji 37 (.mv (.t 5)), ji 38 (.call 46 [(.t 37), (ci 1)])])
 (.seq (.reg [ji 39 (.mv (.t 5)), ji 40 (.call 46 [(.t 39), (ci 106)])])
 (.seq (.reg [ji 41 (.mv (.t 5)), ji 42 (.call 41 [(.t 6)]), ji 43 (.call 46 [(.t 41), (.t 42)])])
 (.seq (.draw [ji 44 (.mv (.t 5)), ji 45 (.nilc (.t 44)), ji 46 (.fadr 2 (.t 45)), ji 47 (.call 42 [(.t 6)]), ji 48 (.call 39 [(.t 46), (.t 47)])] [[], [0], [1], [], [2, 3, 3]])
 (.seq (.reg [ji 49 (.mv (.t 5)), ji 50 (.ld true 5 (.t 1)), ji 51 (.call 47 [(.t 49), (.t 50)])])
 (.seq (.seq (.reg [ji 52 (.mv (.t 5)), ji 53 (.nilc (.t 52)), ji 54 (.fadr 2 (.t 53)), ji 55 (.call 41 [(.t 54)]), ji 56 (.bin .gtr (.t 55) (ci 12000))])
 (.cond (.t 56) (.seq (.reg [ji 2 (.mv (.c (.str []))), ji 3 (.mv (ci 8))])
 .ret)
 .skip))
 (.seq (.reg [ji 57 (.mv (.t 5)), ji 58 (.nilc (.t 57)), ji 59 (.fadr 2 (.t 58)), ji 60 (.call 42 [(.t 59)]), ji 2 (.mv (.t 60)), ji 3 (.mv (ci 0))])
 .ret))))))))))))), [.tmp 2, .tmp 3]⟩
theorem cF14 : cFn prog 14 = some F14 := by kernel_rfl
variable {G : Gl}
theorem two {X H1 H : Hp} {b wb : Nat} {m p : DV} {u u' : Bool} {bs bs' : List UInt8} (h : BLD X b u bs H1) (k : WB H1 wb m p u' bs' H) : ∃ X', BLD X' b u bs H ∧ WB X wb m p u' bs' X' := by
 cases k with
 | mt k => exact ⟨_, h.put k, .mt u' (h.base k)⟩
 | on g bs k1 k2 k3 k4 =>
   have hg : (H1.upd wb (some (.cells [m, p, wAddr u' wb, .lst (bs'.map B8) bs'.length 1 (some (g, 0))] 78))) g = none := by rw [Hp.upd_ne k3]; exact k2
   exact ⟨_, (h.put k1).put hg, .on u' g bs' (h.base k1) (h.base k2) k3 k4⟩
def headW : List UInt8 := [3] ++ mbF 1 ++ mbF 106
def docW (ix : IX) (tb : List UInt8) (e : El) : List UInt8 := headW ++ mbF tb.length ++ tb ++ tokW ix 0 e
structure TOK (ix : IX) (tb : List UInt8) (e : El) : Prop where
 tab : ixTab ix tb
 has : ∀ p ∈ pre 20 e 1, tokF p.2.page p.2.name = 0 → (mget ix p.2.name).isSome = true
 len : tb.length ≤ 40000000
def TBS (tab : List (List UInt8)) (i : Nat) (ix : IX) (tb : List UInt8) : Prop := ixTab ix tb ∧ (∀ s ∈ tab.take i, (mget ix s).isSome = true) ∧ tb.length ≤ 4001 * i
theorem wWrite_ok (hG : GOS G) (e : El) (hfit : fits e) (H : Hp) : CALL prog G 14 [.agg (elC e)] H
  (fun r H' => H' = H ∧ ((checkF e ≠ 0 ∧ r = .tup [.str [], .int .i64 (checkF e)]) ∨ (checkF e = 0 ∧ ∃ ix tb, TOK ix tb e ∧ ((12000 < (docW ix tb e).length ∧ r = .tup [.str [], .int .i64 8]) ∨ ((docW ix tb e).length ≤ 12000 ∧ r = .tup [.str (docW ix tb e), .int .i64 0]))))) (fun _ _ => False) := by
 refine CALL.of cF14 (Nat.le_of_ble_eq_true rfl) ?_
 refine AC.seq (AC.reg ?_)
 refine RG.box (d := .agg (elC e)) (ys := elC e) .d rfl rfl fun q hq => ?_
 refine go ?_
 refine RG.nilS (AC.seq (AC.seq (AC.reg ?_)))
 refine RG.ld .d wh Hp.upd_same (ldEl e) ?_
 refine RG.callP .d rfl (Check_ok hG.ok e hfit) ?_
 refine go ?_
 refine RG.nilS (AC.seq (AC.reg ?_))
 refine go1 ?_
 refine RG.p (d := .bool (!(checkF e == 0))) .d rfl ?_
 cases c0 : checkF e == 0
 · refine RG.nilS (AC.cond_t rfl (AC.seq (AC.reg ?_)))
   refine go ?_
   exact RG.nilS (AC.ret (finD (H' := H) rfl (SubH.fresh hq) ⟨rfl, .inl ⟨by simpa using c0, rfl⟩⟩))
 have hc0 : checkF e = 0 := by simpa using c0
 obtain ⟨hok, hdp⟩ := check_ok hc0
 have htd := fun ix => tok_doc ix hc0
 have hcount := pre_count e hc0
 refine RG.nilS (AC.cond_f rfl (AC.skip (AC.seq (AC.reg ?_))))
 refine RG.st (ST.mkmap fun mb hmb => ?_)
 have hmq : mb ≠ q := fun e => by rw [e, Hp.upd_same] at hmb; cases hmb
 rw [Hp.upd_ne hmq] at hmb
 refine go1 ?_
 refine RG.box (d := .agg [.mapr mb, .int .i64 0, .nilp, .nils]) (ys := [.mapr mb, .int .i64 0, .nilp, .nils]) .d rfl rfl fun wb hwb => ?_
 have hwm : wb ≠ mb := fun e => by rw [e, Hp.upd_same] at hwb; cases hwb
 rw [Hp.upd_ne hwm] at hwb
 have hwq : wb ≠ q := fun e => by rw [e, Hp.upd_same] at hwb; cases hwb
 rw [Hp.upd_ne hwq] at hwb
 refine go ?_
 refine RG.nilS (AC.seq (AC.reg ?_))
 -- what stands all along
 obtain ⟨X, hXe⟩ : ∃ X : IX → Hp, ∀ ix, X ix = ((H.upd q (some (.cells (elC e) 24))).upd mb (some (mpo ix))).upd wb (some (.cells [.mapr mb, .int .i64 0, .nilp, .nils] 78)) := ⟨_, fun _ => rfl⟩
 have hXm : ∀ ix, X ix mb = some (mpo ix) := fun ix => by rw [hXe, Hp.upd_ne (Ne.symm hwm)]; exact Hp.upd_same
 have hXw : ∀ ix, X ix wb = some (.cells [.mapr mb, .int .i64 0, .nilp, .nils] 78) := fun ix => by rw [hXe]; exact Hp.upd_same
 have hXq : ∀ ix, X ix q = some (.cells (elC e) 24) := fun ix => by rw [hXe, Hp.upd_ne (Ne.symm hwq), Hp.upd_ne (Ne.symm hmq)]; exact Hp.upd_same
 have hXu : ∀ ix ix', (X ix).upd mb (some (mpo ix')) = X ix' := fun ix ix' => by rw [hXe, hXe, Hp.upd_comm hwm, Hp.upd_upd]
 have hXs : ∀ ix, SubH H ((X ix).upd wb none) := fun ix => by
  rw [hXe, Hp.upd_upd, Hp.upd_id (b := wb) (by rw [Hp.upd_ne hwm, Hp.upd_ne hwq]; exact hwb)]
  exact (SubH.fresh hq).trans (SubH.fresh (by rw [Hp.upd_ne hmq]; exact hmb))
 rw [← hXe []]
 refine RG.alloc .d fun kb hkb => ?_
 have hB0 : BLD (X []) kb false [] ((X []).upd kb (some (.cells [.nilp, .nils] 67))) := .mt false hkb
 refine RG.nilS (AC.seqI (I := fun fr' H' => (∃ ix tb u, TOK ix tb e ∧ BLD (X ix) kb u tb H') ∧ Agrees fr' [(1, .ptr q 0), (5, .ptr wb 0), (6, .ptr kb 0)]) (AC.seq (AC.reg ?_)) ?_)
 · refine RG.ld .d wh (hB0.look (hXq [])) (ldEl e) ?_
   refine RG.call .d rfl (Table_ok hG e hfit hc0 _) (fun d H' ⟨tab, t1, t2, t3⟩ => ?_) (fun _ _ h => h.elim)
   subst t1; subst t3
   obtain ⟨o1, o2, o3⟩ := t2
   have htab : tab.length ≤ 4000 := by omega
   have hs1 : ∀ s ∈ tab, noz s = true ∧ s.length ≤ 4000 := fun s hs => by
    obtain ⟨p, hp, hh⟩ := o1 s hs
    have hpk := pre_okE 20 e 1 hok p hp
    obtain ⟨pd, pp, pn, pt, po, pks⟩ := p
    obtain ⟨_, hn, _, _, htl, _, hsh⟩ := check1_ok hpk.1
    rcases hh with rfl | ⟨h1, rfl⟩
    · refine ⟨noz_name hn, ?_⟩
      cases s with
      | nil => cases hn
      | cons c l =>
        have hn2 : isName (c :: l) = true := hn
        simp only [isName, Bool.and_eq_true, decide_eq_true_eq] at hn2
        show (c :: l).length ≤ 4000
        omega
    · exact ⟨noz_shown (hsh h1), htl⟩
   refine go ?_
   refine RG.nilS ?_
   refine AC.bloopH (α := Nat × IX × List UInt8 × Bool) (β := Unit) (fun a => tab.length - a.1) (fun a => [(1, .ptr q 0), (5, .ptr wb 0), (6, .ptr kb 0), (18, .lst (strs tab) tab.length 1 none), (19, .int .i64 tab.length), (20, .int .i64 a.1)])
    (fun a H' => a.1 ≤ tab.length ∧ TBS tab a.1 a.2.1 a.2.2.1 ∧ BLD (X a.2.1) kb a.2.2.2 a.2.2.1 H') (fun _ => [(1, .ptr q 0), (5, .ptr wb 0), (6, .ptr kb 0)]) (fun _ H' => ∃ ix tb u, TOK ix tb e ∧ BLD (X ix) kb u tb H') ?_ ?_ (0, [], [], false) _ ⟨Nat.zero_le _, ⟨fun s a h => (by cases h), fun s hs => (by simp at hs), Nat.zero_le _⟩, hB0⟩ ⟨rfl, rfl, rfl, rfl, rfl, rfl, trivial⟩
   · rintro _ He fr h hfr
     exact ⟨h, hfr⟩
   · rintro ⟨i, ix, tb, u⟩ H' ⟨g1, ⟨g2, g3, g4⟩, g5⟩ ih ex
     dsimp only at g1 g2 g3 g4 g5 ih ⊢
     refine AC.seq (AC.reg ?_)
     refine go ?_
     cases e1 : decide ((i : Int) < tab.length)
     · have e := of_decide_eq_false e1
       rw [List.take_of_length_le (by omega)] at g3
       exact RG.nilS (AC.seq (AC.cond_f rfl (AC.exit (ex () _ _ ⟨ix, tb, u, ⟨g2, fun p hp h0 => g3 _ (o3 p hp h0), by omega⟩, g5⟩ ⟨rfl, rfl, rfl, trivial⟩))))
     have e2 := of_decide_eq_true e1
     have hi : i < tab.length := by omega
     have hmem := List.getElem_mem hi
     have hat : partD false 0 1 ((strs tab).drop (((i : Nat) : Int).toNat * 1)) = some (.str tab[i]) := partD_one (by rw [Int.toNat_natCast, strs, List.getElem?_map, List.getElem?_eq_getElem hi]; rfl)
     have htk : tab.take (i + 1) = tab.take i ++ [tab[i]] := List.take_succ_eq_append_getElem hi
     obtain ⟨hs2, hs3⟩ := hs1 _ hmem
     generalize tab[i] = s at hat htk hs2 hs3 hmem
     refine RG.nilS (AC.seq (AC.cond_t rfl (AC.skip (AC.seq (AC.block (AC.seq (AC.reg ?_)))))))
     refine RG.p .d (evP_iadr wh wh (by omega)) ?_
     refine RG.p (d := .str s) .d (evP_ldc wh hat) ?_
     refine go ?_
     refine RG.nilS (AC.seq (AC.drawP [5, 6] rfl ?_))
     first|refine VP.z0 0 ?_|refine VP.z1 0 ?_|refine VP.z2 0 ?_|refine VP.z3 0 ?_|refine VP.z4 0 ?_|refine VP.z5 0 ?_|refine VP.z6 0 ?_|refine VP.z7 0 ?_|refine VP.z8 0 ?_
     first|refine VP.z0 1 ?_|refine VP.z1 1 ?_|refine VP.z2 1 ?_|refine VP.z3 1 ?_|refine VP.z4 1 ?_|refine VP.z5 1 ?_|refine VP.z6 1 ?_|refine VP.z7 1 ?_|refine VP.z8 1 ?_
     first|refine VP.z0 2 ?_|refine VP.z1 2 ?_|refine VP.z2 2 ?_|refine VP.z3 2 ?_|refine VP.z4 2 ?_|refine VP.z5 2 ?_|refine VP.z6 2 ?_|refine VP.z7 2 ?_|refine VP.z8 2 ?_
     refine VP.v (d := .mapr mb) 3 rfl (evP_ld rfl (g5.look (hXw ix)) rfl) ?_
     first|refine VP.z0 4 ?_|refine VP.z1 4 ?_|refine VP.z2 4 ?_|refine VP.z3 4 ?_|refine VP.z4 4 ?_|refine VP.z5 4 ?_|refine VP.z6 4 ?_|refine VP.z7 4 ?_|refine VP.z8 4 ?_
     refine VP.pe 5 rfl rfl (EF.callg trivial rfl (Len_ok g5)) (fun _ _ _ h => h.elim) (fun d H2 ⟨k1, k2⟩ => ?_)
     subst k1; subst k2
     refine ⟨(by (repeat (refine stabP_cons rfl (by first | exact StabP.of (QV.evP trivial rfl) rfl | exact StabP.of (QV.bsl trivial rfl) rfl | exact StabP.of (QV.evP trivial (evP_ld rfl (g5.look (hXw ix)) rfl)) rfl) ?_)); exact stabP_nil), ?_⟩
     refine VP.pe (K := fun d H3 => d = .junk ∧ H3 = H2.upd mb (some (mpo (mset ix s (tb.length : Nat))))) (Kp := fun _ _ => False) 6 rfl rfl (fun fr1 l Q hs k _ => RG.st (ST.mset (P := prog) (kt := 9) (et := 3) (by kernel_rfl) (by kernel_rfl) ((hs 27 (by decide)).trans rfl) ((hs 28 (by decide)).trans rfl) ((hs 29 (by decide)).trans rfl) (g5.look (hXm ix)) (k _ _ ⟨rfl, rfl⟩))) (fun _ _ _ h => h.elim) (fun d H3 ⟨k1, k2⟩ => ?_)
     subst k1; subst k2
     have g6 := g5.upd (o' := mpo (mset ix s (tb.length : Nat))) (hXm ix)
     rw [hXu] at g6
     refine ⟨(by (repeat (refine stabP_cons rfl (by first | exact StabP.of (QV.evP trivial rfl) rfl | exact StabP.of (QV.bsl trivial rfl) rfl | exact StabP.of (QV.evP trivial (evP_ld rfl (g6.look (hXw _)) rfl)) rfl) ?_)); exact stabP_nil), ?_⟩
     refine VP.pd (AC.seq (AC.reg ?_))
     refine go1 ?_
     refine RG.call .d rfl (WriteString_ok g6 (by omega)) (fun d H4 ⟨_, g7⟩ => ?_) (fun _ _ h => h.elim)
     refine RG.nilS (AC.reg ?_)
     refine RG.call .d rfl (WriteByte_ok (c := 0) g7 (by rw [List.length_append]; omega)) (fun d H5 ⟨_, g8⟩ => ?_) (fun _ _ h => h.elim)
     refine RG.nil (AC.reg ?_)
     refine go ?_
     refine RG.nil (ih (i + 1, mset ix s (tb.length : Nat), tb ++ s ++ [0], true) _ ⟨by dsimp only; omega, ⟨g2.step hs2, fun x hx => ?_, ?_⟩, g8⟩ (by dsimp only; omega) _ ⟨rfl, rfl, rfl, rfl, rfl, rfl, trivial⟩)
     · dsimp only at hx ⊢
       rw [mget_mset]
       cases c : s == x
       · rw [cond_false]
         rw [htk] at hx
         rcases List.mem_append.1 hx with hx | hx
         · exact g3 x hx
         · rw [List.mem_singleton.1 hx] at c; simp at c
       · rfl
     · dsimp only
       rw [List.length_append, List.length_append, List.length_singleton]; omega
 rintro fr2 H2 ⟨⟨ix, tb, u, hT, hB⟩, hf2⟩
 have hix := hT.tab.ok (by have := hT.len; omega)
 have htl := hT.len
 have hml := mbF_len tb.length
 have e1 : (mbF 1).length = 1 := by kernel_rfl
 have e2 : (mbF 106).length = 1 := by kernel_rfl
 have htd2 := htd ix
 refine AC.to _ hf2 ?_
 have hBw := hB.rem (hXw ix)
 have hW0 : WB (H2.upd wb none) wb (.mapr mb) (.int .i64 0) false [] H2 := by
  have : H2 = (H2.upd wb none).upd wb (some (.cells [.mapr mb, .int .i64 0, wAddr false wb, .nils] 78)) := by
   rw [Hp.upd_upd]
   exact (Hp.upd_id (hB.look (hXw ix))).symm
  conv => rhs; rw [this]
  exact .mt false Hp.upd_same
 generalize H2.upd wb none = H1 at hBw hW0
 have hWm : H1 mb = some (mpo ix) := hBw.look (by rw [Hp.upd_ne (Ne.symm hwm)]; exact hXm ix)
 have hWq : H1 q = some (.cells (elC e) 24) := hBw.look (by rw [Hp.upd_ne (Ne.symm hwq)]; exact hXq ix)
 refine AC.seq (AC.reg ?_)
 refine go1 ?_
 refine RG.zD ?_
 refine RG.call .d rfl (bytes_ok (s := [3]) hW0 (by simp)) (fun d H3 hW1 => ?_) (fun _ _ h => h.elim)
 refine RG.nilS (AC.seq (AC.reg ?_))
 refine go1 ?_
 refine RG.call .d rfl (number_ok (n := 1) hW1 (by decide) (by simp)) (fun d H4 hW2 => ?_) (fun _ _ h => h.elim)
 refine RG.nilS (AC.seq (AC.reg ?_))
 refine go1 ?_
 refine RG.call .d rfl (number_ok (n := 106) hW2 (by decide) (by simp only [List.length_append, List.length_nil, List.length_singleton]; omega)) (fun d H5 hW3 => ?_) (fun _ _ h => h.elim)
 have hh : [] ++ [3] ++ mbF 1 ++ mbF 106 = headW := rfl
 rw [hh] at hW3
 have hhl : headW.length = 3 := by kernel_rfl
 refine RG.nilS (AC.seq (AC.reg ?_))
 refine go1 ?_
 obtain ⟨X5, hB5, _⟩ := two hBw hW3
 refine RG.callR .d rfl (Len_ok hB5) ?_
 refine RG.call .d rfl (number_ok (n := tb.length) hW3 (by omega) (by omega)) (fun d H6 hW4 => ?_) (fun _ _ h => h.elim)
 obtain ⟨X6, hB6, hW5⟩ := two hBw hW4
 refine RG.nilS (AC.seq (AC.drawP [3, 4] rfl ?_))
 first|refine VP.z0 0 ?_|refine VP.z1 0 ?_|refine VP.z2 0 ?_|refine VP.z3 0 ?_|refine VP.z4 0 ?_|refine VP.z5 0 ?_|refine VP.z6 0 ?_|refine VP.z7 0 ?_|refine VP.z8 0 ?_
 first|refine VP.z0 1 ?_|refine VP.z1 1 ?_|refine VP.z2 1 ?_|refine VP.z3 1 ?_|refine VP.z4 1 ?_|refine VP.z5 1 ?_|refine VP.z6 1 ?_|refine VP.z7 1 ?_|refine VP.z8 1 ?_
 first|refine VP.z0 2 ?_|refine VP.z1 2 ?_|refine VP.z2 2 ?_|refine VP.z3 2 ?_|refine VP.z4 2 ?_|refine VP.z5 2 ?_|refine VP.z6 2 ?_|refine VP.z7 2 ?_|refine VP.z8 2 ?_
 refine VP.pe 3 rfl rfl (EF.callg trivial rfl (String_ok hB6 (by omega))) (fun _ _ _ h => h.elim) (fun d H7 ⟨k1, k2⟩ => ⟨(by (repeat (refine stabP_cons rfl (by first | exact StabP.of (QV.evP trivial rfl) rfl | exact StabP.of (QV.evP trivial (evP_ld rfl hbb rfl)) rfl | exact StabP.of (QV.bsl trivial rfl) rfl) ?_)); exact stabP_nil), ?_⟩)
 subst k1; subst k2
 refine VP.pe 4 rfl rfl (EF.callg trivial rfl (WWriteString_ok hW5 (by rw [List.length_append]; omega))) (fun _ _ _ h => h.elim) (fun d H8 ⟨_, hW6⟩ => ⟨(by (repeat (refine stabP_cons rfl (by first | exact StabP.of (QV.evP trivial rfl) rfl | exact StabP.of (QV.evP trivial (evP_ld rfl hbb rfl)) rfl | exact StabP.of (QV.bsl trivial rfl) rfl) ?_)); exact stabP_nil), ?_⟩)
 refine VP.pd (AC.seq (AC.reg ?_))
 -- the element
 have hYm : ((X ix).upd wb none) mb = some (mpo ix) := by rw [Hp.upd_ne (Ne.symm hwm)]; exact hXm ix
 have hYq : ((X ix).upd wb none) q = some (.cells (elC e) 24) := by rw [Hp.upd_ne (Ne.symm hwq)]; exact hXq ix
 refine go1 ?_
 refine RG.ld .d rfl (hW6.look hYq) (ldEl e) ?_
 refine RG.call .d rfl (elemW_ok hG hix 12 e 0 _ _ _ hok hdp hW6 hYm (by simp only [List.length_append]; omega)) (fun d H9 hW7 => ?_) (fun _ _ h => h.elim)
 have hdoc : headW ++ mbF tb.length ++ tb ++ tokW ix 0 e = docW ix tb e := rfl
 rw [hdoc] at hW7
 have hdl : (docW ix tb e).length ≤ 200000000 := by
  rw [docW]; simp only [List.length_append]; omega
 refine RG.nilS (AC.seq (AC.seq (AC.reg ?_)))
 refine go1 ?_
 refine go1 ?_
 refine go1 ?_
 refine RG.callR .d rfl (WLen_ok hW7) ?_
 refine go ?_
 cases c1 : decide ((((docW ix tb e).length : Nat) : Int) > 12000)
 · have hle := of_decide_eq_false c1
   refine RG.nilS (AC.cond_f rfl (AC.skip (AC.seq (AC.reg ?_))))
   refine go1 ?_
   refine go1 ?_
   refine go1 ?_
   refine RG.callR .d rfl (WString_ok hW7 (by omega)) ?_
   refine go ?_
   exact RG.nilS (AC.ret (finD (H' := H) rfl (hXs ix) ⟨rfl, .inr ⟨hc0, ix, tb, hT, .inr ⟨by omega, rfl⟩⟩⟩))
 · have hgt := of_decide_eq_true c1
   refine RG.nilS (AC.cond_t rfl (AC.seq (AC.reg ?_)))
   refine go ?_
   exact RG.nilS (AC.ret (finD (H' := H) rfl ((hXs ix).trans hW7.sub) ⟨rfl, .inr ⟨hc0, ix, tb, hT, .inl ⟨by omega, rfl⟩⟩⟩))
open Go Go.Run Go.RowKit
open Go.Proofs.Tryz (prog)
def F126 : FN := ⟨145, (.scp (.seq (.reg [ji 6 (.mv (.c (.bool false))), ji 7 (.mv (.c (.bool false)))])
 (.seq .skip
 (.block 0 (.loop (.seq (.seq (.reg [ji 10 (.mv (.t 0)), ji 11 (.call 61 [(.t 10)]), ji 12 (.un .not (.t 11))])
 (.cond (.t 12) .skip
 (.exit 0)))
 (.block 1 (.seq (.reg [ji 13 (.mv (.t 0)), ji 14 (.nilc (.t 13)), ji 15 (.fadr 0 (.t 14)), ji 16 (.ld false 1 (.t 15)), ji 17 (.call 57 [(.t 16)]), ji 8 (.mv (.t 17))])
 (.seq (.seq (.reg [ji 18 (.mv (.t 0)), ji 19 (.call 61 [(.t 18)])])
 (.cond (.t 19) .ret
 .skip))
 (.seq (.seq (.reg [ji 20 (.mv (.t 8))])
 (.block 2 (.seq (.reg [ji 65 (.bin .eql (.t 20) (.c (.int .u8 1))), ji 64 (.mv (.t 65))])
 (.cond (.t 64) .ret
 (.seq (.seq (.reg [ji 67 (.bin .eql (.t 20) (.c (.int .u8 3))), ji 66 (.mv (.t 67))])
 (.cond (.t 66) .skip
 (.reg [ji 68 (.bin .eql (.t 20) (.c (.int .u8 131))), ji 66 (.mv (.t 68))])))
 (.cond (.t 66) (.seq (.seq (.reg [ji 69 (.mv (.t 7)), ji 70 (.mv (.t 69)), jg 71 70 false (.mv (.t 1)), jg 72 70 false (.nilc (.t 71)), jg 73 70 false (.fadr 4 (.t 72)), jg 74 70 false (.ld false 1 (.t 73)), jg 75 70 false (.len false (.t 74)), jg 76 70 false (.bin .gtr (.t 75) (ci 0)), ji 77 (.pick (.t 70) (.c (.bool true)) (.t 76))])
 (.cond (.t 77) (.exit 2)
 .skip))
 (.seq (.reg [ji 6 (.mv (.c (.bool true)))])
 (.seq (.seq (.reg [ji 78 (.mv (.t 8)), ji 79 (.bin .eql (.t 78) (.c (.int .u8 3)))])
 (.cond (.t 79) (.draw [ji 80 (.mv (.t 1)), ji 81 (.nilc (.t 80)), ji 82 (.fadr 2 (.t 81)), ji 83 (.ld false 1 (.t 82)), ji 84 (.mv (.t 0)), ji 85 (.nilc (.t 84)), ji 86 (.fadr 0 (.t 85)), ji 87 (.ld false 1 (.t 86)), ji 88 (.call 181 [(.t 87)]), ji 89 (.bin .add (.t 83) (.t 88)), ji 90 (.nilc (.t 80)), ji 91 (.fadr 2 (.t 90)), jn (.st 1 (.t 91) (.t 89))] [[], [0], [1], [2], [], [4], [5], [6], [7], [3, 8], [0, 0, 1, 2, 3, 4, 5, 6, 7, 8, 9], [10, 0, 1, 2, 3, 4, 5, 6, 7, 8, 9], [11, 9, 8, 0, 1, 2, 3, 4, 5, 6, 7, 8, 9]])
 (.draw [ji 92 (.mv (.t 1)), ji 93 (.nilc (.t 92)), ji 94 (.fadr 2 (.t 93)), ji 95 (.ld false 1 (.t 94)), ji 96 (.mv (.t 0)), ji 97 (.call 124 [(.t 96)]), ji 98 (.bin .add (.t 95) (.t 97)), ji 99 (.nilc (.t 92)), ji 100 (.fadr 2 (.t 99)), jn (.st 1 (.t 100) (.t 98))] [[], [0], [1], [2], [], [4], [3, 5], [0, 0, 1, 2, 3, 4, 5, 6], [7, 0, 1, 2, 3, 4, 5, 6], [8, 6, 5, 0, 1, 2, 3, 4, 5, 6]])))
 (.exit 1))))
 (.seq (.reg [ji 102 (.bin .eql (.t 20) (.c (.int .u8 195))), ji 101 (.mv (.t 102))])
 (.cond (.t 101) (.seq (.seq (.reg [ji 103 (.mv (.t 7)), ji 104 (.mv (.t 103)), jg 105 104 false (.mv (.t 6)), ji 106 (.pick (.t 104) (.c (.bool true)) (.t 105)), ji 107 (.mv (.t 106)), jg 108 107 false (.mv (.t 1)), jg 109 107 false (.nilc (.t 108)), jg 110 107 false (.fadr 4 (.t 109)), jg 111 107 false (.ld false 1 (.t 110)), jg 112 107 false (.len false (.t 111)), jg 113 107 false (.bin .gtr (.t 112) (ci 0)), ji 114 (.pick (.t 107) (.c (.bool true)) (.t 113))])
 (.cond (.t 114) (.exit 2)
 .skip))
 (.seq (.reg [ji 7 (.mv (.c (.bool true)))])
 (.seq (.reg [ji 115 (.mv (.t 0)), ji 116 (.nilc (.t 115)), ji 117 (.fadr 0 (.t 116)), ji 118 (.ld false 1 (.t 117)), ji 119 (.call 122 [(.t 118)]), ji 9 (.mv (.t 119))])
 (.seq (.reg [ji 120 (.mv (.t 1)), ji 121 (.mv (.t 0)), ji 122 (.nilc (.t 121)), ji 123 (.fadr 0 (.t 122)), ji 124 (.ld false 1 (.t 123)), ji 125 (.mv (.t 9)), ji 126 (.conv .i64 (.t 125)), ji 127 (.call 123 [(.t 124), (.t 126)]), ji 128 (.nilc (.t 120)), ji 129 (.fadr 2 (.t 128)), jn (.st 1 (.t 129) (.t 127))])
 (.seq (.reg [ji 130 (.mv (.t 1)), ji 131 (.mv (.t 1)), ji 132 (.nilc (.t 131)), ji 133 (.fadr 2 (.t 132)), ji 134 (.ld false 1 (.t 133)), ji 135 (.bin .neq (.t 134) (.c (.str []))), ji 136 (.nilc (.t 130)), ji 137 (.fadr 3 (.t 136)), jn (.st 1 (.t 137) (.t 135))])
 (.exit 1))))))
 (.seq (.seq (.reg [ji 21 (.mv (.t 7)), ji 22 (.mv (.t 21)), jg 23 22 false (.mv (.t 6)), ji 24 (.pick (.t 22) (.c (.bool true)) (.t 23))])
 (.cond (.t 24) (.exit 2)
 .skip))
 (.seq (.block 3 (.seq (.reg [ji 41 (.mv (.t 1)), ji 42 (.nilc (.t 41)), ji 43 (.fadr 4 (.t 42)), ji 44 (.ld false 1 (.t 43)), ji 45 (.len false (.t 44)), ji 46 (.bin .eql (.t 45) (ci 200)), ji 40 (.mv (.t 46))])
 (.cond (.t 40) (.reg [ji 47 (.mv (.t 0)), ji 48 (.mv (.t 0)), ji 49 (.nilc (.t 48)), ji 50 (.fadr 0 (.t 49)), ji 51 (.ld false 1 (.t 50)), ji 52 (.call 63 [(.t 51)]), ji 53 (.call 58 [(.t 47), (.t 52), (ci 4)])])
 (.seq (.reg [ji 55 (.mv (.t 2)), ji 56 (.bin .eql (.t 55) (ci 12)), ji 54 (.mv (.t 56))])
 (.cond (.t 54) (.reg [ji 57 (.mv (.t 0)), ji 58 (.mv (.t 0)), ji 59 (.nilc (.t 58)), ji 60 (.fadr 0 (.t 59)), ji 61 (.ld false 1 (.t 60)), ji 62 (.call 63 [(.t 61)]), ji 63 (.call 58 [(.t 57), (.t 62), (ci 9)])])
 (.draw [ji 25 (.mv (.t 1)), ji 26 (.nilc (.t 25)), ji 27 (.fadr 4 (.t 26)), ji 28 (.ld false 1 (.t 27)), ji 29 (.mv (.t 0)), ji 30 (.mv (.t 8)), ji 31 (.mv (.t 2)), ji 32 (.bin .add (.t 31) (ci 1)), ji 33 (.call 60 [(.t 29), (.t 30), (.t 32)]), ji 34 (.len false (.t 28)), ji 35 (.bsl 24 1 5 [(.int .i64 0), (.str []), (.str []), (.bool false), .nils] [(0, 5, (.c (.agg [(.int .i64 0), (.str []), (.str []), (.bool false), .nils])))]), ji 36 (.app 24 5 72 (.t 28) (.t 35)), ji 37 (.iadr 5 (.t 36) (.t 34)), jn (.st 5 (.t 37) (.t 33)), ji 38 (.nilc (.t 25)), ji 39 (.fadr 4 (.t 38)), jn (.st 1 (.t 39) (.t 36))] [[], [0], [1], [2], [], [], [], [6], [4, 5, 7], [3], [], [3, 10, 8, 0, 1, 2, 3, 4, 5, 6, 7, 8, 9, 10], [11, 9, 0, 1, 2, 3, 4, 5, 6, 7, 8, 9, 10, 11], [12, 8, 11, 0, 1, 2, 3, 4, 5, 6, 7, 8, 9, 10, 11], [0, 0, 1, 2, 3, 4, 5, 6, 7, 8, 9, 10, 11], [14, 0, 1, 2, 3, 4, 5, 6, 7, 8, 9, 10, 11], [15, 11, 11, 0, 1, 2, 3, 4, 5, 6, 7, 8, 9, 10, 11]]))))))
 (.exit 1)))))))))))
 (.reg [ji 138 (.mv (.t 0)), ji 139 (.mv (.t 0)), ji 140 (.nilc (.t 139)), ji 141 (.fadr 0 (.t 140)), ji 142 (.ld false 1 (.t 141)), ji 143 (.call 63 [(.t 142)]), ji 144 (.call 58 [(.t 138), (.t 143), (ci 7)])]))))))))))), []⟩
theorem cF126 : cFn prog 126 = some F126 := by kernel_rfl
variable {G : Gl}
theorem withinT_ok (hG : GOS G) {H : Hp} {b q be i : Nat} {s tb r n t : List UInt8} {pg deep p : Int} {o : Bool} {ix : IX} (hb : H b = wrd q tb pg) (hq : H q = mrd s i) (hbe : H be = some (.cells [.int .i64 p, .str n, .str [], .bool false, .nils] 24))
  (hbq : b ≠ q) (hi : i ≤ s.length) (hs : s.length ≤ 1000000000) (htl : tb.length ≤ 100000000) (hix : ixTab ix tb) (ht : t ≠ []) (htn : o = false → noz t = true) (hd : s.drop i = textW ix t o ++ 1 :: r) :
  CALL prog G 126 [.ptr b 0, .ptr be 0, .int .i64 deep] H (fun _ H' => H' = (H.upd q (mrd s (i + (textW ix t o).length + 1))).upd be (some (.cells [.int .i64 p, .str n, .str t, .bool o, .nils] 24))) (fun _ _ => False) := by
 have hne : be ≠ q := fun e => by rw [e, hq] at hbe; cases hbe
 have hnb : be ≠ b := fun e => by rw [e, hb] at hbe; cases hbe
 have hT : textW ix t o = bif o then 195 :: (mbF t.length ++ t) else bif (mget ix t).isSome then 131 :: mbF (ixN ix t) else 3 :: (t ++ [0]) := by
  rw [textW, show (t == []) = false by simpa using ht]; rfl
 have hlen := congrArg List.length hd
 rw [List.length_drop, List.length_append, List.length_cons] at hlen
 have lb : ∀ j x, (H.upd q (mrd s j)).upd be x b = wrd q tb pg := fun j x => by rw [Hp.upd_ne (Ne.symm hnb), Hp.upd_ne hbq]; exact hb
 have lq : ∀ j x, (H.upd q (mrd s j)).upd be x q = mrd s j := fun j x => by rw [Hp.upd_ne (Ne.symm hne)]; exact Hp.upd_same
 have le : ∀ j x, (H.upd q (mrd s j)).upd be x be = x := fun j x => Hp.upd_same
 have uq : ∀ j k x, ((H.upd q (mrd s j)).upd be x).upd q (mrd s k) = (H.upd q (mrd s k)).upd be x := fun j k x => by rw [Hp.upd_comm hne, Hp.upd_upd]
 have ue : ∀ j x y, ((H.upd q (mrd s j)).upd be x).upd be y = (H.upd q (mrd s j)).upd be y := fun j x y => Hp.upd_upd
 have h0 : H.upd q (mrd s (i + 1)) = (H.upd q (mrd s (i + 1))).upd be (some (.cells [.int .i64 p, .str n, .str [], .bool false, .nils] 24)) := (Hp.upd_id (by rw [Hp.upd_ne hne]; exact hbe)).symm
 -- the first byte, and the byte that ends
 obtain ⟨c, l, hcl⟩ : ∃ c l, textW ix t o = c :: l := by
  rw [hT]
  cases o
  · cases (mget ix t).isSome <;> exact ⟨_, _, rfl⟩
  · exact ⟨_, _, rfl⟩
 have hc0 : s[i]? = some c := by
  have := congrArg List.head? hd
  rw [List.head?_drop, hcl] at this
  exact this
 have hd1 : s.drop (i + 1) = l ++ 1 :: r := by
  rw [hcl] at hd
  have := drop_add (a := [c]) (r := l ++ 1 :: r) (by rw [hd]; rfl)
  exact this
 have hlc : (textW ix t o).length = l.length + 1 := by rw [hcl]; rfl
 have hend : s[i + (textW ix t o).length]? = some 1 := by
  have := drop_add hd
  have h2 := congrArg List.head? this
  rw [List.head?_drop] at h2
  exact h2
 refine CALL.of cF126 (Nat.le_of_ble_eq_true rfl) ?_
 refine AC.scp (AC.seq (AC.reg ?_))
 refine go ?_
 refine RG.nilS (AC.seq (AC.skip (AC.block (AC.loop (AC.seq (AC.seq (AC.reg ?_)))))))
 refine go1 ?_
 refine RG.callR .d rfl (bad_ok hb hq) ?_
 refine go ?_
 refine RG.nilS (AC.cond_t rfl (AC.skip (AC.block (AC.seq (AC.reg ?_)))))
 refine go1 ?_
 refine go1 ?_
 refine go1 ?_
 refine RG.ld .d rfl hb (d := .ptr q 0) rfl ?_
 refine RG.callR .d rfl (mByte_ok hq hc0 hs) ?_
 rw [h0]
 refine go ?_
 refine RG.nilS (AC.seq (AC.seq (AC.reg ?_)))
 refine go1 ?_
 refine RG.callR .d rfl (bad_ok (lb _ _) (lq _ _)) ?_
 refine RG.nilS (AC.cond_f rfl (AC.skip (AC.seq ?_)))
 -- the round that ends it
 have last : ∀ (fr : Fr) (j : Nat) (E : Option DO) (x y : Bool), j = i + (textW ix t o).length → E = some (.cells [.int .i64 p, .str n, .str t, .bool o, .nils] 24) → fr 0 = .ptr b 0 →
   AC prog G none F126.N (.loop (ccIn (ccIn (ccSnd (ccSnd (ccIn F126.c)))))) (Bk 0 (Fin F126.rs (fun _ H' => H' = (H.upd q (mrd s (i + (textW ix t o).length + 1))).upd be (some (.cells [.int .i64 p, .str n, .str t, .bool o, .nils] 24))) (fun _ _ => False))) fr ((H.upd q (mrd s j)).upd be E) := by
  rintro fr j E x y rfl rfl hf0
  refine AC.to [(0, .ptr b 0)] ⟨hf0, trivial⟩ (AC.loop (AC.seq (AC.seq (AC.reg ?_))))
  refine go1 ?_
  refine RG.callR .d rfl (bad_ok (lb _ _) (lq _ _)) ?_
  refine go ?_
  refine RG.nilS (AC.cond_t rfl (AC.skip (AC.block (AC.seq (AC.reg ?_)))))
  refine go1 ?_
  refine go1 ?_
  refine go1 ?_
  refine RG.ld .d rfl (lb _ _) (d := .ptr q 0) rfl ?_
  refine RG.callR .d rfl (mByte_ok (lq _ _) hend hs) ?_
  rw [uq]
  refine go ?_
  refine RG.nilS (AC.seq (AC.seq (AC.reg ?_)))
  refine go1 ?_
  refine RG.callR .d rfl (bad_ok (lb _ _) (lq _ _)) ?_
  refine RG.nilS (AC.cond_f rfl (AC.skip (AC.seq (AC.seq (AC.reg ?_)))))
  refine go ?_
  refine RG.nilS (AC.block (AC.seq (AC.reg ?_)))
  refine go ?_
  exact RG.nilS (AC.cond_t rfl (AC.ret (fin rfl rfl)))
 refine AC.seq (AC.reg ?_)
 refine go ?_
 refine RG.nilS (AC.block (AC.seq (AC.reg ?_)))
 cases o
 case true =>
  -- bytes
  rw [cond_true] at hT
  obtain ⟨rfl, rfl⟩ := List.cons.inj (hcl.symm.trans hT)
  have hd2 := drop_add (by rw [List.append_assoc] at hd1; exact hd1)
  have hl2 : (textW ix t true).length = (mbF t.length).length + t.length + 1 := by rw [hlc, List.length_append]
  refine go ?_
  refine RG.nilS (AC.cond_f rfl (AC.seq (AC.seq (AC.reg ?_))))
  refine go ?_
  refine RG.nilS (AC.cond_f rfl (AC.reg ?_))
  refine go ?_
  refine RG.nil (AC.cond_f rfl (AC.seq (AC.reg ?_)))
  refine go ?_
  refine RG.nilS (AC.cond_t rfl (AC.seq (AC.seq (AC.reg ?_))))
  refine go ?_
  refine RG.nilS (AC.cond_f rfl (AC.skip (AC.seq (AC.reg ?_))))
  refine go ?_
  refine RG.nilS (AC.seq (AC.reg ?_))
  refine go1 ?_
  refine go1 ?_
  refine go1 ?_
  refine RG.ld .d rfl (lb _ _) (d := .ptr q 0) rfl ?_
  refine RG.callR .d rfl (mNumber_ok (n := t.length) (lq _ _) (by omega) hs (by omega) (by rw [List.append_assoc] at hd1; exact hd1)) ?_
  rw [uq]
  refine go ?_
  refine RG.nilS (AC.seq (AC.reg ?_))
  refine go1 ?_
  refine go1 ?_
  refine go1 ?_
  refine go1 ?_
  refine RG.ld .d rfl (lb _ _) (d := .ptr q 0) rfl ?_
  refine go1 ?_
  refine RG.p (d := .int .i64 (t.length : Nat)) .d (by
   show some (DV.int .i64 (IntKind.i64.wrap ((t.length : Nat) : Int))) = _
   rw [IntWalk.i64_in _ (by omega)]) ?_
  refine RG.callR .d rfl (mBytes_ok (n := t.length) (lq _ _) (by omega) hs) ?_
  rw [uq, hd2, List.take_left]
  refine go1 ?_
  refine go1 ?_
  refine RG.sto (d := .str t) .d rfl (le _ _) rfl rfl rfl (by exact Nat.le_of_ble_eq_true rfl) ?_
  rw [ue]
  refine RG.nilS (AC.seq (AC.reg ?_))
  refine go1 ?_
  refine go1 ?_
  refine go1 ?_
  refine go1 ?_
  refine RG.ld .d rfl (le _ _) (d := .str t) rfl ?_
  refine RG.p (d := .bool true) .d (by
   show some (DV.bool (!(t == []))) = _
   rw [show (t == []) = false by simpa using ht]; rfl) ?_
  refine go1 ?_
  refine go1 ?_
  refine RG.sto (d := .bool true) .d rfl (le _ _) rfl rfl rfl (by exact Nat.le_of_ble_eq_true rfl) ?_
  rw [ue]
  refine RG.nilS (AC.exit ?_)
  exact last _ _ _ true false (by rw [hl2]; omega) rfl rfl
 case false =>
  rw [cond_false] at hT
  cases cs : (mget ix t).isSome
  · -- as it stands
    rw [cs, cond_false] at hT
    obtain ⟨rfl, rfl⟩ := List.cons.inj (hcl.symm.trans hT)
    have hd2 : s.drop (i + 1) = t ++ 0 :: (1 :: r) := by rw [hd1]; simp
    have hl2 : (textW ix t false).length = t.length + 1 + 1 := by rw [hlc, List.length_append]; rfl
    refine go ?_
    refine RG.nilS (AC.cond_f rfl (AC.seq (AC.seq (AC.reg ?_))))
    refine go ?_
    refine RG.nilS (AC.cond_t rfl (AC.skip (AC.cond_t rfl (AC.seq (AC.seq (AC.reg ?_))))))
    refine go ?_
    refine RG.nilS (AC.cond_f rfl (AC.skip (AC.seq (AC.reg ?_))))
    refine go ?_
    refine RG.nilS (AC.seq (AC.seq (AC.reg ?_)))
    refine go ?_
    refine RG.nilS (AC.cond_t rfl (AC.drawP [8, 12] rfl ?_))
    first|refine VP.z0 0 ?_|refine VP.z1 0 ?_|refine VP.z2 0 ?_|refine VP.z3 0 ?_|refine VP.z4 0 ?_|refine VP.z5 0 ?_|refine VP.z6 0 ?_|refine VP.z7 0 ?_|refine VP.z8 0 ?_
    first|refine VP.z0 1 ?_|refine VP.z1 1 ?_|refine VP.z2 1 ?_|refine VP.z3 1 ?_|refine VP.z4 1 ?_|refine VP.z5 1 ?_|refine VP.z6 1 ?_|refine VP.z7 1 ?_|refine VP.z8 1 ?_
    first|refine VP.z0 2 ?_|refine VP.z1 2 ?_|refine VP.z2 2 ?_|refine VP.z3 2 ?_|refine VP.z4 2 ?_|refine VP.z5 2 ?_|refine VP.z6 2 ?_|refine VP.z7 2 ?_|refine VP.z8 2 ?_
    refine VP.v (d := .str []) 3 rfl (evP_ld rfl (le _ _) rfl) ?_
    first|refine VP.z0 4 ?_|refine VP.z1 4 ?_|refine VP.z2 4 ?_|refine VP.z3 4 ?_|refine VP.z4 4 ?_|refine VP.z5 4 ?_|refine VP.z6 4 ?_|refine VP.z7 4 ?_|refine VP.z8 4 ?_
    first|refine VP.z0 5 ?_|refine VP.z1 5 ?_|refine VP.z2 5 ?_|refine VP.z3 5 ?_|refine VP.z4 5 ?_|refine VP.z5 5 ?_|refine VP.z6 5 ?_|refine VP.z7 5 ?_|refine VP.z8 5 ?_
    first|refine VP.z0 6 ?_|refine VP.z1 6 ?_|refine VP.z2 6 ?_|refine VP.z3 6 ?_|refine VP.z4 6 ?_|refine VP.z5 6 ?_|refine VP.z6 6 ?_|refine VP.z7 6 ?_|refine VP.z8 6 ?_
    refine VP.v (d := .ptr q 0) 7 rfl (evP_ld rfl (lb _ _) rfl) ?_
    refine VP.pe 8 rfl rfl (EF.callg trivial rfl (mText_ok (lq _ _) (by omega) hs hd2 (htn rfl))) (fun _ _ _ h => h.elim) (fun d H2 ⟨e1, e2⟩ => ?_)
    subst e1; subst e2
    rw [uq]
    refine ⟨(by (repeat (refine stabP_cons rfl (by first | exact StabP.of (QV.evP trivial rfl) rfl | exact StabP.of (QV.bsl trivial rfl) rfl | exact StabP.of (QV.evP trivial (evP_ld rfl (le _ _) rfl)) rfl | exact StabP.of (QV.evP trivial (evP_ld rfl (lb _ _) rfl)) rfl) ?_)); exact stabP_nil), ?_⟩
    refine VP.v (d := .str t) 9 rfl (by
     show binS .add [] t = _
     have : ([] : List UInt8).length + t.length ≤ 9223372036854775807 := by
      rw [List.length_nil]; omega
     simp only [binS, if_pos this, List.nil_append]) ?_
    first|refine VP.z0 10 ?_|refine VP.z1 10 ?_|refine VP.z2 10 ?_|refine VP.z3 10 ?_|refine VP.z4 10 ?_|refine VP.z5 10 ?_|refine VP.z6 10 ?_|refine VP.z7 10 ?_|refine VP.z8 10 ?_
    first|refine VP.z0 11 ?_|refine VP.z1 11 ?_|refine VP.z2 11 ?_|refine VP.z3 11 ?_|refine VP.z4 11 ?_|refine VP.z5 11 ?_|refine VP.z6 11 ?_|refine VP.z7 11 ?_|refine VP.z8 11 ?_
    refine VP.pe 12 rfl rfl (EF.sto (d := .str t) trivial rfl (le _ _) rfl rfl rfl (by exact Nat.le_of_ble_eq_true rfl)) (fun _ _ _ h => h.elim) (fun d H3 ⟨_, e2⟩ => ⟨(by (repeat (refine stabP_cons rfl (by first | exact StabP.of (QV.evP trivial rfl) rfl | exact StabP.of (QV.evP trivial (evP_ld rfl hbb rfl)) rfl | exact StabP.of (QV.bsl trivial rfl) rfl) ?_)); exact stabP_nil), ?_⟩)
    subst e2
    rw [ue]
    refine VP.pd (AC.exit ?_)
    exact last _ _ _ true false (by rw [hl2]; omega) rfl rfl
  · -- in the table
    rw [cs, cond_true] at hT
    obtain ⟨rfl, rfl⟩ := List.cons.inj (hcl.symm.trans hT)
    obtain ⟨a, ha⟩ := Option.isSome_iff_exists.1 cs
    obtain ⟨k, rfl, hk⟩ := hix t a ha
    have hki : ixN ix t = k := by rw [ixN, ha]; rfl
    rw [hki] at hd1 hlc
    have hk2 := hk.at
    refine go ?_
    refine RG.nilS (AC.cond_f rfl (AC.seq (AC.seq (AC.reg ?_))))
    refine go ?_
    refine RG.nilS (AC.cond_f rfl (AC.reg ?_))
    refine go ?_
    refine RG.nil (AC.cond_t rfl (AC.seq (AC.seq (AC.reg ?_))))
    refine go ?_
    refine RG.nilS (AC.cond_f rfl (AC.skip (AC.seq (AC.reg ?_))))
    refine go ?_
    refine RG.nilS (AC.seq (AC.seq (AC.reg ?_)))
    refine go ?_
    refine RG.nilS (AC.cond_f rfl (AC.drawP [5, 9] rfl ?_))
    first|refine VP.z0 0 ?_|refine VP.z1 0 ?_|refine VP.z2 0 ?_|refine VP.z3 0 ?_|refine VP.z4 0 ?_|refine VP.z5 0 ?_|refine VP.z6 0 ?_|refine VP.z7 0 ?_|refine VP.z8 0 ?_
    first|refine VP.z0 1 ?_|refine VP.z1 1 ?_|refine VP.z2 1 ?_|refine VP.z3 1 ?_|refine VP.z4 1 ?_|refine VP.z5 1 ?_|refine VP.z6 1 ?_|refine VP.z7 1 ?_|refine VP.z8 1 ?_
    first|refine VP.z0 2 ?_|refine VP.z1 2 ?_|refine VP.z2 2 ?_|refine VP.z3 2 ?_|refine VP.z4 2 ?_|refine VP.z5 2 ?_|refine VP.z6 2 ?_|refine VP.z7 2 ?_|refine VP.z8 2 ?_
    refine VP.v (d := .str []) 3 rfl (evP_ld rfl (le _ _) rfl) ?_
    first|refine VP.z0 4 ?_|refine VP.z1 4 ?_|refine VP.z2 4 ?_|refine VP.z3 4 ?_|refine VP.z4 4 ?_|refine VP.z5 4 ?_|refine VP.z6 4 ?_|refine VP.z7 4 ?_|refine VP.z8 4 ?_
    refine VP.pe 5 rfl rfl (EF.callg trivial rfl (rtext_ok hG (lb _ _) (lq _ _) hbq (by omega) hs (by omega) (by omega) hd1 hk2.1)) (fun _ _ _ h => h.elim) (fun d H2 ⟨e1, e2⟩ => ?_)
    subst e1; subst e2
    rw [uq]
    refine ⟨(by (repeat (refine stabP_cons rfl (by first | exact StabP.of (QV.evP trivial rfl) rfl | exact StabP.of (QV.bsl trivial rfl) rfl | exact StabP.of (QV.evP trivial (evP_ld rfl (le _ _) rfl)) rfl | exact StabP.of (QV.evP trivial (evP_ld rfl (lb _ _) rfl)) rfl) ?_)); exact stabP_nil), ?_⟩
    refine VP.v (d := .str t) 6 rfl (by
     show binS .add [] t = _
     have h9 : t.length ≤ tb.length := by
      obtain ⟨_, r2, _, h2⟩ := hk
      have := congrArg List.length h2
      rw [List.length_drop, List.length_append] at this; omega
     have : ([] : List UInt8).length + t.length ≤ 9223372036854775807 := by
      rw [List.length_nil]; omega
     simp only [binS, if_pos this, List.nil_append]) ?_
    first|refine VP.z0 7 ?_|refine VP.z1 7 ?_|refine VP.z2 7 ?_|refine VP.z3 7 ?_|refine VP.z4 7 ?_|refine VP.z5 7 ?_|refine VP.z6 7 ?_|refine VP.z7 7 ?_|refine VP.z8 7 ?_
    first|refine VP.z0 8 ?_|refine VP.z1 8 ?_|refine VP.z2 8 ?_|refine VP.z3 8 ?_|refine VP.z4 8 ?_|refine VP.z5 8 ?_|refine VP.z6 8 ?_|refine VP.z7 8 ?_|refine VP.z8 8 ?_
    refine VP.pe 9 rfl rfl (EF.sto (d := .str t) trivial rfl (le _ _) rfl rfl rfl (by exact Nat.le_of_ble_eq_true rfl)) (fun _ _ _ h => h.elim) (fun d H3 ⟨_, e2⟩ => ⟨(by (repeat (refine stabP_cons rfl (by first | exact StabP.of (QV.evP trivial rfl) rfl | exact StabP.of (QV.evP trivial (evP_ld rfl hbb rfl)) rfl | exact StabP.of (QV.bsl trivial rfl) rfl) ?_)); exact stabP_nil), ?_⟩)
    subst e2
    rw [ue]
    refine VP.pd (AC.exit ?_)
    exact last _ _ _ true false (by rw [hlc]; omega) rfl rfl
open Go Go.Run Go.RowKit
open Go.Proofs.Tryz (prog)
def F60 : FN := ⟨99, (.seq (.reg [ji 6 (.alloc [(.int .i64 0), (.str []), (.str []), (.bool false), .nils] 24)])
 (.seq (.block 0 (.loop (.seq (.seq (.reg [ji 11 (.mv (.t 0)), ji 12 (.call 61 [(.t 11)]), ji 13 (.un .not (.t 12)), ji 14 (.mv (.t 13)), jg 15 14 true (.mv (.t 1)), jg 16 14 true (.bin .eql (.t 15) (.c (.int .u8 0))), ji 17 (.pick (.t 14) (.t 16) (.c (.bool false)))])
 (.cond (.t 17) .skip
 (.exit 0)))
 (.block 1 (.seq (.reg [ji 18 (.mv (.t 0)), ji 19 (.nilc (.t 18)), ji 20 (.fadr 0 (.t 19)), ji 21 (.ld false 1 (.t 20)), ji 22 (.call 63 [(.t 21)]), ji 7 (.mv (.t 22))])
 (.seq (.reg [ji 23 (.mv (.t 0)), ji 24 (.nilc (.t 23)), ji 25 (.fadr 0 (.t 24)), ji 26 (.ld false 1 (.t 25)), ji 27 (.call 57 [(.t 26)]), ji 8 (.mv (.t 27))])
 (.seq (.seq (.reg [ji 28 (.mv (.t 8)), ji 29 (.conv .i64 (.t 28)), ji 30 (.bin .gtr (.t 29) (ci 2))])
 (.cond (.t 30) (.reg [ji 31 (.mv (.t 0)), ji 32 (.mv (.t 7)), ji 33 (.call 58 [(.t 31), (.t 32), (ci 5)])])
 .skip))
 (.seq (.reg [ji 34 (.mv (.t 0)), ji 35 (.mv (.t 8)), ji 36 (.conv .i64 (.t 35)), ji 37 (.nilc (.t 34)), ji 38 (.fadr 2 (.t 37)), jn (.st 1 (.t 38) (.t 36))])
 (.reg [ji 39 (.mv (.t 0)), ji 40 (.nilc (.t 39)), ji 41 (.fadr 0 (.t 40)), ji 42 (.ld false 1 (.t 41)), ji 43 (.call 57 [(.t 42)]), ji 1 (.mv (.t 43))])))))))))
 (.seq (.seq (.reg [ji 44 (.mv (.t 0)), ji 45 (.call 61 [(.t 44)])])
 (.cond (.t 45) (.seq (.reg [ji 46 (.bld [(.int .i64 0), (.str []), (.str []), (.bool false), .nils] []), jn (.st 5 (.t 6) (.t 46))])
 .ret)
 .skip))
 (.seq (.reg [ji 47 (.mv (.t 1)), ji 48 (.bin .and (.t 47) (.c (.int .u8 63))), ji 9 (.mv (.t 48))])
 (.seq (.seq (.reg [ji 49 (.mv (.t 1)), ji 50 (.bin .and (.t 49) (.c (.int .u8 128))), ji 51 (.bin .neq (.t 50) (.c (.int .u8 0))), ji 52 (.mv (.t 51)), jg 53 52 false (.mv (.t 9)), jg 54 52 false (.bin .lss (.t 53) (.c (.int .u8 4))), ji 55 (.pick (.t 52) (.c (.bool true)) (.t 54))])
 (.cond (.t 55) (.seq (.reg [ji 56 (.mv (.t 0)), ji 57 (.mv (.t 0)), ji 58 (.nilc (.t 57)), ji 59 (.fadr 0 (.t 58)), ji 60 (.ld false 1 (.t 59)), ji 61 (.call 63 [(.t 60)]), ji 62 (.bin .sub (.t 61) (ci 1)), ji 63 (.call 58 [(.t 56), (.t 62), (ci 5)])])
 (.seq (.reg [ji 64 (.bld [(.int .i64 0), (.str []), (.str []), (.bool false), .nils] []), jn (.st 5 (.t 6) (.t 64))])
 .ret))
 .skip))
 (.seq (.reg [ji 65 (.mv (.t 0)), ji 66 (.nilc (.t 65)), ji 67 (.fadr 2 (.t 66)), ji 68 (.ld false 1 (.t 67)), ji 69 (.bld [(.int .i64 0), (.str []), (.str []), (.bool false), .nils] [(0, 1, (.t 68))]), ji 10 (.alloc [(.int .i64 0), (.str []), (.str []), (.bool false), .nils] 24), jn (.st 5 (.t 10) (.t 69))])
 (.seq (.seq (.reg [ji 70 (.mv (.t 9)), ji 71 (.bin .eql (.t 70) (.c (.int .u8 4)))])
 (.cond (.t 71) (.reg [ji 72 (.mv (.t 0)), ji 73 (.call 124 [(.t 72)]), ji 74 (.fadr 1 (.t 10)), jn (.st 1 (.t 74) (.t 73))])
 (.seq (.reg [ji 75 (.mv (.t 0)), ji 76 (.nilc (.t 75)), ji 77 (.fadr 2 (.t 76)), ji 78 (.ld false 1 (.t 77)), ji 79 (.mv (.t 9)), ji 80 (.call 125 [(.t 78), (.t 79)]), ji 81 (.fadr 1 (.t 10)), jn (.st 1 (.t 81) (.t 80))])
 (.seq (.reg [ji 82 (.fadr 1 (.t 10)), ji 83 (.ld false 1 (.t 82)), ji 84 (.bin .eql (.t 83) (.c (.str [])))])
 (.cond (.t 84) (.reg [ji 85 (.mv (.t 0)), ji 86 (.mv (.t 0)), ji 87 (.nilc (.t 86)), ji 88 (.fadr 0 (.t 87)), ji 89 (.ld false 1 (.t 88)), ji 90 (.call 63 [(.t 89)]), ji 91 (.call 58 [(.t 85), (.t 90), (ci 14)])])
 .skip)))))
 (.seq (.seq (.reg [ji 92 (.mv (.t 1)), ji 93 (.bin .and (.t 92) (.c (.int .u8 64))), ji 94 (.bin .neq (.t 93) (.c (.int .u8 0)))])
 (.cond (.t 94) (.reg [ji 95 (.mv (.t 0)), ji 96 (.mv (.t 2)), ji 97 (.call 126 [(.t 95), (.t 10), (.t 96)])])
 .skip))
 (.seq (.reg [ji 98 (.ld true 5 (.t 10)), jn (.st 5 (.t 6) (.t 98))])
 .ret))))))))), [.cell 6 true 5]⟩
theorem cF60 : cFn prog 60 = some F60 := by kernel_rfl
variable {G : Gl}
theorem Cv.frz {H H' : Hp} {g n cap sz : Nat} {xs ls rest : List DV} {ty : TypeId} (hg : H g = some (.cells (ls ++ rest) ty)) (hl : ls.length = n * sz) (hs : SubH H' (H.upd g none)) : Cv H H' (.agg (xs ++ [.win g 0 n cap])) (.agg (xs ++ [.lst ls n sz none])) := by
 intro G w Z hr
 have hs1 : SubH (H.upd g none) H := by
  intro q o e
  by_cases h : q = g
  · subst h; rw [Hp.upd_same] at e; cases e
  · rw [Hp.upd_ne h] at e; exact e
 have hr1 := hr.drop hs1
 have hx1 := (Ext.refl hr).drop hs1
 refine ⟨_, hr1.drop hs, hx1.drop hs, fun v hv => ?_⟩
 refine VR.drop hs ?_
 cases hv with
 | agg vs _ h1 h2 h3 =>
   refine .agg vs _ (by rw [h1]; simp) h2 fun j x d hj hd => ?_
   by_cases hjx : j < xs.length
   · rw [List.getElem?_append_left hjx] at hd
     exact (h3 j x d hj (by rw [List.getElem?_append_left hjx]; exact hd)).drop hs1
   · have hjl : j = xs.length := by
      have := (List.getElem?_eq_some_iff.1 hd).1
      rw [List.length_append, List.length_singleton] at this; omega
     subst hjl
     rw [List.getElem?_append_right (Nat.le_refl _), Nat.sub_self] at hd
     cases hd
     have hvw := h3 xs.length x (.win g 0 n cap) hj (by rw [List.getElem?_append_right (Nat.le_refl _), Nat.sub_self]; rfl)
     have hZg : (Gone H (H.upd g none) Z) g := .inr ⟨⟨_, hg⟩, Hp.upd_same⟩
     obtain ⟨garr, gfz, gw, _, gsz, gone, gval⟩ := hr.obj g _ hg
     have hle : n ≤ cap ∧ x = .slice (some ⟨g, 0, none⟩) n cap := by cases hvw; exact ⟨by assumption, rfl⟩
     obtain ⟨hle, rfl⟩ := hle
     have hgl : ∀ j, j < ls.length → ∃ x, garr[j]? = some x := fun j hj => by
      have : j < garr.size := by rw [gsz, List.length_append]; omega
      exact ⟨_, Array.getElem?_eq_getElem this⟩
     refine .lst (some ⟨g, 0, none⟩) n cap sz ls none (fun j => garr.getD j undef) hl hle (fun j hj => ⟨_, rfl, rfl, ?_, .inl hZg⟩) (fun j hj => ?_) (fun j d hd => ?_) (fun b off e => by cases e)
     · obtain ⟨x, hx⟩ := hgl j hj
       rw [cell_of_row _ _ _ _ _ _ gw, Nat.zero_add, hx]
       simp [Array.getD_eq_getD_getElem?, hx]
     · obtain ⟨x, hx⟩ := hgl j hj
       have : garr.getD j undef = x := by simp [Array.getD_eq_getD_getElem?, hx]
       rw [this]; exact gone j x hx
     · have hj : j < ls.length := (List.getElem?_eq_some_iff.1 hd).1
       obtain ⟨x, hx⟩ := hgl j hj
       have : garr.getD j undef = x := by simp [Array.getD_eq_getD_getElem?, hx]
       rw [this]
       exact (gval j x d hx (by rw [List.getElem?_append_left hj]; exact hd)).drop hs1
theorem con_or (t : List UInt8) (ks : List El) : conB t ks = 64 ∨ conB t ks = 0 := by
 unfold conB
 cases !(t == []) || decide (((ks.length : Nat) : Int) > 0)
 · exact .inr rfl
 · exact .inl rfl
theorem tok_head (ix : IX) (pg : Int) (e : El) : ∃ c l, tokW ix pg e = c :: l ∧ c.toNat ≠ 1 ∧ c.toNat ≠ 3 ∧ c.toNat ≠ 131 ∧ c.toNat ≠ 195 := by
 obtain ⟨p, n, t, o, ks⟩ := e
 rw [tokW, turnW]
 cases p == pg
 · exact ⟨0, _, rfl, by decide, by decide, by decide, by decide⟩
 · have h1 := tok_lt p n
   have h2 := con_or t ks
   rw [cond_true, List.nil_append, nameW]
   cases c0 : tokF p n == 0
   · have h3 := name_back p n (by simpa using c0)
     refine ⟨_, _, rfl, ?_⟩
     rw [UInt8.toNat_ofNat', Nat.mod_eq_of_lt (show tokF p n + conB t ks < 2 ^ 8 by rcases h2 with e | e <;> rw [e] <;> omega)]
     rcases h2 with e | e <;> rw [e] <;> omega
   · refine ⟨_, _, rfl, ?_⟩
     rw [UInt8.toNat_ofNat', Nat.mod_eq_of_lt (show 4 + conB t ks < 2 ^ 8 by rcases h2 with e | e <;> rw [e] <;> omega)]
     rcases h2 with e | e <;> rw [e] <;> omega
theorem head_at {s l r : List UInt8} {i : Nat} {c : UInt8} (h : s.drop i = c :: l ++ r) : s[i]? = some c := by
 have := congrArg List.head? h
 rw [List.head?_drop] at this
 exact this
theorem withinK_ok {H : Hp} {b q be i deep : Nat} {s tb r n : List UInt8} {p : Int} {ix : IX} {ks : List El} (hb : H b = wrd q tb p) (hq : H q = mrd s i) (hbe : H be = some (.cells ([.int .i64 p, .str n, .str [], .bool false] ++ [.nils]) 24))
  (hbq : b ≠ q) (hi : i ≤ s.length) (hs : s.length ≤ 1000000000) (hkl : ks.length ≤ 200) (hdp : deep + dps ks ≤ 12) (hd : s.drop i = toksW ix p ks ++ 1 :: r)
  (hkid : ∀ k ∈ ks, ∀ (i : Nat) (pg : Int) (A : Hp) (r : List UInt8) (c : UInt8), A b = wrd q tb pg → A q = mrd s (i + 1) → i ≤ s.length → s.drop i = tokW ix pg k ++ r → s[i]? = some c →
   CALL prog G 60 [.ptr b 0, B8 c, .int .i64 ((deep + 1 : Nat) : Int)] A (fun d A' => d = .agg (elC k) ∧ A' = (A.upd q (mrd s (i + (tokW ix pg k).length))).upd b (wrd q tb (lastP k))) (fun _ _ => False)) :
  CALL prog G 126 [.ptr b 0, .ptr be 0, .int .i64 deep] H
   (fun _ H' => ∃ v, GW 24 5 (((H.upd q (mrd s (i + (toksW ix p ks).length + 1))).upd b (wrd q tb (lastsP p ks))).upd be (some (.cells ([.int .i64 p, .str n, .str [], .bool false] ++ [v]) 24))) (elsC ks) ks.length v H') (fun _ _ => False) := by
 have hne : be ≠ q := fun e => by rw [e, hq] at hbe; cases hbe
 have hnb : be ≠ b := fun e => by rw [e, hb] at hbe; cases hbe
 generalize hHB : (fun (j : Nat) (g : Int) (v : DV) => ((H.upd q (mrd s j)).upd b (wrd q tb g)).upd be (some (.cells ([.int .i64 p, .str n, .str [], .bool false] ++ [v]) 24))) = HB
 have hBe : ∀ j g v, HB j g v = ((H.upd q (mrd s j)).upd b (wrd q tb g)).upd be (some (.cells ([.int .i64 p, .str n, .str [], .bool false] ++ [v]) 24)) := fun j g v => by rw [← hHB]
 have lb : ∀ j g v, HB j g v b = wrd q tb g := fun j g v => by rw [hBe, Hp.upd_ne (Ne.symm hnb)]; exact Hp.upd_same
 have lq : ∀ j g v, HB j g v q = mrd s j := fun j g v => by rw [hBe, Hp.upd_ne (Ne.symm hne), Hp.upd_ne (Ne.symm hbq)]; exact Hp.upd_same
 have le : ∀ j g v, HB j g v be = some (.cells ([.int .i64 p, .str n, .str [], .bool false] ++ [v]) 24) := fun j g v => by rw [hBe]; exact Hp.upd_same
 have uq : ∀ j k g v, (HB j g v).upd q (mrd s k) = HB k g v := fun j k g v => by rw [hBe, hBe, Hp.upd_comm hne, Hp.upd_comm hbq, Hp.upd_upd]
 have ub : ∀ j g g' v, (HB j g v).upd b (wrd q tb g') = HB j g' v := fun j g g' v => by rw [hBe, hBe, Hp.upd_comm hnb, Hp.upd_upd]
 have h0 : H = HB i p .nils := by rw [hBe, Hp.upd_id hq, Hp.upd_id hb, Hp.upd_id hbe]
 have h00 : GW 24 5 (HB i p .nils) [] 0 .nils H := by rw [← h0]; exact GW.nil
 rw [show ((H.upd q (mrd s (i + (toksW ix p ks).length + 1))).upd b (wrd q tb (lastsP p ks))) = ((H.upd q (mrd s (i + (toksW ix p ks).length + 1))).upd b (wrd q tb (lastsP p ks))) from rfl]
 have hKr : ∀ {H' : Hp}, (∃ v, GW 24 5 (HB (i + (toksW ix p ks).length + 1) (lastsP p ks) v) (elsC ks) ks.length v H') → ∃ v, GW 24 5 (((H.upd q (mrd s (i + (toksW ix p ks).length + 1))).upd b (wrd q tb (lastsP p ks))).upd be (some (.cells ([.int .i64 p, .str n, .str [], .bool false] ++ [v]) 24))) (elsC ks) ks.length v H' := by
  rintro H' ⟨v, hv⟩
  exact ⟨v, by rw [← hBe]; exact hv⟩
 refine CALL.mono (Kr := fun _ H' => ∃ v, GW 24 5 (HB (i + (toksW ix p ks).length + 1) (lastsP p ks) v) (elsC ks) ks.length v H') (Kp := fun _ _ => False) ?_ (fun _ _ h => hKr h) (fun _ _ h => h)
 clear hKr hHB
 have hlen := congrArg List.length hd
 rw [List.length_drop, List.length_append, List.length_cons] at hlen
 refine CALL.of cF126 (Nat.le_of_ble_eq_true rfl) ?_
 refine AC.scp (AC.seq (AC.reg ?_))
 refine go ?_
 refine RG.nilS (AC.seq (AC.skip ?_))
 refine AC.bloopH (α := Nat) (β := Unit) (fun k => ks.length + 1 - k) (fun _ => [(0, .ptr b 0), (1, .ptr be 0), (2, .int .i64 deep), (6, .bool false), (7, .bool false)])
  (fun k H' => k ≤ ks.length ∧ ∃ v, GW 24 5 (HB (i + (toksW ix p (ks.take k)).length) (lastsP p (ks.take k)) v) (elsC (ks.take k)) k v H') (fun _ => []) (fun _ _ => False) ?_ ?_ 0 _ ⟨Nat.zero_le _, .nils, by simpa [toksW, lastsP, elsC] using h00⟩ ⟨rfl, rfl, rfl, rfl, rfl, trivial⟩
 · intro _ _ _ hf; exact hf.elim
 rintro k H' ⟨hk, v, hv⟩ ih ex
 -- the byte that comes
 have hdk : s.drop (i + (toksW ix p (ks.take k)).length) = toksW ix (lastsP p (ks.take k)) (ks.drop k) ++ 1 :: r := by
  have h1 : toksW ix p ks = toksW ix p (ks.take k) ++ toksW ix (lastsP p (ks.take k)) (ks.drop k) := by rw [← toksW_append, List.take_append_drop]
  rw [h1, List.append_assoc] at hd
  exact drop_add hd
 have hpos : i + (toksW ix p (ks.take k)).length ≤ s.length := by
  have h1 : toksW ix p ks = toksW ix p (ks.take k) ++ toksW ix (lastsP p (ks.take k)) (ks.drop k) := by rw [← toksW_append, List.take_append_drop]
  rw [h1, List.length_append] at hlen; omega
 generalize hj : i + (toksW ix p (ks.take k)).length = j at hv hdk hpos
 generalize hg : lastsP p (ks.take k) = g at hv hdk
 refine AC.seq (AC.seq (AC.reg ?_))
 refine go1 ?_
 refine RG.callR .d rfl (bad_ok (hv.look (lb _ _ _)) (hv.look (lq _ _ _))) ?_
 refine go ?_
 refine RG.nilS (AC.cond_t rfl (AC.skip (AC.block (AC.seq (AC.reg ?_)))))
 refine go1 ?_
 refine go1 ?_
 refine go1 ?_
 refine RG.ld .d rfl (hv.look (lb _ _ _)) (d := .ptr q 0) rfl ?_
 by_cases hkk : k = ks.length
 · -- the end
   subst hkk
   rw [List.drop_length, toksW] at hdk
   rw [List.take_length] at hv hj hg
   refine RG.callR .d rfl (mByte_ok (c := 1) (hv.look (lq _ _ _)) (head_at (l := []) hdk) hs) ?_
   have hv2 := hv.set (o' := .cells [.str s, .int .i64 ((j + 1 : Nat) : Int), .int .i64 0] 146) (lq _ _ _)
   have huq := uq j (j + 1) g v
   rw [mrd] at huq
   rw [huq] at hv2
   rw [mrd]
   refine go ?_
   refine RG.nilS (AC.seq (AC.seq (AC.reg ?_)))
   refine go1 ?_
   refine RG.callR .d rfl (bad_ok (hv2.look (lb _ _ _)) (hv2.look (lq _ _ _))) ?_
   refine RG.nilS (AC.cond_f rfl (AC.skip (AC.seq (AC.seq (AC.reg ?_)))))
   refine go ?_
   refine RG.nilS (AC.block (AC.seq (AC.reg ?_)))
   refine go ?_
   refine RG.nilS (AC.cond_t rfl (AC.ret (fin rfl ⟨v, ?_⟩)))
   rw [hj, hg]; exact hv2
 · -- one kid more
   have hkl2 : k < ks.length := by omega
   have hmem := List.getElem_mem hkl2
   have hdpk := dps_le ks ks[k] hmem
   have htk : ks.take (k + 1) = ks.take k ++ [ks[k]] := List.take_succ_eq_append_getElem hkl2
   rw [List.drop_eq_getElem_cons hkl2, toksW, List.append_assoc] at hdk
   obtain ⟨c, l, hcl, n1, n3, n131, n195⟩ := tok_head ix g ks[k]
   have hc0 : s[j]? = some c := by rw [hcl] at hdk; exact head_at hdk
   have hkd := hkid _ hmem j g
   have ht1 : toksW ix p (ks.take (k + 1)) = toksW ix p (ks.take k) ++ tokW ix g ks[k] := by
    rw [htk, toksW_append, hg]; simp only [toksW, List.append_nil]
   have ht2 : lastsP p (ks.take (k + 1)) = lastP ks[k] := by
    rw [htk, lastsP_append]; simp only [lastsP]
   have ht3 : elsC (ks.take (k + 1)) = elsC (ks.take k) ++ elC ks[k] := by
    rw [htk, elsC_append]; simp only [elsC, List.append_nil]
   have hdp1 : 1 ≤ dp ks[k] := by
    cases hx : ks[k] with
    | mk a1 a2 a3 a4 a5 => rw [dp]; omega
   generalize ks[k] = x at hdk hcl hdpk hkd ht1 ht2 ht3 hdp1
   refine RG.callR .d rfl (mByte_ok (hv.look (lq _ _ _)) hc0 hs) ?_
   have hv2 := hv.set (o' := .cells [.str s, .int .i64 ((j + 1 : Nat) : Int), .int .i64 0] 146) (lq _ _ _)
   have huq := uq j (j + 1) g v
   rw [mrd] at huq
   rw [huq] at hv2
   rw [mrd]
   generalize H'.upd q (some (.cells [.str s, .int .i64 ((j + 1 : Nat) : Int), .int .i64 0] 146)) = H2 at hv2 ⊢
   have neq : ∀ m : Nat, c.toNat ≠ m → ((((c.toNat : Nat) : Int) == (m : Nat)) = false) := fun m h => by rw [beq_eq_false_iff_ne]; omega
   refine go ?_
   refine RG.nilS (AC.seq (AC.seq (AC.reg ?_)))
   refine go1 ?_
   refine RG.callR .d rfl (bad_ok (hv2.look (lb _ _ _)) (hv2.look (lq _ _ _))) ?_
   refine RG.nilS (AC.cond_f rfl (AC.skip (AC.seq (AC.seq (AC.reg ?_)))))
   refine go1 ?_
   refine RG.nilS (AC.block (AC.seq (AC.reg ?_)))
   refine RG.p (d := .bool false) .d (congrArg (fun x => some (DV.bool x)) (neq 1 n1)) ?_
   refine go ?_
   refine RG.nilS (AC.cond_f rfl (AC.seq (AC.seq (AC.reg ?_))))
   refine RG.p (d := .bool false) .d (congrArg (fun x => some (DV.bool x)) (neq 3 n3)) ?_
   refine go ?_
   refine RG.nilS (AC.cond_f rfl (AC.reg ?_))
   refine RG.p (d := .bool false) .d (congrArg (fun x => some (DV.bool x)) (neq 131 n131)) ?_
   refine go ?_
   refine RG.nil (AC.cond_f rfl (AC.seq (AC.reg ?_)))
   refine RG.p (d := .bool false) .d (congrArg (fun x => some (DV.bool x)) (neq 195 n195)) ?_
   refine go ?_
   refine RG.nilS (AC.cond_f rfl (AC.seq (AC.seq (AC.reg ?_))))
   refine go ?_
   refine RG.nilS (AC.cond_f rfl (AC.skip (AC.seq (AC.block (AC.seq (AC.reg ?_))))))
   refine go1 ?_
   refine go1 ?_
   refine go1 ?_
   refine RG.ld .d rfl (hv2.look (le _ _ _)) (d := v) rfl ?_
   refine RG.p (d := .int .i64 (k : Nat)) .d (hv2.len rfl) ?_
   refine RG.p (d := .bool false) .d (by show some (DV.bool (((k : Nat) : Int) == 200)) = _; congr 2; rw [beq_eq_false_iff_ne]; omega) ?_
   refine go ?_
   refine RG.nilS (AC.cond_f rfl (AC.seq (AC.reg ?_)))
   refine go1 ?_
   refine RG.p (d := .bool false) .d (by show some (DV.bool (((deep : Nat) : Int) == 12)) = _; congr 2; rw [beq_eq_false_iff_ne]; omega) ?_
   refine go ?_
   refine RG.nilS (AC.cond_f rfl ?_)
   refine AC.to [(0, .ptr b 0), (1, .ptr be 0), (2, .int .i64 deep), (6, .bool false), (7, .bool false), (8, B8 c)] ⟨rfl, rfl, rfl, rfl, rfl, rfl, trivial⟩ ?_
   refine AC.drawP [8, 11, 13, 16] rfl ?_
   first|refine VP.z0 0 ?_|refine VP.z1 0 ?_|refine VP.z2 0 ?_|refine VP.z3 0 ?_|refine VP.z4 0 ?_|refine VP.z5 0 ?_|refine VP.z6 0 ?_|refine VP.z7 0 ?_|refine VP.z8 0 ?_
   first|refine VP.z0 1 ?_|refine VP.z1 1 ?_|refine VP.z2 1 ?_|refine VP.z3 1 ?_|refine VP.z4 1 ?_|refine VP.z5 1 ?_|refine VP.z6 1 ?_|refine VP.z7 1 ?_|refine VP.z8 1 ?_
   first|refine VP.z0 2 ?_|refine VP.z1 2 ?_|refine VP.z2 2 ?_|refine VP.z3 2 ?_|refine VP.z4 2 ?_|refine VP.z5 2 ?_|refine VP.z6 2 ?_|refine VP.z7 2 ?_|refine VP.z8 2 ?_
   refine VP.v (d := v) 3 rfl (evP_ld rfl (hv2.look (le _ _ _)) rfl) ?_
   first|refine VP.z0 4 ?_|refine VP.z1 4 ?_|refine VP.z2 4 ?_|refine VP.z3 4 ?_|refine VP.z4 4 ?_|refine VP.z5 4 ?_|refine VP.z6 4 ?_|refine VP.z7 4 ?_|refine VP.z8 4 ?_
   first|refine VP.z0 5 ?_|refine VP.z1 5 ?_|refine VP.z2 5 ?_|refine VP.z3 5 ?_|refine VP.z4 5 ?_|refine VP.z5 5 ?_|refine VP.z6 5 ?_|refine VP.z7 5 ?_|refine VP.z8 5 ?_
   first|refine VP.z0 6 ?_|refine VP.z1 6 ?_|refine VP.z2 6 ?_|refine VP.z3 6 ?_|refine VP.z4 6 ?_|refine VP.z5 6 ?_|refine VP.z6 6 ?_|refine VP.z7 6 ?_|refine VP.z8 6 ?_
   refine VP.v (d := .int .i64 ((deep + 1 : Nat) : Int)) 7 rfl (by
    show some (DV.int .i64 (IntKind.wrap .i64 ((deep : Int) + 1))) = _
    rw [IntWalk.i64_in _ (by omega)]; rfl) ?_
   refine VP.v (d := .int .i64 (k : Nat)) 9 rfl (hv2.len rfl) ?_
   refine VP.z8 10 ?_
   refine VP.pe 8 rfl rfl (EF.callg trivial rfl (hkd H2 _ c (hv2.look (lb _ _ _)) (hv2.look (lq _ _ _)) hpos hdk hc0)) (fun _ _ _ h => h.elim) (fun d H3 ⟨e1, e2⟩ => ?_)
   have hv3 := (hv2.set (o' := .cells [.str s, .int .i64 ((j + (tokW ix g x).length : Nat) : Int), .int .i64 0] 146) (lq _ _ _))
   have huq3 := uq (j + 1) (j + (tokW ix g x).length) g v
   rw [mrd] at huq3
   rw [huq3] at hv3
   have hv4 := (hv3.set (o' := .cells [.ptr q 0, .str tb, .int .i64 (lastP x), .bool false, .int .i64 0, .int .i64 0] 99) (lb _ _ _))
   have hub4 := ub (j + (tokW ix g x).length) g (lastP x) v
   rw [wrd] at hub4
   rw [hub4] at hv4
   rw [mrd, wrd] at e2
   rw [← e2] at hv4
   clear e2
   subst e1
   refine ⟨(by (repeat (refine stabP_cons rfl (by first | exact StabP.of (QV.evP trivial rfl) rfl | exact StabP.of (QV.bsl trivial rfl) rfl | exact StabP.of (QV.evP trivial (evP_ld rfl (hv4.look (le _ _ _)) rfl)) rfl | exact StabP.of (QV.evP trivial (hv4.len rfl)) rfl | exact StabP.of (QV.evP trivial ((by show some (DV.int .i64 (IntKind.wrap .i64 ((deep : Int) + 1))) = _; rw [IntWalk.i64_in _ (by omega)]; rfl))) rfl) ?_)); exact stabP_nil), ?_⟩
   refine VP.pe 11 rfl rfl (EF.appw (m := 1) (ys := Z5) trivial hv4 rfl rfl rfl (by omega) (by decide)) (fun _ _ _ h => h.elim) (fun v1 H4 h1 => ⟨stabP_nil, ?_⟩)
   rcases h1 with ⟨h1, _⟩ | ⟨gb, cap, rest, g1, rfl, g3, g4, rfl⟩
   · omega
   generalize hj2 : j + (tokW ix g x).length = j2 at hv4 g1 ⊢
   have hgbe : gb ≠ be := fun e => by rw [e, le] at g1; cases g1
   have hwin : ∀ v', HB j2 (lastP x) v' gb = none := fun v' => by rw [hBe, Hp.upd_ne hgbe] at g1 ⊢; exact g1
   have hck : (elsC (ks.take k)).length = k * 5 := by rw [elsC_length, List.length_take, Nat.min_eq_left (by omega)]
   have hidx : ∀ (fr : Fr) (HX : Hp), fr 36 = .win gb 0 (k + 1) cap → fr 34 = .int .i64 (k : Nat) → evP G fr HX (.iadr 5 (.t 36) (.t 34)) = some (.ptr gb (0 + ((k : Nat) : Int).toNat * 5)) := fun fr HX h1 h2 => evP_iadrW h1 h2 (by omega)
   have hspl : spliceL (0 + ((k : Nat) : Int).toNat * 5) (elC x) (elsC (ks.take k) ++ Z5 ++ rest) = elsC (ks.take (k + 1)) ++ rest := by
    rw [Int.toNat_natCast, Nat.zero_add, ← hck, ht3]
    exact splice_mid (by rw [elC_length]; rfl)
   have hle : 0 + ((k : Nat) : Int).toNat * 5 + 5 ≤ (elsC (ks.take k) ++ Z5 ++ rest).length := by
    have : Z5.length = 5 := rfl
    rw [Int.toNat_natCast, List.length_append, List.length_append, hck, this]; omega
   refine VP.v (d := .ptr gb (0 + ((k : Nat) : Int).toNat * 5)) 12 rfl (hidx _ _ rfl rfl) ?_
   first|refine VP.z0 14 ?_|refine VP.z1 14 ?_|refine VP.z2 14 ?_|refine VP.z3 14 ?_|refine VP.z4 14 ?_|refine VP.z5 14 ?_|refine VP.z6 14 ?_|refine VP.z7 14 ?_|refine VP.z8 14 ?_
   first|refine VP.z0 15 ?_|refine VP.z1 15 ?_|refine VP.z2 15 ?_|refine VP.z3 15 ?_|refine VP.z4 15 ?_|refine VP.z5 15 ?_|refine VP.z6 15 ?_|refine VP.z7 15 ?_|refine VP.z8 15 ?_
   have s13 : ∀ (fr : Fr) (HX : Hp), fr 37 = .ptr gb (0 + ((k : Nat) : Int).toNat * 5) → fr 33 = .agg (elC x) → HX gb = some (.cells (elsC (ks.take k) ++ Z5 ++ rest) 24) → EF prog G none F126.N ⟨none, none, .st 5 (.t 37) (.t 33)⟩ (fun d' H' => d' = .junk ∧ H' = HX.upd gb (some (.cells (elsC (ks.take (k + 1)) ++ rest) 24))) (fun _ _ => False) fr HX := fun fr HX h1 h2 h3 => by
    have := EF.sto (P := prog) (r := none) (N := F126.N) (G := G) (g := none) (dst := none) (fr := fr) (x := .t 37) (y := .t 33) (sz := 5) (d := .agg (elC x)) (ys := elC x) trivial h1 h3 h2 rfl (elC_length x) hle
    rw [hspl] at this; exact this
   have s16 : ∀ (fr : Fr) (HX : Hp), fr 39 = .ptr be 4 → fr 36 = .win gb 0 (k + 1) cap → HX be = some (.cells ([.int .i64 p, .str n, .str [], .bool false] ++ [v]) 24) → EF prog G none F126.N ⟨none, none, .st 1 (.t 39) (.t 36)⟩ (fun d' H' => d' = .junk ∧ H' = HX.upd be (some (.cells ([.int .i64 p, .str n, .str [], .bool false] ++ [.win gb 0 (k + 1) cap]) 24))) (fun _ _ => False) fr HX := fun fr HX h1 h2 h3 =>
    EF.sto (P := prog) (r := none) (N := F126.N) (G := G) (g := none) (dst := none) (fr := fr) (x := .t 39) (y := .t 36) (b := be) (off := 4) (sz := 1) (d := .win gb 0 (k + 1) cap) (ys := [.win gb 0 (k + 1) cap]) (cs := [.int .i64 p, .str n, .str [], .bool false] ++ [v]) trivial h1 h3 h2 rfl rfl (by exact Nat.le_of_ble_eq_true rfl)
   have hHg : ((HB j2 (lastP x) v).upd gb (some (.cells (elsC (ks.take k) ++ Z5 ++ rest) 24))) gb = some (.cells (elsC (ks.take k) ++ Z5 ++ rest) 24) := Hp.upd_same
   have hHv : ((HB j2 (lastP x) v).upd gb (some (.cells (elsC (ks.take k) ++ Z5 ++ rest) 24))) be = some (.cells ([.int .i64 p, .str n, .str [], .bool false] ++ [v]) 24) := by rw [Hp.upd_ne (Ne.symm hgbe)]; exact le _ _ _
   have uv : ∀ v v', (HB j2 (lastP x) v).upd be (some (.cells ([.int .i64 p, .str n, .str [], .bool false] ++ [v']) 24)) = HB j2 (lastP x) v' := fun v v' => by rw [hBe, hBe, Hp.upd_upd]
   have kk : ∀ H' fr', H' = (HB j2 (lastP x) (.win gb 0 (k + 1) cap)).upd gb (some (.cells (elsC (ks.take (k + 1)) ++ rest) 24)) → Agrees fr' [(0, .ptr b 0), (1, .ptr be 0), (2, .int .i64 deep), (6, .bool false), (7, .bool false)] →
     AC prog G none F126.N (.loop (ccIn (ccIn (ccSnd (ccSnd (ccIn F126.c)))))) (Bk 0 (Fin F126.rs (fun _ H' => ∃ v, GW 24 5 (HB (i + (toksW ix p ks).length + 1) (lastsP p ks) v) (elsC ks) ks.length v H') (fun _ _ => False))) fr' H' := by
    rintro H' fr' rfl hf
    have h7 : j2 = i + (toksW ix p (ks.take (k + 1))).length := by rw [ht1, List.length_append, ← hj2, ← hj]; omega
    refine ih (k + 1) _ ⟨by omega, .win gb 0 (k + 1) cap, .inr ⟨gb, cap, rest, ?_, rfl, ?_, ?_, ?_⟩⟩ (by omega) _ hf
    · rw [← h7, ht2]; exact hwin _
    · rw [ht3, List.length_append, hck, elC_length]; omega
    · rw [ht3, ← g4]
      have : Z5.length = 5 := rfl
      simp only [List.length_append, elC_length, this]
    · rw [← h7, ht2]
   refine VP.pe2 13 16 (by decide) rfl rfl rfl (s13 _ _ rfl rfl hHg) (s16 _ _ rfl rfl hHv) (fun _ _ _ h => h.elim) (fun _ _ _ h => h.elim) (fun d' H' ⟨f1, f2⟩ => ?_) (fun d' H' ⟨f1, f2⟩ => ?_)
   · subst f1; subst f2
     refine ⟨(by (repeat (refine stabP_cons rfl (by first | exact StabP.of (QV.evP trivial rfl) rfl | exact StabP.of (QV.bsl trivial rfl) rfl | exact StabP.of (QV.evP trivial (hidx _ _ rfl rfl)) rfl) ?_)); exact stabP_nil), ?_⟩
     refine VP.pe 16 rfl rfl (s16 _ _ rfl rfl (by rw [Hp.upd_ne (Ne.symm hgbe)]; exact hHv)) (fun _ _ _ h => h.elim) (fun d' H' ⟨f1, f2⟩ => ?_)
     subst f1; subst f2
     refine ⟨(by (repeat (refine stabP_cons rfl (by first | exact StabP.of (QV.evP trivial rfl) rfl | exact StabP.of (QV.bsl trivial rfl) rfl | exact StabP.of (QV.evP trivial (hidx _ _ rfl rfl)) rfl) ?_)); exact stabP_nil), ?_⟩
     refine VP.pd (AC.exit (kk _ _ ?_ ⟨rfl, rfl, rfl, rfl, rfl, trivial⟩))
     rw [Hp.upd_upd, Hp.upd_comm hgbe, uv]
   · subst f1; subst f2
     refine ⟨(by (repeat (refine stabP_cons rfl (by first | exact StabP.of (QV.evP trivial rfl) rfl | exact StabP.of (QV.bsl trivial rfl) rfl | exact StabP.of (QV.evP trivial (hidx _ _ rfl rfl)) rfl) ?_)); exact stabP_nil), ?_⟩
     refine VP.pe 13 rfl rfl (s13 _ _ rfl rfl (by rw [Hp.upd_ne hgbe]; exact hHg)) (fun _ _ _ h => h.elim) (fun d' H' ⟨f1, f2⟩ => ?_)
     subst f1; subst f2
     refine ⟨(by (repeat (refine stabP_cons rfl (by first | exact StabP.of (QV.evP trivial rfl) rfl | exact StabP.of (QV.bsl trivial rfl) rfl | exact StabP.of (QV.evP trivial (hidx _ _ rfl rfl)) rfl) ?_)); exact stabP_nil), ?_⟩
     refine VP.pd (AC.exit (kk _ _ ?_ ⟨rfl, rfl, rfl, rfl, rfl, trivial⟩))
     rw [Hp.upd_comm (Ne.symm hgbe), Hp.upd_upd, Hp.upd_comm hgbe, uv]
open Go Go.Run Go.RowKit
open Go.Proofs.Tryz (prog)
variable {G : Gl}
mutual
def inN (ix : IX) : El → Prop
 | .mk p n _ _ ks => (tokF p n = 0 → (mget ix n).isSome = true) ∧ inNs ix ks
def inNs (ix : IX) : List El → Prop
 | [] => True
 | k :: ks => inN ix k ∧ inNs ix ks
end
theorem inNs_mem {ix : IX} : ∀ (ks : List El), ∀ k ∈ ks, inNs ix ks → inN ix k
 | x :: ks, k, hk, h => by
   rcases List.mem_cons.1 hk with rfl | hk
   · exact h.1
   · exact inNs_mem ks k hk h.2
mutual
theorem pre_inN {ix : IX} : ∀ (e : El) (d : Nat), d + dp e ≤ 21 → (∀ q ∈ pre 20 e d, tokF q.2.page q.2.name = 0 → (mget ix q.2.name).isSome = true) → inN ix e
 | .mk p n t o ks, d, hd, h => by
   simp only [dp] at hd
   simp only [pre, blt_false (show d ≤ 20 by omega), cond_false] at h
   exact ⟨h (d, .mk p n t o ks) (by simp), pres_inN ks (d + 1) (by omega) (fun q hq => h q (by simp [hq]))⟩
theorem pres_inN {ix : IX} : ∀ (ks : List El) (d : Nat), d + dps ks ≤ 21 → (∀ q ∈ pres 20 ks d, tokF q.2.page q.2.name = 0 → (mget ix q.2.name).isSome = true) → inNs ix ks
 | [], d, _, _ => trivial
 | k :: ks, d, hd, h => by
   simp only [dps] at hd
   exact ⟨pre_inN k d (by omega) (fun q hq => h q (by simp [pres, hq])), pres_inN ks d (by omega) (fun q hq => h q (by simp [pres, hq]))⟩
end
theorem masks (a : Nat) (h : a < 64) : (a &&& 63 = a ∧ (a + 64) &&& 63 = a) ∧ (a &&& 128 = 0 ∧ (a + 64) &&& 128 = 0) ∧ a &&& 64 = 0 ∧ (a + 64) &&& 64 = 64 := by
 have key : (List.range 64).all (fun a => (a &&& 63 == a && (a + 64) &&& 63 == a) && (a &&& 128 == 0 && (a + 64) &&& 128 == 0) && (a &&& 64 == 0 && (a + 64) &&& 64 == 64)) = true := by kernel_rfl
 have := List.all_eq_true.1 key a (List.mem_range.2 h)
 simp only [Bool.and_eq_true, beq_iff_eq] at this
 exact ⟨this.1.1, this.1.2, this.2⟩
theorem elemR_ok (hG : GOS G) {b q : Nat} {s tb : List UInt8} {ix : IX} (hbq : b ≠ q) (hs : s.length ≤ 1000000000) (htl : tb.length ≤ 100000000) (hix : ixTab ix tb) : ∀ (d : Nat) (e : El), okE e → inN ix e → dp e ≤ d → ∀ (deep i : Nat) (pg : Int) (A : Hp) (r : List UInt8) (c : UInt8), deep + dp e ≤ 13 → A b = wrd q tb pg → A q = mrd s (i + 1) → i ≤ s.length → s.drop i = tokW ix pg e ++ r → s[i]? = some c →
  CALL prog G 60 [.ptr b 0, B8 c, .int .i64 deep] A (fun d A' => d = .agg (elC e) ∧ A' = (A.upd q (mrd s (i + (tokW ix pg e).length))).upd b (wrd q tb (lastP e))) (fun _ _ => False) := by
 intro d
 induction d with
 | zero => intro e _ _ hd; obtain ⟨p, n, t, o, ks⟩ := e; simp only [dp] at hd; omega
 | succ d ih =>
   rintro ⟨p, n, t, o, ks⟩ ⟨hc1, hcs⟩ ⟨hin, hins⟩ hd deep i pg A r c hdeep hb hq hi hdr hc
   obtain ⟨hp, hn, hkl, hkt, htlen, hot, hos⟩ := check1_ok hc1
   simp only [dp] at hd hdeep
   have hlen := congrArg List.length hdr
   rw [List.length_drop, List.length_append] at hlen
   have hE : tokW ix pg (.mk p n t o ks) = turnW pg p ++ nameW ix p n (conB t ks) ++ bif conB t ks == 0 then [] else textW ix t o ++ toksW ix p ks ++ [1] := by rw [tokW]
   have hel : elC (.mk p n t o ks) = [.int .i64 p, .str n, .str t, .bool o, .lst (elsC ks) ks.length 5 none] := by rw [elC]
   have hlp : lastP (.mk p n t o ks) = lastsP p ks := by rw [lastP]
   have htk := tok_lt p n
   have hcon := con_or t ks
   have hnn : n ≠ [] := fun e => by rw [e] at hn; cases hn
   -- the name's byte
   obtain ⟨a, ha⟩ : ∃ a, a = bif tokF p n == 0 then 4 else tokF p n := ⟨_, rfl⟩
   have ha64 : a < 64 ∧ 4 ≤ a := by
    cases c0 : tokF p n == 0
    · have := name_back p n (by simpa using c0)
      rw [c0, cond_false] at ha; omega
    · rw [c0, cond_true] at ha; omega
   have hcb : (UInt8.ofNat (a + conB t ks)).toNat = a + conB t ks := by
    rw [UInt8.toNat_ofNat', Nat.mod_eq_of_lt]
    rcases hcon with e | e <;> rw [e] <;> omega
   obtain ⟨nl, hnl, hnl2⟩ : ∃ nl, nameW ix p n (conB t ks) = UInt8.ofNat (a + conB t ks) :: nl ∧ nl = bif tokF p n == 0 then mbF (ixN ix n) else [] := by
    rw [nameW, ha]
    cases tokF p n == 0
    · exact ⟨[], rfl, rfl⟩
    · exact ⟨_, rfl, rfl⟩
   rw [hE, hnl] at hdr
   -- where things stand
   obtain ⟨i1, hi1⟩ : ∃ i1, i1 = i + (turnW pg p).length := ⟨_, rfl⟩
   have hd1 : s.drop i1 = UInt8.ofNat (a + conB t ks) :: (nl ++ ((bif conB t ks == 0 then [] else textW ix t o ++ toksW ix p ks ++ [1]) ++ r)) := by
    rw [hi1]
    have := drop_add (a := turnW pg p) (s := s) (i := i) (r := UInt8.ofNat (a + conB t ks) :: (nl ++ ((bif conB t ks == 0 then [] else textW ix t o ++ toksW ix p ks ++ [1]) ++ r))) (by rw [hdr]; simp only [List.append_assoc, List.cons_append])
    exact this
   have hd2 : s.drop (i1 + 1) = nl ++ ((bif conB t ks == 0 then [] else textW ix t o ++ toksW ix p ks ++ [1]) ++ r) := drop_add (a := [UInt8.ofNat (a + conB t ks)]) hd1
   have hd3 : s.drop (i1 + 1 + nl.length) = (bif conB t ks == 0 then [] else textW ix t o ++ toksW ix p ks ++ [1]) ++ r := drop_add hd2
   have hl1 := congrArg List.length hd1
   rw [List.length_drop, List.length_cons, List.length_append, List.length_append] at hl1
   have hfin : i + (tokW ix pg (.mk p n t o ks)).length = i1 + 1 + nl.length + (bif conB t ks == 0 then [] else textW ix t o ++ toksW ix p ks ++ [1]).length := by
    rw [hE, hnl, hi1]; simp only [List.length_append, List.length_cons]; omega
   rw [hfin, hlp]
   generalize hW : (bif conB t ks == 0 then [] else textW ix t o ++ toksW ix p ks ++ [1]) = W at hd1 hd2 hd3 hl1
   refine CALL.of cF60 (Nat.le_of_ble_eq_true rfl) ?_
   refine AC.seq (AC.reg ?_)
   refine RG.alloc .d fun rs hrs => ?_
   have hrb : rs ≠ b := fun e => by rw [e, hb] at hrs; cases hrs
   have hrq : rs ≠ q := fun e => by rw [e, hq] at hrs; cases hrs
   -- what is told all along
   obtain ⟨X, hX⟩ : ∃ X : Nat → Int → Hp, ∀ j g, X j g = ((A.upd q (mrd s j)).upd b (wrd q tb g)).upd rs (some (.cells [.int .i64 0, .str [], .str [], .bool false, .nils] 24)) := ⟨_, fun _ _ => rfl⟩
   have lb : ∀ j g, X j g b = wrd q tb g := fun j g => by rw [hX, Hp.upd_ne (Ne.symm hrb)]; exact Hp.upd_same
   have lq : ∀ j g, X j g q = mrd s j := fun j g => by rw [hX, Hp.upd_ne (Ne.symm hrq), Hp.upd_ne (Ne.symm hbq)]; exact Hp.upd_same
   have lr : ∀ j g, X j g rs = some (.cells [.int .i64 0, .str [], .str [], .bool false, .nils] 24) := fun j g => by rw [hX]; exact Hp.upd_same
   have uq : ∀ j k g, (X j g).upd q (mrd s k) = X k g := fun j k g => by rw [hX, hX, Hp.upd_comm hrq, Hp.upd_comm hbq, Hp.upd_upd]
   have ub : ∀ j g g', (X j g).upd b (wrd q tb g') = X j g' := fun j g g' => by rw [hX, hX, Hp.upd_comm hrb, Hp.upd_upd]
   have h0 : A.upd rs (some (.cells [.int .i64 0, .str [], .str [], .bool false, .nils] 24)) = X (i + 1) pg := by rw [hX, Hp.upd_id hq, Hp.upd_id hb]
   have hXs : ∀ j g, SubH ((A.upd q (mrd s j)).upd b (wrd q tb g)) (X j g) := fun j g => by rw [hX]; exact SubH.fresh (by rw [Hp.upd_ne hrb, Hp.upd_ne hrq]; exact hrs)
   rw [h0]
   -- the page
   refine RG.nilS (AC.seqI (I := fun fr' H' => H' = X (i1 + 1) p ∧ Agrees fr' [(0, .ptr b 0), (1, B8 (UInt8.ofNat (a + conB t ks))), (2, .int .i64 deep), (6, .ptr rs 0)]) (AC.block ?_) ?_)
   · have stop : ∀ (fr' : Fr), Agrees fr' [(0, .ptr b 0), (1, B8 (UInt8.ofNat (a + conB t ks))), (2, .int .i64 deep), (6, .ptr rs 0)] →
       AC prog G none F60.N (.loop (ccIn (ccIn (ccFst (ccSnd F60.c))))) (Bk 0 (Nx (fun fr' H' => H' = X (i1 + 1) p ∧ Agrees fr' [(0, .ptr b 0), (1, B8 (UInt8.ofNat (a + conB t ks))), (2, .int .i64 deep), (6, .ptr rs 0)]) (Fin F60.rs (fun d A' => d = .agg (elC (.mk p n t o ks)) ∧ A' = (A.upd q (mrd s (i1 + 1 + nl.length + W.length))).upd b (wrd q tb (lastsP p ks))) (fun _ _ => False)))) fr' (X (i1 + 1) p) := by
      intro fr' hf
      refine AC.to _ hf (AC.loop (AC.seq (AC.seq (AC.reg ?_))))
      refine go1 ?_
      refine RG.callR .d rfl (bad_ok (lb _ _) (lq _ _)) ?_
      refine go1 ?_
      refine go1 ?_
      refine go1 ?_
      refine RG.p (d := .bool false) .d (by
       show some (DV.bool ((((UInt8.ofNat (a + conB t ks)).toNat : Nat) : Int) == 0)) = _
       congr 2
       rw [hcb, beq_eq_false_iff_ne]; omega) ?_
      refine go ?_
      exact RG.nilS (AC.cond_f rfl (AC.exit ⟨rfl, rfl, rfl, rfl, rfl, trivial⟩))
     have hT : turnW pg p = bif p == pg then [] else [0, UInt8.ofNat p.toNat] := rfl
     cases cp : p == pg
     · rw [cp, cond_false] at hT
       rw [hT] at hi1 hdr
       have h00 : s[i]? = some 0 := head_at (c := 0) (l := [UInt8.ofNat p.toNat]) (by rw [hdr]; simp only [List.append_assoc, List.cons_append, List.nil_append]; rfl)
       obtain rfl : c = 0 := Option.some.inj (hc.symm.trans h00)
       have hdp1 : s.drop (i + 1) = [UInt8.ofNat p.toNat] ++ (UInt8.ofNat (a + conB t ks) :: nl ++ (W ++ r)) := by
        have := drop_add (a := [0]) (s := s) (i := i) (r := [UInt8.ofNat p.toNat] ++ (UInt8.ofNat (a + conB t ks) :: nl ++ (W ++ r))) (by rw [hdr, ← hW]; simp only [List.append_assoc, List.cons_append, List.nil_append])
        exact this
       have hp1 : s[i + 1]? = some (UInt8.ofNat p.toNat) := head_at (l := []) hdp1
       have hi2 : i1 = i + 1 + 1 := by rw [hi1]; rfl
       have hp2 : s[i + 1 + 1]? = some (UInt8.ofNat (a + conB t ks)) := by rw [← hi2]; exact head_at (l := []) hd1
       have hpb : ((UInt8.ofNat p.toNat).toNat : Int) = p := by rw [UInt8.toNat_ofNat', Nat.mod_eq_of_lt (by omega)]; omega
       refine AC.loop (AC.seq (AC.seq (AC.reg ?_)))
       refine go1 ?_
       refine RG.callR .d rfl (bad_ok (lb _ _) (lq _ _)) ?_
       refine go ?_
       refine RG.nilS (AC.cond_t rfl (AC.skip (AC.block (AC.seq (AC.reg ?_)))))
       refine go1 ?_
       refine go1 ?_
       refine go1 ?_
       refine RG.ld .d rfl (lb _ _) (d := .ptr q 0) rfl ?_
       refine RG.callR .d rfl (mAt_ok (lq _ _)) ?_
       refine go ?_
       refine RG.nilS (AC.seq (AC.reg ?_))
       refine go1 ?_
       refine go1 ?_
       refine go1 ?_
       refine RG.ld .d rfl (lb _ _) (d := .ptr q 0) rfl ?_
       refine RG.callR .d rfl (mByte_ok (lq _ _) hp1 hs) ?_
       rw [uq]
       refine go ?_
       refine RG.nilS (AC.seq (AC.seq (AC.reg ?_)))
       refine go1 ?_
       refine RG.p (d := .int .i64 p) .d (by
        show some (DV.int .i64 (IntKind.i64.wrap (((UInt8.ofNat p.toNat).toNat : Nat) : Int))) = _
        rw [hpb, IntWalk.i64_in _ (by omega)]) ?_
       refine RG.p (d := .bool false) .d (by show some (DV.bool (decide (p > 2))) = _; congr 2; simp; omega) ?_
       refine RG.nilS (AC.cond_f rfl (AC.skip (AC.seq (AC.reg ?_))))
       refine go1 ?_
       refine go1 ?_
       refine RG.p (d := .int .i64 p) .d (by
        show some (DV.int .i64 (IntKind.i64.wrap (((UInt8.ofNat p.toNat).toNat : Nat) : Int))) = _
        rw [hpb, IntWalk.i64_in _ (by omega)]) ?_
       refine go1 ?_
       refine go1 ?_
       refine RG.sto (d := .int .i64 p) .d rfl (lb _ _) rfl rfl rfl (by exact Nat.le_of_ble_eq_true rfl) ?_
       have hub := ub (i + 1 + 1) pg p
       rw [wrd] at hub
       show RG _ _ _ _ _ _ _ ((X (i + 1 + 1) pg).upd b (some (.cells [.ptr q 0, .str tb, .int .i64 p, .bool false, .int .i64 0, .int .i64 0] 99)))
       rw [hub]
       refine RG.nilS (AC.reg ?_)
       refine go1 ?_
       refine go1 ?_
       refine go1 ?_
       refine RG.ld .d rfl (lb _ _) (d := .ptr q 0) rfl ?_
       refine RG.callR .d rfl (mByte_ok (lq _ _) hp2 hs) ?_
       rw [uq]
       refine go ?_
       have he : X (i + 1 + 1 + 1) p = X (i1 + 1) p := by rw [hi2]
       rw [he]
       exact RG.nil (stop _ ⟨rfl, rfl, rfl, rfl, trivial⟩)
     · rw [cp, cond_true] at hT
       rw [hT] at hi1
       have hi2 : i1 = i := by rw [hi1]; rfl
       have hpp : p = pg := eq_of_beq cp
       have hcc : c = UInt8.ofNat (a + conB t ks) := by
        have := head_at (l := []) hd1
        rw [hi2] at this
        exact Option.some.inj (hc.symm.trans this)
       rw [← hpp, ← hi2, hcc]
       exact stop _ ⟨rfl, rfl, rfl, rfl, trivial⟩
   rintro fr2 H2 ⟨rfl, hf2⟩
   have hlt : a + conB t ks < 256 := by rcases hcon with e | e <;> rw [e] <;> omega
   have hmk := masks a ha64.1
   have hm63 : (a + conB t ks) &&& 63 = a := by
    rcases hcon with e | e
    · rw [e]; exact hmk.1.2
    · rw [e]; exact hmk.1.1
   have hm128 : (a + conB t ks) &&& 128 = 0 := by
    rcases hcon with e | e
    · rw [e]; exact hmk.2.1.2
    · rw [e]; exact hmk.2.1.1
   have hm64 : (a + conB t ks) &&& 64 = conB t ks := by
    rcases hcon with e | e
    · rw [e]; exact hmk.2.2.2
    · rw [e]; exact hmk.2.2.1
   refine AC.to _ hf2 (AC.seq (AC.seq (AC.reg ?_)))
   refine go1 ?_
   refine RG.callR .d rfl (bad_ok (lb _ _) (lq _ _)) ?_
   refine RG.nilS (AC.cond_f rfl (AC.skip (AC.seq (AC.reg ?_))))
   refine go1 ?_
   refine RG.p (d := .int .u8 (a : Nat)) .d (by
    show binI .and .u8 (((UInt8.ofNat (a + conB t ks)).toNat : Nat) : Int) ((63 : Nat) : Int) = _
    rw [hcb, and_u8 _ _ hlt (by decide), hm63]) ?_
   refine go ?_
   refine RG.nilS (AC.seq (AC.seq (AC.reg ?_)))
   refine go1 ?_
   refine RG.p (d := .int .u8 0) .d (by
    show binI .and .u8 (((UInt8.ofNat (a + conB t ks)).toNat : Nat) : Int) ((128 : Nat) : Int) = _
    rw [hcb, and_u8 _ _ hlt (by decide), hm128]; rfl) ?_
   refine go1 ?_
   refine go1 ?_
   refine go1 ?_
   refine RG.p (d := .bool false) .d (by show some (DV.bool (decide (((a : Nat) : Int) < 4))) = _; congr 2; simp; omega) ?_
   refine go ?_
   refine RG.nilS (AC.cond_f rfl (AC.skip (AC.seq (AC.reg ?_))))
   refine go1 ?_
   refine go1 ?_
   refine go1 ?_
   refine RG.ld .d rfl (lb _ _) (d := .int .i64 p) rfl ?_
   refine RG.p (d := .agg [.int .i64 p, .str [], .str [], .bool false, .nils]) .d rfl ?_
   refine RG.alloc .d fun be hbe => ?_
   refine RG.sto (cs := [.int .i64 0, .str [], .str [], .bool false, .nils]) (ty := 24) (d := .agg [.int .i64 p, .str [], .str [], .bool false, .nils]) (ys := [.int .i64 p, .str [], .str [], .bool false, .nils]) .d rfl Hp.upd_same rfl rfl rfl (by exact Nat.le_of_ble_eq_true rfl) ?_
   rw [Hp.upd_upd]
   have hbeb : be ≠ b := fun e => by rw [e, lb] at hbe; cases hbe
   have hbeq : be ≠ q := fun e => by rw [e, lq] at hbe; cases hbe
   have hber : be ≠ rs := fun e => by rw [e, lr] at hbe; cases hbe
   obtain ⟨Y, hY⟩ : ∃ Y : Nat → List DV → Hp, ∀ j cs, Y j cs = (X j p).upd be (some (.cells cs 24)) := ⟨_, fun _ _ => rfl⟩
   have yb : ∀ j cs, Y j cs b = wrd q tb p := fun j cs => by rw [hY, Hp.upd_ne (Ne.symm hbeb)]; exact lb _ _
   have yq : ∀ j cs, Y j cs q = mrd s j := fun j cs => by rw [hY, Hp.upd_ne (Ne.symm hbeq)]; exact lq _ _
   have yr : ∀ j cs, Y j cs rs = some (.cells [.int .i64 0, .str [], .str [], .bool false, .nils] 24) := fun j cs => by rw [hY, Hp.upd_ne (Ne.symm hber)]; exact lr _ _
   have ye : ∀ j cs, Y j cs be = some (.cells cs 24) := fun j cs => by rw [hY]; exact Hp.upd_same
   have yuq : ∀ j k cs, (Y j cs).upd q (mrd s k) = Y k cs := fun j k cs => by rw [hY, hY, Hp.upd_comm hbeq, uq]
   have yue : ∀ j cs cs', (Y j cs).upd be (some (.cells cs' 24)) = Y j cs' := fun j cs cs' => by rw [hY, hY, Hp.upd_upd]
   have hAbe : ∀ j g, ((A.upd q (mrd s j)).upd b (wrd q tb g)) be = none := fun j g => by
    rw [hX, Hp.upd_ne hber, Hp.upd_ne hbeb, Hp.upd_ne hbeq] at hbe
    rw [Hp.upd_ne hbeb, Hp.upd_ne hbeq]; exact hbe
   have hArs : ∀ j g, ((A.upd q (mrd s j)).upd b (wrd q tb g)) rs = none := fun j g => by rw [Hp.upd_ne hrb, Hp.upd_ne hrq]; exact hrs
   have ysub : ∀ j cs x, SubH ((A.upd q (mrd s j)).upd b (wrd q tb p)) ((Y j cs).upd rs x) := fun j cs x => by
    rw [hY, hX, Hp.upd_comm hber, Hp.upd_upd]
    exact (SubH.fresh (hArs j p)).trans (SubH.fresh (by rw [Hp.upd_ne hber]; exact hAbe j p))
   rw [← hY]
   -- the name
   refine RG.nilS (AC.seqI (I := fun fr' H' => H' = Y (i1 + 1 + nl.length) [.int .i64 p, .str n, .str [], .bool false, .nils] ∧ Agrees fr' [(0, .ptr b 0), (1, B8 (UInt8.ofNat (a + conB t ks))), (2, .int .i64 deep), (6, .ptr rs 0), (10, .ptr be 0)]) (AC.seq (AC.reg ?_)) ?_)
   · refine go1 ?_
     refine RG.p (d := .bool (tokF p n == 0)) .d (by
      show some (DV.bool (((a : Nat) : Int) == 4)) = _
      congr 2
      cases c0 : tokF p n == 0
      · have := name_back p n (by simpa using c0)
        rw [c0, cond_false] at ha
        rw [beq_eq_false_iff_ne]; omega
      · rw [c0, cond_true] at ha
        rw [ha]; rfl) ?_
     cases c0 : tokF p n == 0
     · rw [c0, cond_false] at ha hnl2
       obtain ⟨hb1, hb2⟩ := name_back p n (by simpa using c0)
       subst hnl2
       refine RG.nilS (AC.cond_f rfl (AC.seq (AC.reg ?_)))
       refine go1 ?_
       refine go1 ?_
       refine go1 ?_
       refine RG.ld .d rfl (yb _ _) (d := .int .i64 p) rfl ?_
       refine go1 ?_
       refine RG.callP .d rfl (VName_ok hG p a (by omega)) ?_
       rw [ha, hb1]
       refine go1 ?_
       refine RG.sto (d := .str n) .d rfl (ye _ _) rfl rfl rfl (by exact Nat.le_of_ble_eq_true rfl) ?_
       rw [yue]
       refine RG.nilS (AC.seq (AC.reg ?_))
       refine go1 ?_
       refine RG.ld .d rfl (ye _ _) (d := .str n) rfl ?_
       refine RG.p (d := .bool false) .d (by show some (DV.bool (n == [])) = _; congr 2; simpa using hnn) ?_
       exact RG.nilS (AC.cond_f rfl (AC.skip ⟨rfl, rfl, by rw [← ha]; rfl, rfl, rfl, rfl, trivial⟩))
     · rw [c0, cond_true] at ha hnl2
       obtain ⟨v, hv⟩ := Option.isSome_iff_exists.1 (hin (by simpa using c0))
       obtain ⟨k, rfl, hk⟩ := hix n v hv
       have hki : ixN ix n = k := by rw [ixN, hv]; rfl
       rw [hki] at hnl2
       have hk2 := hk.at
       refine RG.nilS (AC.cond_t rfl (AC.reg ?_))
       refine go1 ?_
       refine RG.callR .d rfl (rtext_ok hG (yb _ _) (yq _ _) hbq (by omega) hs (by omega) (by omega) (by rw [← hnl2]; exact hd2) hk2.1) ?_
       rw [yuq, ← hnl2]
       refine go1 ?_
       refine RG.sto (d := .str n) .d rfl (ye _ _) rfl rfl rfl (by exact Nat.le_of_ble_eq_true rfl) ?_
       rw [yue]
       exact RG.nil ⟨rfl, rfl, rfl, rfl, rfl, rfl, trivial⟩
   rintro fr3 H3 ⟨rfl, hf3⟩
   refine AC.to _ hf3 (AC.seq (AC.seq (AC.reg ?_)))
   refine go1 ?_
   refine RG.p (d := .int .u8 (conB t ks : Nat)) .d (by
    show binI .and .u8 (((UInt8.ofNat (a + conB t ks)).toNat : Nat) : Int) ((64 : Nat) : Int) = _
    rw [hcb, and_u8 _ _ hlt (by decide), hm64]) ?_
   refine RG.p (d := .bool (!(conB t ks == 0))) .d (by
    show some (DV.bool (((conB t ks : Nat) : Int) != 0)) = _
    congr 2
    rw [Bool.eq_iff_iff]; simp) ?_
   -- the last steps, where no kids stand
   have leave : ∀ (j : Nat) (fr' : Fr), ks = [] → j = i1 + 1 + nl.length + W.length → fr' 6 = .ptr rs 0 → fr' 10 = .ptr be 0 →
     AC prog G none F60.N (.seq (.reg [ji 98 (.ld true 5 (.t 10)), jn (.st 5 (.t 6) (.t 98))]) .ret) (Fin F60.rs (fun d A' => d = .agg (elC (.mk p n t o ks)) ∧ A' = (A.upd q (mrd s (i1 + 1 + nl.length + W.length))).upd b (wrd q tb (lastsP p ks))) (fun _ _ => False)) fr' (Y j [.int .i64 p, .str n, .str t, .bool o, .nils]) := by
    rintro j fr' rfl rfl h6 h10
    refine AC.seq (AC.reg ?_)
    refine RG.ld .d h10 (ye _ _) (d := .agg [.int .i64 p, .str n, .str t, .bool o, .nils]) rfl ?_
    refine RG.sto (d := .agg [.int .i64 p, .str n, .str t, .bool o, .nils]) (ys := [.int .i64 p, .str n, .str t, .bool o, .nils]) .d (by exact h6) (yr _ _) rfl rfl rfl (by exact Nat.le_of_ble_eq_true rfl) ?_
    refine RG.nilS (AC.ret ?_)
    refine finL (ds := [.agg [.int .i64 p, .str n, .str t, .bool o, .nils]]) (d := .agg (elC (.mk p n t o []))) (H' := (A.upd q (mrd s (i1 + 1 + nl.length + W.length))).upd b (wrd q tb p)) ?_ ?_ (ysub _ _ _) ⟨rfl, by rw [lastsP]⟩
    · show (ldD _ true 5 (fr' 6)).bind _ = _
      rw [h6]
      simp only [ldD, Hp.upd_same]; rfl
    · rw [elC]
      exact (DLes.cons (DLe.refl _) (.cons (DLe.refl _) (.cons (DLe.refl _) (.cons (DLe.refl _) (.cons DLe.nils .nil))))).agg
   have hcd : conB t ks = bif !(t == []) || decide (((ks.length : Nat) : Int) > 0) then 64 else 0 := rfl
   by_cases ht : t = []
   · have ho : o = false := by
      cases o
      · rfl
      · exact absurd ht (hot rfl)
     subst ht; subst ho
     by_cases hk : ks = []
     · -- nothing within
       subst hk
       have h0 : conB ([] : List UInt8) ([] : List El) = 0 := rfl
       rw [h0] at hW ⊢
       refine RG.nilS (AC.cond_f rfl (AC.skip ?_))
       refine leave _ _ rfl ?_ rfl rfl
       rw [← hW]; rfl
     · -- kids
       have hkpos : 0 < ks.length := List.length_pos_iff.2 hk
       have h64 : conB ([] : List UInt8) ks = 64 := by
        rw [hcd, show decide (((ks.length : Nat) : Int) > 0) = true by simp; omega]; rfl
       have hW2 : W = toksW ix p ks ++ [1] := by rw [← hW, h64]; rfl
       rw [h64]
       refine RG.nilS (AC.cond_t rfl (AC.reg ?_))
       refine go1 ?_
       refine go1 ?_
       have hkids := withinK_ok (G := G) (H := Y (i1 + 1 + nl.length) [.int .i64 p, .str n, .str [], .bool false, .nils]) (b := b) (q := q) (be := be) (i := i1 + 1 + nl.length) (deep := deep) (s := s) (tb := tb) (r := r) (n := n) (p := p) (ix := ix) (ks := ks) (yb _ _) (yq _ _) (ye _ _) hbq (by omega) hs hkl (by omega) (by rw [hd3, hW2]; simp)
        (fun k hk i pg A r c h1 h2 h3 h4 h5 => ih k (okEs_mem ks k hk hcs) (inNs_mem ks k hk hins) (by have := dps_le ks k hk; omega) (deep + 1) i pg A r c (by have := dps_le ks k hk; omega) h1 h2 h3 h4 h5)
       refine RG.call .d rfl hkids (fun d H' ⟨v, hv⟩ => ?_) (fun _ _ h => h.elim)
       have hj : i1 + 1 + nl.length + (toksW ix p ks).length + 1 = i1 + 1 + nl.length + W.length := by rw [hW2, List.length_append, List.length_singleton]; omega
       rw [hj] at hv
       generalize hj2 : i1 + 1 + nl.length + W.length = j2 at hv ⊢
       rcases hv with ⟨hv0, _⟩ | ⟨gb, cap, rest, g1, rfl, g3, g4, rfl⟩
       · omega
       generalize hZ : ((Y (i1 + 1 + nl.length) [.int .i64 p, .str n, .str [], .bool false, .nils]).upd q (mrd s j2)).upd b (wrd q tb (lastsP p ks)) = ZZ at g1 ⊢
       have hzr : ZZ rs = some (.cells [.int .i64 0, .str [], .str [], .bool false, .nils] 24) := by rw [← hZ, Hp.upd_ne hrb, Hp.upd_ne hrq]; exact yr _ _
       have hgbe : gb ≠ be := fun e => by rw [e, Hp.upd_same] at g1; cases g1
       rw [Hp.upd_ne hgbe] at g1
       have hgrs : gb ≠ rs := fun e => by rw [e, hzr] at g1; cases g1
       refine RG.nil (AC.seq (AC.reg ?_))
       refine RG.ld .d rfl (by rw [Hp.upd_ne (Ne.symm hgbe)]; exact Hp.upd_same) (d := .agg ([.int .i64 p, .str n, .str [], .bool false] ++ [.win gb 0 ks.length cap])) rfl ?_
       refine RG.sto (d := .agg ([.int .i64 p, .str n, .str [], .bool false] ++ [.win gb 0 ks.length cap])) (ys := [.int .i64 p, .str n, .str [], .bool false] ++ [.win gb 0 ks.length cap]) .d rfl (by rw [Hp.upd_ne (Ne.symm hgrs), Hp.upd_ne (Ne.symm hber)]; exact hzr) rfl rfl rfl (by exact Nat.le_of_ble_eq_true rfl) ?_
       refine RG.nilS (AC.ret ⟨[.agg ([.int .i64 p, .str n, .str [], .bool false] ++ [.win gb 0 ks.length cap])], .agg (elC (.mk p n [] false ks)), (A.upd q (mrd s j2)).upd b (wrd q tb (lastsP p ks)), ?_, ?_, rfl, rfl⟩)
       · show (ldD _ true 5 (.ptr rs 0)).bind _ = _
         simp only [ldD, Hp.upd_same]; rfl
       · rw [hel]
         refine Cv.frz (xs := [.int .i64 p, .str n, .str [], .bool false]) (g := gb) (ls := elsC ks) (rest := rest) (by rw [Hp.upd_ne hgrs]; exact Hp.upd_same) g3 ?_
         intro x y hx
         have n1 : x ≠ rs := fun e => by rw [e, hArs] at hx; cases hx
         have n2 : x ≠ be := fun e => by rw [e, hAbe] at hx; cases hx
         have hzx : ZZ x = some y := by
          rw [← hZ]
          by_cases e1 : x = b
          · subst e1; rw [Hp.upd_same] at hx ⊢; exact hx
          · by_cases e2 : x = q
            · subst e2; rw [Hp.upd_ne e1, Hp.upd_same] at hx ⊢; exact hx
            · rw [Hp.upd_ne e1, Hp.upd_ne e2] at hx ⊢
              rw [hY, hX, Hp.upd_ne n2, Hp.upd_ne n1, Hp.upd_ne e1, Hp.upd_ne e2]; exact hx
         have n3 : x ≠ gb := fun e => by rw [e, g1] at hzx; cases hzx
         rw [Hp.upd_ne n3, Hp.upd_ne n1, Hp.upd_ne n3, Hp.upd_ne n2]; exact hzx
   · -- a text
     have hk : ks = [] := by
      by_cases hk : ks = []
      · exact hk
      · exact absurd (hkt (List.length_pos_iff.2 hk)) ht
     subst hk
     have h64 : conB t [] = 64 := by rw [hcd, show (t == []) = false by simpa using ht]; rfl
     have hW2 : W = textW ix t o ++ [1] := by rw [← hW, h64, toksW]; simp
     rw [h64]
     refine RG.nilS (AC.cond_t rfl (AC.reg ?_))
     refine go1 ?_
     refine go1 ?_
     refine RG.call .d rfl (withinT_ok hG (yb _ _) (yq _ _) (ye _ _) hbq (by omega) hs htl hix ht (fun ho => noz_shown (hos ho)) (r := r) (by rw [hd3, hW2]; simp)) (fun d H' e => ?_) (fun _ _ h => h.elim)
     subst e
     rw [yuq, yue]
     refine RG.nil (leave _ _ rfl ?_ rfl rfl)
     rw [hW2, List.length_append, List.length_singleton]; omega
open Go Go.Run Go.RowKit
open Go.Proofs.Tryz (prog)
def F16 : FN := ⟨90, (.seq (.reg [ji 2 (.alloc [(.int .i64 0), (.str []), (.str []), (.bool false), .nils] 24), ji 3 (.mv (ci 0)), ji 4 (.mv (ci 0))])
 (.seq (.seq (.reg [ji 11 (.mv (.t 0)), ji 12 (.len true (.t 11)), ji 13 (.bin .gtr (.t 12) (ci 12000))])
 (.cond (.t 13) (.seq (.reg [ji 14 (.bld [(.int .i64 0), (.str []), (.str []), (.bool false), .nils] []), jn (.st 5 (.t 2) (.t 14)), ji 3 (.mv (ci 0)), ji 4 (.mv (ci 8))])
 .ret)
 .skip))
 (.seq (.reg [ji 15 (.mv (.t 0)), ji 16 (.call 56 [(.t 15)]), ji 17 (.bld [.nilp, (.str []), (.int .i64 0), (.bool false), (.int .i64 0), (.int .i64 0)] [(0, 1, (.t 16))]), ji 18 (.box 99 (.t 17)), ji 5 (.mv (.t 18))])
 (.seq (.seq (.reg [ji 19 (.mv (.t 5)), ji 20 (.nilc (.t 19)), ji 21 (.fadr 0 (.t 20)), ji 22 (.ld false 1 (.t 21)), ji 23 (.call 57 [(.t 22)]), ji 6 (.mv (.t 23))])
 (.seq (.reg [ji 24 (.mv (.t 6)), ji 25 (.bin .neq (.t 24) (.c (.int .u8 3)))])
 (.cond (.t 25) (.reg [ji 26 (.mv (.t 5)), ji 27 (.call 58 [(.t 26), (ci 0), (ci 5)])])
 .skip)))
 (.seq (.reg [ji 28 (.mv (.t 5)), ji 29 (.call 59 [(.t 28)])])
 (.seq (.reg [ji 30 (.mv (.t 5)), ji 31 (.mv (.t 5)), ji 32 (.nilc (.t 31)), ji 33 (.fadr 0 (.t 32)), ji 34 (.ld false 1 (.t 33)), ji 35 (.call 57 [(.t 34)]), ji 36 (.call 60 [(.t 30), (.t 35), (ci 1)]), ji 7 (.alloc [(.int .i64 0), (.str []), (.str []), (.bool false), .nils] 24), jn (.st 5 (.t 7) (.t 36))])
 (.seq (.seq (.reg [ji 37 (.mv (.t 5)), ji 38 (.call 61 [(.t 37)]), ji 39 (.un .not (.t 38)), ji 40 (.mv (.t 39)), jg 41 40 true (.mv (.t 5)), jg 42 40 true (.nilc (.t 41)), jg 43 40 true (.fadr 0 (.t 42)), jg 44 40 true (.ld false 1 (.t 43)), jg 45 40 true (.call 62 [(.t 44)]), jg 46 40 true (.bin .gtr (.t 45) (ci 0)), ji 47 (.pick (.t 40) (.t 46) (.c (.bool false)))])
 (.cond (.t 47) (.reg [ji 48 (.mv (.t 5)), ji 49 (.mv (.t 5)), ji 50 (.nilc (.t 49)), ji 51 (.fadr 0 (.t 50)), ji 52 (.ld false 1 (.t 51)), ji 53 (.call 63 [(.t 52)]), ji 54 (.call 58 [(.t 48), (.t 53), (ci 6)])])
 .skip))
 (.seq (.seq (.reg [ji 56 (.mv (.t 5)), ji 57 (.nilc (.t 56)), ji 58 (.fadr 0 (.t 57)), ji 59 (.ld false 1 (.t 58)), ji 60 (.call 64 [(.t 59)]), ji 55 (.mv (.t 60)), ji 61 (.ext (.t 55) 0), ji 62 (.ext (.t 55) 1), ji 8 (.mv (.t 61)), ji 9 (.mv (.t 62))])
 (.block 0 (.seq (.reg [ji 64 (.mv (.t 5)), ji 65 (.nilc (.t 64)), ji 66 (.fadr 3 (.t 65)), ji 67 (.ld false 1 (.t 66)), ji 63 (.mv (.t 67))])
 (.cond (.t 63) (.seq (.draw [ji 68 (.bld [(.int .i64 0), (.str []), (.str []), (.bool false), .nils] []), ji 69 (.mv (.t 5)), ji 70 (.nilc (.t 69)), ji 71 (.fadr 4 (.t 70)), ji 72 (.ld false 1 (.t 71)), ji 73 (.mv (.t 5)), ji 74 (.nilc (.t 73)), ji 75 (.fadr 5 (.t 74)), ji 76 (.ld false 1 (.t 75)), jn (.st 5 (.t 2) (.t 68)), ji 3 (.mv (.t 72)), ji 4 (.mv (.t 76))] [[], [], [1], [2], [3], [], [5], [6], [7], [0, 0], [4, 9, 0, 1, 2, 3, 4, 9], [8, 10, 0, 1, 2, 3, 4, 5, 6, 7, 8, 9, 10]])
 .ret)
 (.seq (.reg [ji 78 (.mv (.t 9)), ji 79 (.bin .neq (.t 78) (ci 0)), ji 77 (.mv (.t 79))])
 (.cond (.t 77) (.seq (.reg [ji 80 (.bld [(.int .i64 0), (.str []), (.str []), (.bool false), .nils] []), ji 81 (.mv (.t 8)), ji 82 (.mv (.t 9)), jn (.st 5 (.t 2) (.t 80)), ji 3 (.mv (.t 81)), ji 4 (.mv (.t 82))])
 .ret)
 .skip))))))
 (.seq (.seq (.reg [ji 83 (.ld true 5 (.t 7)), ji 84 (.call 38 [(.t 83)]), ji 10 (.mv (.t 84))])
 (.seq (.reg [ji 85 (.mv (.t 10)), ji 86 (.bin .neq (.t 85) (ci 0))])
 (.cond (.t 86) (.seq (.reg [ji 87 (.bld [(.int .i64 0), (.str []), (.str []), (.bool false), .nils] []), ji 88 (.mv (.t 10)), jn (.st 5 (.t 2) (.t 87)), ji 3 (.mv (ci 0)), ji 4 (.mv (.t 88))])
 .ret)
 .skip)))
 (.seq (.reg [ji 89 (.ld true 5 (.t 7)), jn (.st 5 (.t 2) (.t 89)), ji 3 (.mv (ci 0)), ji 4 (.mv (ci 0))])
 .ret)))))))))), [.cell 2 true 5, .tmp 3, .tmp 4]⟩
theorem cF16 : cFn prog 16 = some F16 := by kernel_rfl
variable {G : Gl}
theorem wRead_ok (hG : GOS G) (e : El) (hfit : fits e) (hc0 : checkF e = 0) {ix : IX} {tb : List UInt8} (hT : TOK ix tb e) (hle : (docW ix tb e).length ≤ 12000) : PF prog G 16 [.str (docW ix tb e)] (.tup [.agg (elC e), .int .i64 0, .int .i64 0]) := by
 intro H
 obtain ⟨hok, hdp⟩ := check_ok hc0
 have hin : inN ix e := pre_inN e 1 (by omega) hT.has
 have hdoc : docW ix tb e = [3] ++ (mbF 1 ++ (mbF 106 ++ (mbF tb.length ++ (tb ++ tokW ix 0 e)))) := by
  rw [docW, headW]; simp only [List.append_assoc]
 generalize hs : docW ix tb e = s at hle hdoc
 have hl := congrArg List.length hdoc
 simp only [List.length_append, List.length_singleton] at hl
 have e1 : (mbF 1).length = 1 := by kernel_rfl
 have e2 : (mbF 106).length = 1 := by kernel_rfl
 have hd0 : s.drop 0 = [3] ++ (mbF 1 ++ (mbF 106 ++ (mbF tb.length ++ (tb ++ tokW ix 0 e)))) := hdoc
 have h0 : s[0]? = some 3 := head_at (l := []) hd0
 have hd1 : s.drop 1 = mbF 1 ++ (mbF 106 ++ (mbF tb.length ++ (tb ++ tokW ix 0 e))) := drop_add hd0
 have hd2 := drop_add hd1
 have hd3 := drop_add hd2
 have hd4 := drop_add hd3
 have hd5 := drop_add hd4
 rw [e1, e2] at hd5
 obtain ⟨j, hj⟩ : ∃ j, j = 1 + (2 + (mbF tb.length).length + tb.length) := ⟨_, rfl⟩
 rw [show 1 + 1 + 1 + (mbF tb.length).length + tb.length = j by omega] at hd5
 obtain ⟨c, l, hcl, _⟩ := tok_head ix 0 e
 have hcj : s[j]? = some c := by
  rw [hcl] at hd5
  exact head_at (r := []) (by rw [List.append_nil]; exact hd5)
 refine CALL.of cF16 (Nat.le_of_ble_eq_true rfl) ?_
 refine AC.seq (AC.reg ?_)
 refine RG.alloc .d fun rs hrs => ?_
 refine go ?_
 refine RG.nilS (AC.seq (AC.seq (AC.reg ?_)))
 refine go1 ?_
 refine go1 ?_
 refine RG.p (d := .bool false) .d (dF (P := ((s.length : Nat) : Int) > 12000) (by omega)) ?_
 refine RG.nilS (AC.cond_f rfl (AC.skip (AC.seq (AC.reg ?_))))
 refine go1 ?_
 refine RG.call .d rfl (New_ok s _) (fun d H1 ⟨q, k1, k2, k3⟩ => ?_) (fun _ _ h => h.elim)
 subst k1; subst k3
 have hqr : q ≠ rs := fun e => by rw [e, Hp.upd_same] at k2; cases k2
 rw [Hp.upd_ne hqr] at k2
 refine go1 ?_
 refine RG.box (d := .agg [.ptr q 0, .str [], .int .i64 0, .bool false, .int .i64 0, .int .i64 0]) (ys := [.ptr q 0, .str [], .int .i64 0, .bool false, .int .i64 0, .int .i64 0]) .d rfl rfl fun b hb => ?_
 have hbq : b ≠ q := fun e => by rw [e, Hp.upd_same] at hb; cases hb
 rw [Hp.upd_ne hbq] at hb
 have hbr : b ≠ rs := fun e => by rw [e, Hp.upd_same] at hb; cases hb
 rw [Hp.upd_ne hbr] at hb
 obtain ⟨X, hX⟩ : ∃ X : Nat → List UInt8 → Int → Hp, ∀ i t g, X i t g = ((H.upd rs (some (.cells [.int .i64 0, .str [], .str [], .bool false, .nils] 24))).upd q (mrd s i)).upd b (wrd q t g) := ⟨_, fun _ _ _ => rfl⟩
 have lb : ∀ i t g, X i t g b = wrd q t g := fun i t g => by rw [hX]; exact Hp.upd_same
 have lq : ∀ i t g, X i t g q = mrd s i := fun i t g => by rw [hX, Hp.upd_ne (Ne.symm hbq)]; exact Hp.upd_same
 have lr : ∀ i t g, X i t g rs = some (.cells [.int .i64 0, .str [], .str [], .bool false, .nils] 24) := fun i t g => by rw [hX, Hp.upd_ne (Ne.symm hbr), Hp.upd_ne (Ne.symm hqr)]; exact Hp.upd_same
 have uq : ∀ i k t g, (X i t g).upd q (mrd s k) = X k t g := fun i k t g => by rw [hX, hX, Hp.upd_comm hbq, Hp.upd_upd]
 have ub : ∀ i t g t' g', (X i t g).upd b (wrd q t' g') = X i t' g' := fun i t g t' g' => by rw [hX, hX, Hp.upd_upd]
 have xsub : ∀ i t g o, SubH H ((X i t g).upd rs o) := fun i t g o => by
  rw [hX, Hp.upd_comm hbr, Hp.upd_comm hqr, Hp.upd_upd]
  exact (SubH.fresh hrs).trans ((SubH.fresh (by rw [Hp.upd_ne hqr]; exact k2)).trans (SubH.fresh (by rw [Hp.upd_ne hbq, Hp.upd_ne hbr]; exact hb)))
 show RG _ _ _ _ _ _ _ (((H.upd rs (some (.cells [.int .i64 0, .str [], .str [], .bool false, .nils] 24))).upd q (mrd s 0)).upd b (wrd q [] 0))
 rw [← hX]
 refine go ?_
 refine RG.nilS (AC.seq (AC.seq (AC.reg ?_)))
 refine go1 ?_
 refine go1 ?_
 refine go1 ?_
 refine RG.ld .d rfl (lb _ _ _) (d := .ptr q 0) rfl ?_
 refine RG.callR .d rfl (mByte_ok (lq _ _ _) h0 (by omega)) ?_
 rw [uq]
 refine go ?_
 refine RG.nilS (AC.seq (AC.reg ?_))
 refine go ?_
 refine RG.nilS (AC.cond_f rfl (AC.skip (AC.seq (AC.reg ?_))))
 refine go1 ?_
 refine RG.call .d rfl (head_ok (i := 1) (r := tokW ix 0 e) (tb := tb) (lb _ _ _) (lq _ _ _) hbq (by omega) (by omega) hd1) (fun d H1 k => ?_) (fun _ _ h => h.elim)
 rw [uq, ub, ← hj] at k
 subst k
 refine RG.nilS (AC.seq (AC.reg ?_))
 refine go1 ?_
 refine go1 ?_
 refine go1 ?_
 refine go1 ?_
 refine RG.ld .d rfl (lb _ _ _) (d := .ptr q 0) rfl ?_
 refine RG.callR .d rfl (mByte_ok (lq _ _ _) hcj (by omega)) ?_
 rw [uq]
 refine RG.callR .d rfl (elemR_ok hG hbq (by omega) (by omega) hT.tab 12 e hok hin hdp 1 j 0 _ [] c (by omega) (lb _ _ _) (lq _ _ _) (by omega) (by rw [List.append_nil]; exact hd5) hcj) ?_
 rw [uq, ub]
 have hend : j + (tokW ix 0 e).length = s.length := by omega
 rw [hend]
 refine RG.alloc .d fun be hbe => ?_
 refine RG.sto (cs := [.int .i64 0, .str [], .str [], .bool false, .nils]) (ty := 24) (d := .agg (elC e)) (ys := elC e) .d rfl Hp.upd_same rfl rfl (elC_length _) (by exact Nat.le_refl _) ?_
 rw [spl_el, Hp.upd_upd]
 have n1 : be ≠ b := fun e => by rw [e, lb] at hbe; cases hbe
 have n2 : be ≠ q := fun e => by rw [e, lq] at hbe; cases hbe
 have n3 : be ≠ rs := fun e => by rw [e, lr] at hbe; cases hbe
 have esub : ∀ o, SubH H (((X s.length tb (lastP e)).upd be (some (.cells (elC e) 24))).upd rs o) := fun o => by
  rw [Hp.upd_comm n3]
  exact (xsub _ _ _ o).trans (SubH.fresh (by rw [Hp.upd_ne n3]; exact hbe))
 have yb : ((X s.length tb (lastP e)).upd be (some (.cells (elC e) 24))) b = wrd q tb (lastP e) := by rw [Hp.upd_ne (Ne.symm n1)]; exact lb _ _ _
 have yq : ((X s.length tb (lastP e)).upd be (some (.cells (elC e) 24))) q = mrd s s.length := by rw [Hp.upd_ne (Ne.symm n2)]; exact lq _ _ _
 have yr : ((X s.length tb (lastP e)).upd be (some (.cells (elC e) 24))) rs = some (.cells [.int .i64 0, .str [], .str [], .bool false, .nils] 24) := by rw [Hp.upd_ne (Ne.symm n3)]; exact lr _ _ _
 have ye : ((X s.length tb (lastP e)).upd be (some (.cells (elC e) 24))) be = some (.cells (elC e) 24) := Hp.upd_same
 generalize (X s.length tb (lastP e)).upd be (some (.cells (elC e) 24)) = Y at esub yb yq yr ye ⊢
 refine RG.nilS (AC.seq (AC.seq (AC.reg ?_)))
 refine go1 ?_
 refine RG.callR .d rfl (bad_ok yb yq) ?_
 refine go1 ?_
 refine go1 ?_
 refine go1 ?_
 refine go1 ?_
 refine go1 ?_
 refine RG.ld .d rfl yb (d := .ptr q 0) rfl ?_
 refine RG.callR .d rfl (mLeft_ok yq (Nat.le_refl _) (by omega)) ?_
 rw [Nat.sub_self]
 refine go ?_
 refine RG.nilS (AC.cond_f rfl (AC.skip (AC.seq (AC.seq (AC.reg ?_)))))
 refine go1 ?_
 refine go1 ?_
 refine go1 ?_
 refine RG.ld .d rfl yb (d := .ptr q 0) rfl ?_
 refine RG.callR .d rfl (mErr_ok yq) ?_
 refine go ?_
 refine RG.nilS (AC.block (AC.seq (AC.reg ?_)))
 refine go1 ?_
 refine go1 ?_
 refine go1 ?_
 refine RG.ld .d rfl yb (d := .bool false) rfl ?_
 refine go ?_
 refine RG.nilS (AC.cond_f rfl (AC.seq (AC.reg ?_)))
 refine go ?_
 refine RG.nilS (AC.cond_f rfl (AC.skip (AC.seq (AC.seq (AC.reg ?_)))))
 refine RG.ld .d rfl ye (ldEl e) ?_
 refine RG.callP .d rfl (Check_ok hG.ok e hfit) ?_
 rw [hc0]
 refine go ?_
 refine RG.nilS (AC.seq (AC.reg ?_))
 refine go ?_
 refine RG.nilS (AC.cond_f rfl (AC.skip (AC.seq (AC.reg ?_))))
 refine RG.ld .d rfl ye (ldEl e) ?_
 refine RG.sto (d := .agg (elC e)) (ys := elC e) .d rfl yr rfl rfl (elC_length _) (by exact Nat.le_refl _) ?_
 rw [spl_el]
 refine go ?_
 refine RG.nilS (AC.ret (finD (ds := [.agg (elC e), .int .i64 0, .int .i64 0]) (H' := H) ?_ (esub _) ⟨rfl, rfl⟩))
 simp only [F16, evRes]
 show (ldD _ true 5 (.ptr rs 0)).bind _ = _
 simp only [ldD, Hp.upd_same, ldEl]; rfl
end Go.Run.Tryz
