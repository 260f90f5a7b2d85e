/- An element read. -/
import Derived.Test.YtfimjbflfkdkkaaDoorWJ
import Derived.Test.YtfimjbflfkdkkaaDoorWE
/- A reader's kids. -/
namespace Go.Run.Tryd
open Go Go.Run Go.RowKit
/-! (*cardcase/markup.reader).within -/
def F45 : FN := ⟨96, (.seq (.reg [⟨(some 6), none, .mv (.c (.str []))⟩])
  (.seq (.reg [⟨(some 7), none, .alloc [.nilp, .nils] 43⟩])
  (.seq (.block 0 (.loop (.seq (.seq (.reg [⟨(some 10), none, .mv (.t 0)⟩,
    ⟨(some 11), none, .call 20 [(.t 10), (.c (.str [60, 47]))]⟩,
    ⟨(some 12), none, .un .not (.t 11)⟩])
  (.cond (.t 12) .skip
  (.exit 0)))
  (.block 1 (.seq (.draw [⟨(some 13), none, .mv (.t 0)⟩,
    ⟨(some 14), none, .call 25 [(.t 13)]⟩,
    ⟨(some 15), none, .mv (.t 0)⟩,
    ⟨(some 16), none, .nilc (.t 15)⟩,
    ⟨(some 17), none, .fadr 1 (.t 16)⟩,
    ⟨(some 18), none, .ld false 1 (.t 17)⟩,
    ⟨(some 8), none, .mv (.t 14)⟩,
    ⟨(some 9), none, .mv (.t 18)⟩] [[], [0], [], [2], [3], [4], [1, 1, 0, 1], [5, 6, 0, 1, 2, 3, 4, 5, 6]])
  (.seq (.reg [⟨(some 19), none, .mv (.t 8)⟩,
    ⟨(some 20), none, .bin .neq (.t 19) (.c (.str []))⟩,
    ⟨(some 21), none, .mv (.t 9)⟩,
    ⟨(some 22), none, .call 24 [(.t 20), (.t 21), (.c (.int .i64 1))]⟩])
  (.block 2 (.seq (.reg [⟨(some 64), none, .mv (.t 8)⟩,
    ⟨(some 65), none, .idx (.t 64) (.c (.int .i64 0))⟩,
    ⟨(some 66), none, .bin .eql (.t 65) (.c (.int .u8 38))⟩,
    ⟨(some 63), none, .mv (.t 66)⟩])
  (.cond (.t 63) (.reg [⟨(some 67), none, .mv (.t 0)⟩,
    ⟨(some 68), none, .call 68 [(.t 67)]⟩,
    ⟨(some 69), none, .call 14 [(.t 7), (.t 68)]⟩])
  (.seq (.reg [⟨(some 71), none, .mv (.t 0)⟩,
    ⟨(some 72), none, .call 20 [(.t 71), (.c (.str [60, 33, 91, 67, 68, 65, 84, 65, 91]))]⟩,
    ⟨(some 70), none, .mv (.t 72)⟩])
  (.cond (.t 70) (.reg [⟨(some 73), none, .mv (.t 0)⟩,
    ⟨(some 74), none, .call 21 [(.t 73), (.c (.str [93, 93, 62]))]⟩,
    ⟨(some 75), none, .call 14 [(.t 7), (.t 74)]⟩])
  (.seq (.reg [⟨(some 77), none, .mv (.t 0)⟩,
    ⟨(some 78), none, .call 20 [(.t 77), (.c (.str [60, 33, 45, 45]))]⟩,
    ⟨(some 76), none, .mv (.t 78)⟩])
  (.cond (.t 76) (.reg [⟨(some 79), none, .mv (.t 0)⟩,
    ⟨(some 80), none, .call 21 [(.t 79), (.c (.str [45, 45, 62]))]⟩])
  (.seq (.reg [⟨(some 82), none, .mv (.t 8)⟩,
    ⟨(some 83), none, .idx (.t 82) (.c (.int .i64 0))⟩,
    ⟨(some 84), none, .bin .neq (.t 83) (.c (.int .u8 60))⟩,
    ⟨(some 81), none, .mv (.t 84)⟩])
  (.cond (.t 81) (.seq (.reg [⟨(some 85), none, .mv (.t 8)⟩,
    ⟨(some 86), none, .idx (.t 85) (.c (.int .i64 0))⟩,
    ⟨(some 87), none, .call 56 [(.t 7), (.t 86)]⟩])
  (.reg [⟨(some 88), none, .mv (.t 0)⟩,
    ⟨(some 89), none, .nilc (.t 88)⟩,
    ⟨(some 90), none, .fadr 1 (.t 89)⟩,
    ⟨(some 91), none, .ld false 1 (.t 90)⟩,
    ⟨(some 92), none, .bin .add (.t 91) (.c (.int .i64 1))⟩,
    ⟨(some 93), none, .nilc (.t 88)⟩,
    ⟨(some 94), none, .fadr 1 (.t 93)⟩,
    ⟨none, none, .st 1 (.t 94) (.t 92)⟩]))
  (.seq (.reg [⟨(some 23), none, .mv (.t 8)⟩,
    ⟨(some 24), none, .len true (.t 23)⟩,
    ⟨(some 25), none, .bin .gtr (.t 24) (.c (.int .i64 1))⟩,
    ⟨(some 26), none, .mv (.t 25)⟩,
    ⟨(some 27), some (26, true), .mv (.t 8)⟩,
    ⟨(some 28), some (26, true), .idx (.t 27) (.c (.int .i64 1))⟩,
    ⟨(some 29), some (26, true), .call 43 [(.t 28)]⟩,
    ⟨(some 30), none, .pick (.t 26) (.t 29) (.c (.bool false))⟩,
    ⟨(some 31), none, .mv (.t 9)⟩,
    ⟨(some 32), none, .call 24 [(.t 30), (.t 31), (.c (.int .i64 3))]⟩])
  (.seq (.reg [⟨(some 33), none, .mv (.t 2)⟩,
    ⟨(some 34), none, .bin .lss (.t 33) (.c (.int .i64 12))⟩,
    ⟨(some 35), none, .mv (.t 9)⟩,
    ⟨(some 36), none, .call 24 [(.t 34), (.t 35), (.c (.int .i64 9))]⟩])
  (.seq (.reg [⟨(some 37), none, .mv (.t 1)⟩,
    ⟨(some 38), none, .nilc (.t 37)⟩,
    ⟨(some 39), none, .fadr 4 (.t 38)⟩,
    ⟨(some 40), none, .ld false 1 (.t 39)⟩,
    ⟨(some 41), none, .len false (.t 40)⟩,
    ⟨(some 42), none, .bin .lss (.t 41) (.c (.int .i64 200))⟩,
    ⟨(some 43), none, .mv (.t 9)⟩,
    ⟨(some 44), none, .call 24 [(.t 42), (.t 43), (.c (.int .i64 4))]⟩])
  (.draw [⟨(some 45), none, .mv (.t 1)⟩,
    ⟨(some 46), none, .nilc (.t 45)⟩,
    ⟨(some 47), none, .fadr 4 (.t 46)⟩,
    ⟨(some 48), none, .ld false 1 (.t 47)⟩,
    ⟨(some 49), none, .mv (.t 0)⟩,
    ⟨(some 50), none, .mv (.t 1)⟩,
    ⟨(some 51), none, .nilc (.t 50)⟩,
    ⟨(some 52), none, .fadr 0 (.t 51)⟩,
    ⟨(some 53), none, .ld false 1 (.t 52)⟩,
    ⟨(some 54), none, .mv (.t 2)⟩,
    ⟨(some 55), none, .bin .add (.t 54) (.c (.int .i64 1))⟩,
    ⟨(some 56), none, .call 23 [(.t 49), (.t 53), (.t 55)]⟩,
    ⟨(some 57), none, .len false (.t 48)⟩,
    ⟨(some 58), none, .bsl 24 1 5 [(.int .i64 0), (.str []), (.str []), (.bool false), .nils] [(0, 5, (.c (.agg [(.int .i64 0), (.str []), (.str []), (.bool false), .nils])))]⟩,
    ⟨(some 59), none, .app 24 5 72 (.t 48) (.t 58)⟩,
    ⟨(some 60), none, .iadr 5 (.t 59) (.t 57)⟩,
    ⟨none, none, .st 5 (.t 60) (.t 56)⟩,
    ⟨(some 61), none, .nilc (.t 45)⟩,
    ⟨(some 62), none, .fadr 4 (.t 61)⟩,
    ⟨none, none, .st 1 (.t 62) (.t 59)⟩] [[], [0], [1], [2], [], [], [5], [6], [7], [], [9], [4, 8, 10], [3], [], [3, 13, 11, 0, 1, 2, 3, 4, 5, 6, 7, 8, 9, 10, 11, 12, 13], [14, 12, 0, 1, 2, 3, 4, 5, 6, 7, 8, 9, 10, 11, 12, 13, 14], [15, 11, 14, 0, 1, 2, 3, 4, 5, 6, 7, 8, 9, 10, 11, 12, 13, 14], [0, 0, 1, 2, 3, 4, 5, 6, 7, 8, 9, 10, 11, 12, 13, 14], [17, 0, 1, 2, 3, 4, 5, 6, 7, 8, 9, 10, 11, 12, 13, 14], [18, 14, 14, 0, 1, 2, 3, 4, 5, 6, 7, 8, 9, 10, 11, 12, 13, 14]])))))))))))))))))))
  (.seq (.reg [⟨(some 95), none, .call 17 [(.t 7)]⟩,
    ⟨(some 6), none, .mv (.t 95)⟩])
  .ret)))), [.tmp 6]⟩
theorem cF45 : cFn Go.Proofs.Tryd.prog 45 = some F45 := by kernel_rfl
variable {G : Gl}

/-! Reading goes on. -/
theorem prefix_le {t s : List UInt8} {i : Nat} (h : List.isPrefixOf t (s.drop i) = true) (ht : t ≠ []) : i + t.length ≤ s.length := by
  have := (List.isPrefixOf_iff_prefix.1 h).length_le
  have h0 : 0 < t.length := List.length_pos_iff.2 ht
  rw [List.length_drop] at this
  omega
theorem uptoF_prog {s t : List UInt8} {i : Nat} {x : List UInt8} {j : Nat} (h : uptoF s t i = .ok (x, j)) (hi : i ≤ s.length) : i + t.length ≤ j ∧ j ≤ s.length := by
  unfold uptoF at h
  cases hc : cutO t (s.drop i) with
  | none => rw [hc] at h; cases h
  | some p =>
    rw [hc] at h
    simp only [Except.ok.injEq, Prod.mk.injEq] at h
    obtain ⟨rfl, rfl⟩ := h
    have := congrArg List.length (cutO_spec t _ p.1 p.2 hc)
    simp only [List.length_drop, List.length_append] at this
    omega
theorem bif_ok {α ε : Type} {b : Bool} {e : ε} {x : Except ε α} {y : α} (h : (bif b then .error e else x) = .ok y) : b = false ∧ x = .ok y := by
  cases b
  · exact ⟨rfl, h⟩
  · cases h
theorem entityF_prog {s : List UInt8} {i : Nat} {x : List UInt8} {j : Nat} (h : entityF s i = .ok (x, j)) : i < j ∧ j ≤ s.length := by
  unfold entityF at h
  cases hf : ents.find? (fun p => p.1.isPrefixOf (s.drop i)) with
  | some p =>
    rw [hf] at h
    simp only [Except.ok.injEq, Prod.mk.injEq] at h
    obtain ⟨rfl, rfl⟩ := h
    have h1 := List.find?_some hf
    have h2 := List.mem_of_find?_eq_some hf
    have hne : p.1 ≠ [] := by
      simp only [ents, List.mem_cons, List.not_mem_nil, or_false] at h2
      rcases h2 with rfl | rfl | rfl | rfl | rfl <;> simp
    have := prefix_le h1 hne
    have h0 : 0 < p.1.length := List.length_pos_iff.2 hne
    omega
  | none =>
    rw [hf] at h
    dsimp only at h
    obtain ⟨e1, h⟩ := bif_ok h
    obtain ⟨e2, h⟩ := bif_ok h
    obtain ⟨_, h⟩ := bif_ok h
    simp only [Except.ok.injEq, Prod.mk.injEq] at h
    obtain ⟨_, rfl⟩ := h
    rw [Bool.not_eq_false', Bool.and_eq_true] at e2
    have := prefix_le e2.2 (by simp)
    simp only [List.length_singleton] at this
    omega

theorem withinF_prog {s : List UInt8} {kid : Nat → RES (El × Nat)} {more : Bool} (hk : ∀ i x j, i ≤ s.length → kid i = .ok (x, j) → i < j ∧ j ≤ s.length ∧ fits x) : ∀ (f i : Nat) (b : List UInt8) (ks : List El) (t : List UInt8) (ks' : List El) (m : Nat),
    withinF s kid more f i b ks = .ok (t, ks', m) → i ≤ s.length → fitss ks → ks.length ≤ 200 → i + 2 ≤ m ∧ m ≤ s.length ∧ fitss ks' ∧ ks'.length ≤ 200
  | 0, i, b, ks, t, ks', m, h, _, _, _ => by simp [withinF] at h
  | f + 1, i, b, ks, t, ks', m, h, hi, hf, hl => by
    rw [withinF] at h
    cases e1 : List.isPrefixOf [60, 47] (s.drop i)
    case true =>
      rw [e1] at h
      simp only [cond_true, Except.ok.injEq, Prod.mk.injEq] at h
      obtain ⟨_, rfl, rfl⟩ := h
      have := prefix_le e1 (by simp)
      exact ⟨Nat.le_refl _, this, hf, hl⟩
    rw [e1, cond_false] at h
    cases hd : s.drop i with
    | nil => rw [hd] at h; cases h
    | cons c l =>
      have hlt : i < s.length := by
        have := congrArg List.length hd
        simp only [List.length_drop, List.length_cons] at this
        omega
      rw [hd] at h
      dsimp only at h
      cases e2 : c == 38
      case true =>
        rw [e2, cond_true] at h
        cases he : entityF s i with
        | error e => rw [he] at h; cases h
        | ok p =>
          obtain ⟨x, j⟩ := p
          rw [he] at h
          have hp := entityF_prog he
          obtain ⟨a1, a2⟩ := withinF_prog hk f j _ _ _ _ _ h hp.2 hf hl
          exact ⟨by omega, a2⟩
      rw [e2, cond_false] at h
      cases e3 : List.isPrefixOf rawM (c :: l)
      case true =>
        rw [e3, cond_true] at h
        have hpl := prefix_le (t := rawM) (s := s) (i := i) (by rw [hd]; exact e3) (by simp [rawM])
        cases he : uptoF s rawEnd (i + 9) with
        | error e => rw [he] at h; cases h
        | ok p =>
          obtain ⟨x, j⟩ := p
          rw [he] at h
          have hp := uptoF_prog he hpl
          obtain ⟨a1, a2⟩ := withinF_prog hk f j _ _ _ _ _ h hp.2 hf hl
          exact ⟨by omega, a2⟩
      rw [e3, cond_false] at h
      cases e4 : List.isPrefixOf remM (c :: l)
      case true =>
        rw [e4, cond_true] at h
        have hpl := prefix_le (t := remM) (s := s) (i := i) (by rw [hd]; exact e4) (by simp [remM])
        cases he : uptoF s remEnd (i + 4) with
        | error e => rw [he] at h; cases h
        | ok p =>
          obtain ⟨x, j⟩ := p
          rw [he] at h
          have hp := uptoF_prog he hpl
          obtain ⟨a1, a2⟩ := withinF_prog hk f j _ _ _ _ _ h hp.2 hf hl
          exact ⟨by omega, a2⟩
      rw [e4, cond_false] at h
      cases e5 : c == 60
      case false =>
        rw [e5] at h
        obtain ⟨a1, a2⟩ := withinF_prog hk f (i + 1) _ _ _ _ _ h (by omega) hf hl
        exact ⟨by omega, a2⟩
      rw [e5, Bool.not_true, cond_false] at h
      obtain ⟨_, h⟩ := bif_ok h
      obtain ⟨_, h⟩ := bif_ok h
      obtain ⟨e6, h⟩ := bif_ok h
      rw [Bool.not_eq_false', decide_eq_true_eq] at e6
      cases he : kid i with
      | error e => rw [he] at h; cases h
      | ok p =>
        obtain ⟨x, j⟩ := p
        rw [he] at h
        have hp := hk i x j hi he
        obtain ⟨a1, a2⟩ := withinF_prog hk f j _ _ _ _ _ h hp.2.1 (fitss_of _ (fun k hk' => by
          rcases List.mem_append.1 hk' with h' | h'
          · exact fitss_mem ks hf k h'
          · rw [List.mem_singleton.1 h']; exact hp.2.2)) (by simp; omega)
        exact ⟨by omega, a2⟩

/-! An element's variable, its kids growing. -/
theorem BLD.rem {H0 H : Hp} {b k : Nat} {u : Bool} {bs : List UInt8} {o : DO} (h : BLD H0 b u bs H) (hk : H0 k = some o) : BLD (H0.upd k none) b u bs (H.upd k none) := by
  have hkb : k ≠ b := fun e => by rw [e, h.free] at hk; cases hk
  cases h with
  | mt h =>
    rw [Hp.upd_comm (Ne.symm hkb)]
    exact .mt u (by rw [Hp.upd_ne (Ne.symm hkb)]; exact h)
  | on g bs h1 h2 h3 h4 =>
    have hkg : k ≠ g := fun e => by rw [e, h2] at hk; cases hk
    rw [Hp.upd_comm (Ne.symm hkg), Hp.upd_comm (Ne.symm hkb)]
    exact .on u g bs (by rw [Hp.upd_ne (Ne.symm hkb)]; exact h1) (by rw [Hp.upd_ne (Ne.symm hkg)]; exact h2) h3 h4

inductive WST (H0 : Hp) (be : Nat) (p4 : List DV) : List El → DV → Hp → Prop
  | nil : WST H0 be p4 [] .nils (H0.upd be (some (.cells (p4 ++ [.nils]) elT)))
  | on (g cap : Nat) (rest : List DV) (ks : List El) : H0 g = none → g ≠ be → (elsC ks ++ rest).length = cap * 5 → ks.length ≤ cap →
      WST H0 be p4 ks (.win g 0 ks.length cap) ((H0.upd be (some (.cells (p4 ++ [.win g 0 ks.length cap]) elT))).upd g (some (.cells (elsC ks ++ rest) elT)))

theorem WST.sub {H0 A : Hp} {be : Nat} {p4 : List DV} {ks : List El} {K : DV} (h : WST H0 be p4 ks K A) (hbe : H0 be = none) : SubH H0 A := by
  cases h with
  | nil => exact SubH.fresh hbe
  | on g cap rest ks h1 h2 h3 h4 => exact (SubH.fresh hbe).trans (SubH.fresh (by rw [Hp.upd_ne h2]; exact h1))
theorem WST.var {H0 A : Hp} {be : Nat} {p4 : List DV} {ks : List El} {K : DV} (h : WST H0 be p4 ks K A) : A be = some (.cells (p4 ++ [K]) elT) := by
  cases h with
  | nil => exact Hp.upd_same
  | on g cap rest ks h1 h2 h3 h4 => rw [Hp.upd_ne (Ne.symm h2)]; exact Hp.upd_same
theorem WST.upd {H0 A : Hp} {be b : Nat} {p4 : List DV} {ks : List El} {K : DV} {o o' : DO} (h : WST H0 be p4 ks K A) (hbe : H0 be = none) (hb : H0 b = some o) : WST (H0.upd b (some o')) be p4 ks K (A.upd b (some o')) := by
  have hbb : b ≠ be := fun e => by rw [e, hbe] at hb; cases hb
  cases h with
  | nil => rw [Hp.upd_comm (Ne.symm hbb)]; exact .nil
  | on g cap rest ks h1 h2 h3 h4 =>
    have hbg : b ≠ g := fun e => by rw [e, h1] at hb; cases hb
    rw [Hp.upd_comm (Ne.symm hbg), Hp.upd_comm (Ne.symm hbb)]
    exact .on g cap rest ks (by rw [Hp.upd_ne (Ne.symm hbg)]; exact h1) h2 h3 h4
theorem WST.len {H0 A : Hp} {be : Nat} {p4 : List DV} {ks : List El} {K : DV} (h : WST H0 be p4 ks K A) : lenD false K = some (.int .i64 ks.length) := by cases h <;> rfl

/-- All that 'within' holds: the reader's place, the kids, the text. -/
structure WS (H0 : Hp) (s : List UInt8) (ty : TypeId) (b be bb : Nat) (p4 : List DV) (i : Nat) (ks : List El) (txt : List UInt8) (H' : Hp) : Prop where
  hb : b ≠ be
  hbe : H0 be = none
  st : ∃ K A u, WST (H0.upd b (rd s i ty)) be p4 ks K A ∧ BLD A bb u txt H'

section
variable {H0 H' : Hp} {s : List UInt8} {ty : TypeId} {b be bb i : Nat} {p4 : List DV} {ks : List El} {txt : List UInt8}
theorem WS.be0 (h : WS H0 s ty b be bb p4 i ks txt H') : (H0.upd b (rd s i ty)) be = none := by rw [Hp.upd_ne (Ne.symm h.hb)]; exact h.hbe
theorem WS.sub (h : WS H0 s ty b be bb p4 i ks txt H') : SubH (H0.upd b (rd s i ty)) H' := by
  obtain ⟨K, A, u, h1, h2⟩ := h.st
  exact (h1.sub h.be0).trans h2.sub
theorem WS.rd (h : WS H0 s ty b be bb p4 i ks txt H') : H' b = rd s i ty := h.sub b _ Hp.upd_same
theorem WS.upd (h : WS H0 s ty b be bb p4 i ks txt H') (j : Nat) : WS H0 s ty b be bb p4 j ks txt (H'.upd b (Go.Run.Tryd.rd s j ty)) := by
  obtain ⟨K, A, u, h1, h2⟩ := h.st
  have hb : (H0.upd b (Go.Run.Tryd.rd s i ty)) b = some (.cells [.str s, .int .i64 i] ty) := Hp.upd_same
  have h3 := h1.upd (o' := .cells [.str s, .int .i64 j] ty) h.be0 hb
  rw [Hp.upd_upd] at h3
  exact ⟨h.hb, h.hbe, K, _, u, h3, h2.upd (h1.sub h.be0 b _ hb)⟩
theorem WS.bld (h : WS H0 s ty b be bb p4 i ks txt H') : ∃ A u, BLD A bb u txt H' ∧ ∀ u' txt' H'', BLD A bb u' txt' H'' → WS H0 s ty b be bb p4 i ks txt' H'' := by
  obtain ⟨K, A, u, h1, h2⟩ := h.st
  exact ⟨A, u, h2, fun u' txt' H'' h3 => ⟨h.hb, h.hbe, K, A, u', h1, h3⟩⟩
theorem WS.var (h : WS H0 s ty b be bb p4 i ks txt H') : ∃ K, H' be = some (.cells (p4 ++ [K]) elT) ∧ lenD false K = some (.int .i64 ks.length) := by
  obtain ⟨K, A, u, h1, h2⟩ := h.st
  exact ⟨K, h2.look h1.var, h1.len⟩
end
end Go.Run.Tryd
/- A kid is read and put to the others. -/
namespace Go.Run.Tryd
open Go Go.Run Go.RowKit
variable {G : Gl}

def wLoop (c : CC) : CC := ccIn (ccIn (ccFst (ccSnd (ccSnd c))))
def wRest (c : CC) : CC := ccSnd (ccSnd (ccSnd c))
def wSw (c : CC) : CC := ccIn (ccSnd (ccSnd (ccIn (ccSnd (wLoop c)))))
def wElse (c : CC) : CC := ccElse (ccSnd (ccElse (ccSnd (ccElse (ccSnd (ccElse (ccSnd (wSw c))))))))
def wDraw (c : CC) : CC := ccSnd (ccSnd (ccSnd (wElse c)))

def Z5 : List DV := [.int .i64 0, .str [], .str [], .bool false, .nils]

theorem splice_kid {ks : List El} {x : El} {rest : List DV} : spliceL (0 + ((ks.length : Nat) : Int).toNat * 5) (elC x) (elsC ks ++ Z5 ++ rest) = elsC (ks ++ [x]) ++ rest := by
  have h1 : 0 + ((ks.length : Nat) : Int).toNat * 5 = (elsC ks).length := by rw [elsC_length]; simp
  have h2 : (elC x).length = Z5.length := by rw [elC_length]; rfl
  have h3 : elsC ks ++ Z5 ++ rest = elsC ks ++ (Z5 ++ rest) := List.append_assoc _ _ _
  rw [h1, h3, spliceL, List.take_left, ← List.drop_drop, List.drop_left, h2, List.drop_left, elsC_append]
  simp [elsC]

/-- One kid more, however the two writes come. -/
theorem WS.kid {H0 B Hf : Hp} {s : List UInt8} {ty : TypeId} {b be bb j g cap : Nat} {p4 : List DV} {K : DV} {ks : List El} {x : El} {txt : List UInt8} {u : Bool} {rest : List DV} (hb : b ≠ be) (hbe : H0 be = none)
    (hB : BLD ((H0.upd b (Go.Run.Tryd.rd s j ty)).upd be (some (.cells (p4 ++ [K]) elT))) bb u txt B) (hg : B g = none) (hcap : ks.length + 1 ≤ cap) (hlen : (elsC ks ++ Z5 ++ rest).length = cap * 5)
    (hf : Hf = ((B.upd g (some (.cells (elsC ks ++ Z5 ++ rest) elT))).upd g (some (.cells (elsC (ks ++ [x]) ++ rest) elT))).upd be (some (.cells (p4 ++ [.win g 0 (ks.length + 1) cap]) elT))) :
    WS H0 s ty b be bb p4 j (ks ++ [x]) txt Hf := by
  have hg1 := hB.base hg
  have hgb : g ≠ be := fun e => by rw [e, Hp.upd_same] at hg1; cases hg1
  rw [Hp.upd_ne hgb] at hg1
  have h1 := hB.put (o := some (.cells (elsC ks ++ Z5 ++ rest) elT)) hg
  have h2 := h1.upd (k := g) (o' := .cells (elsC (ks ++ [x]) ++ rest) elT) Hp.upd_same
  have h3 := h2.upd (k := be) (o := .cells (p4 ++ [K]) elT) (o' := .cells (p4 ++ [.win g 0 (ks.length + 1) cap]) elT) (by rw [Hp.upd_ne (Ne.symm hgb), Hp.upd_ne (Ne.symm hgb)]; exact Hp.upd_same)
  rw [← hf, Hp.upd_upd, Hp.upd_comm hgb, Hp.upd_upd] at h3
  refine ⟨hb, hbe, .win g 0 (ks.length + 1) cap, _, u, ?_, h3⟩
  have hn : (ks ++ [x]).length = ks.length + 1 := by simp
  have h4 := WST.on (H0 := H0.upd b (Go.Run.Tryd.rd s j ty)) (be := be) (p4 := p4) g cap rest (ks ++ [x]) hg1 hgb (by
    rw [← hlen, List.length_append, List.length_append, List.length_append, elsC_length, elsC_length, hn]
    show _ = ks.length * 5 + 5 + rest.length
    omega) (by rw [hn]; exact hcap)
  rw [hn] at h4
  exact h4

theorem kid_reg {H0 H' : Hp} {s : List UInt8} {ty : TypeId} {b be bb i deep : Nat} {pg : Int} {n t0 : List UInt8} {o0 : Bool} {ks : List El} {txt : List UInt8} {kid : Nat → RES (El × Nat)} {Q : EX → Fr → Hp → Prop}
    (hS : WS H0 s ty b be bb [.int .i64 pg, .str n, .str t0, .bool o0] i ks txt H') (hd : deep ≤ 12) (hl : ks.length ≤ 200)
    (hkid : CALL Go.Proofs.Tryd.prog G 23 [.ptr b 0, .int .i64 pg, .int .i64 ((deep + 1 : Nat) : Int)] H' (Kr1 (kid i) (fun v => .agg (elC v.1)) (·.2) s b ty H') (Kp1 (kid i) s b ty H'))
    (hp : ∀ e j fr', kid i = .error e → j ≤ s.length → Q (.panic (fault e.1 e.2)) fr' (H'.upd b (rd s j ty)))
    (hk : ∀ x j H2, kid i = .ok (x, j) → WS H0 s ty b be bb [.int .i64 pg, .str n, .str t0, .bool o0] j (ks ++ [x]) txt H2 → ∀ fr', Agrees fr' [(0, .ptr b 0), (1, .ptr be 0), (2, .int .i64 deep), (7, .ptr bb 0)] → Q .normal fr' H2) :
    AC Go.Proofs.Tryd.prog G none F45.N (wDraw F45.c) Q (frOf [(0, .ptr b 0), (1, .ptr be 0), (2, .int .i64 deep), (7, .ptr bb 0)]) H' := by
  obtain ⟨K, A, u, hA, hB⟩ := hS.st
  have hne := hS.hb
  have hvar := hA.var
  have hbev : H' be = some (.cells [.int .i64 pg, .str n, .str t0, .bool o0, K] elT) := hB.look hvar
  refine AC.drawV [11, 13, 14, 16, 19] (by kernel_rfl) ?_
  first | refine VD.z0 0 ?_ | refine VD.z1 0 ?_ | refine VD.z2 0 ?_ | refine VD.z3 0 ?_ | refine VD.z4 0 ?_ | refine VD.z5 0 ?_
  first | refine VD.z0 1 ?_ | refine VD.z1 1 ?_ | refine VD.z2 1 ?_ | refine VD.z3 1 ?_ | refine VD.z4 1 ?_ | refine VD.z5 1 ?_
  first | refine VD.z0 2 ?_ | refine VD.z1 2 ?_ | refine VD.z2 2 ?_ | refine VD.z3 2 ?_ | refine VD.z4 2 ?_ | refine VD.z5 2 ?_
  refine VD.pv 3 rfl rfl (evP_ld (d := K) (by conv => lhs; whnf) hbev rfl) ?_
  first | refine VD.z0 4 ?_ | refine VD.z1 4 ?_ | refine VD.z2 4 ?_ | refine VD.z3 4 ?_ | refine VD.z4 4 ?_ | refine VD.z5 4 ?_
  first | refine VD.z0 5 ?_ | refine VD.z1 5 ?_ | refine VD.z2 5 ?_ | refine VD.z3 5 ?_ | refine VD.z4 5 ?_ | refine VD.z5 5 ?_
  first | refine VD.z0 6 ?_ | refine VD.z1 6 ?_ | refine VD.z2 6 ?_ | refine VD.z3 6 ?_ | refine VD.z4 6 ?_ | refine VD.z5 6 ?_
  first | refine VD.z0 7 ?_ | refine VD.z1 7 ?_ | refine VD.z2 7 ?_ | refine VD.z3 7 ?_ | refine VD.z4 7 ?_ | refine VD.z5 7 ?_
  refine VD.pv 8 rfl rfl (evP_ld (d := .int .i64 pg) (by conv => lhs; whnf) hbev rfl) ?_
  first | refine VD.z0 9 ?_ | refine VD.z1 9 ?_ | refine VD.z2 9 ?_ | refine VD.z3 9 ?_ | refine VD.z4 9 ?_ | refine VD.z5 9 ?_
  refine VD.pv 10 rfl rfl (evP_addI (a := deep) (b := 1) (by conv => lhs; whnf) (by conv => lhs; whnf) (by omega)) ?_
  refine VD.pv 12 rfl rfl (d := .int .i64 ks.length) (show lenD false K = _ from hA.len) ?_
  have bslE : ∀ (fr : Fr) (HH : Hp), EF Go.Proofs.Tryd.prog G none F45.N ⟨some 58, none, .bsl 24 1 5 Z5 [(0, 5, (.c (.agg Z5)))]⟩ (fun d H2 => (∃ g, d = .lst Z5 1 5 (some (g, 0))) ∧ H2 = HH) (fun _ _ => False) fr HH :=
    fun fr HH fr1 l Q hs k _ => RG.st (ST.bsl (cs := Z5) rfl fun g hg => RG.drop (SubH.fresh hg) (k _ _ ⟨⟨g, rfl⟩, rfl⟩))
  have hE : ∀ j, ∃ B, BLD ((H0.upd b (rd s j ty)).upd be (some (.cells ([.int .i64 pg, .str n, .str t0, .bool o0] ++ [K]) elT))) bb u txt B ∧ ∀ (fr : Fr) (g0 : Nat), fr 48 = K → fr 58 = .lst Z5 1 5 (some (g0, 0)) →
      EF Go.Proofs.Tryd.prog G none F45.N ⟨some 59, none, .app 24 5 72 (.t 48) (.t 58)⟩ (fun d H3 => ∃ g cap rest, d = .win g 0 (ks.length + 1) cap ∧ ks.length + 1 ≤ cap ∧ (elsC ks ++ Z5 ++ rest).length = cap * 5 ∧ B g = none ∧ H3 = B.upd g (some (.cells (elsC ks ++ Z5 ++ rest) elT))) (fun _ _ => False) fr (H'.upd b (rd s j ty)) := by
    intro j
    have hb0 : (H0.upd b (rd s i ty)) b = some (.cells [.str s, .int .i64 i] ty) := Hp.upd_same
    have hA2 := hA.upd (o' := .cells [.str s, .int .i64 j] ty) hS.be0 hb0
    rw [Hp.upd_upd] at hA2
    have hB2 := hB.upd (k := b) (o' := .cells [.str s, .int .i64 j] ty) (hA.sub hS.be0 b _ hb0)
    have hrd : rd s j ty = some (.cells [.str s, .int .i64 j] ty) := rfl
    rw [← hrd] at hA2 hB2
    generalize A.upd b (rd s j ty) = A2 at hA2 hB2
    generalize H'.upd b (rd s j ty) = HH at hB2 ⊢
    clear hbev hvar hB hA
    cases hA2 with
    | nil =>
      refine ⟨HH, hB2, fun fr g0 h48 h58 fr1 l Q hs k _ => RG.st (ST.app_w0 ((hs 48 (by decide)).trans h48) (ys := Z5) (m := 1) (by show srcD _ 5 (fr1 58) = _; rw [hs 58 (by decide), h58]; rfl) (by omega) (by decide) (fun g cap rest h1 h2 h3 => k _ _ ⟨g, cap, rest, rfl, h2, h3, h1, rfl⟩))⟩
    | on g1 cap1 rest1 _ a1 a2 a3 a4 =>
      have hg1 : HH g1 = some (.cells (elsC ks ++ rest1) elT) := hB2.look Hp.upd_same
      have hB3 := hB2.rem (k := g1) Hp.upd_same
      have hXX : (((H0.upd b (rd s j ty)).upd be (some (.cells ([.int .i64 pg, .str n, .str t0, .bool o0] ++ [.win g1 0 ks.length cap1]) elT))).upd g1 (some (.cells (elsC ks ++ rest1) elT))).upd g1 none = (H0.upd b (rd s j ty)).upd be (some (.cells ([.int .i64 pg, .str n, .str t0, .bool o0] ++ [.win g1 0 ks.length cap1]) elT)) := by
        rw [Hp.upd_upd]
        exact Hp.upd_id (by rw [Hp.upd_ne a2]; exact a1)
      rw [hXX] at hB3
      refine ⟨_, hB3, fun fr g0 h48 h58 fr1 l Q hs k _ => RG.st (ST.app_w ((hs 48 (by decide)).trans h48) hg1 (elsC_length ks) a3 (ys := Z5) (m := 1) (by show srcD _ 5 (fr1 58) = _; rw [hs 58 (by decide), h58]; rfl) (by omega) (fun g cap rest h1 h2 h3 => k _ _ ⟨g, cap, rest, rfl, h2, h3, ?_, rfl⟩))⟩
      rcases h1 with rfl | h1
      · exact Hp.upd_same
      · by_cases e : g = g1
        · rw [e]; exact Hp.upd_same
        · rw [Hp.upd_ne e]; exact h1
  refine VD.pe2 11 13 (by decide) rfl rfl rfl (EF.call rfl hkid) (bslE _ _) (fun d fr' H2 ⟨e, j, k1, k2, k3, k4⟩ => by rw [k2, k4]; exact hp e j fr' k1 k3) (fun _ _ _ h => h.elim) (fun d H2 ⟨⟨x, j⟩, e1, e2, e3⟩ => ⟨?_, ?_⟩) (fun d H2 ⟨⟨g0, e1⟩, e2⟩ => ⟨?_, ?_⟩)
  · subst e2; subst e3
    exact (by (repeat (refine stabAll_cons rfl (by first | exact Stab.ld rfl (by first | assumption | exact Hp.upd_same | (rw [Hp.upd_ne (by first | assumption | omega)]; first | assumption | exact Hp.upd_same | (rw [Hp.upd_ne (by first | assumption | omega)]; first | assumption | exact Hp.upd_same))) rfl rfl | exact Stab.of rfl rfl | exact Stab.of (d := .int .i64 ks.length) hA.len rfl | exact Stab.of (evP_addI (a := deep) (b := 1) (by conv => lhs; whnf) (by conv => lhs; whnf) (by omega)) rfl) ?_)); exact stabAll_nil)
  · subst e2; subst e3
    refine VD.pe 13 rfl rfl (bslE _ _) (fun _ _ _ h => h.elim) (fun d H2 ⟨⟨g0, a1⟩, a2⟩ => ⟨?_, ?_⟩)
    · subst a1; subst a2
      exact (by (repeat (refine stabAll_cons rfl (by first | exact Stab.ld rfl (by first | assumption | exact Hp.upd_same | (rw [Hp.upd_ne (by first | assumption | omega)]; first | assumption | exact Hp.upd_same | (rw [Hp.upd_ne (by first | assumption | omega)]; first | assumption | exact Hp.upd_same))) rfl rfl | exact Stab.of rfl rfl | exact Stab.of (d := .int .i64 ks.length) hA.len rfl | exact Stab.of (evP_addI (a := deep) (b := 1) (by conv => lhs; whnf) (by conv => lhs; whnf) (by omega)) rfl) ?_)); exact stabAll_nil)
    · subst a1; subst a2
      obtain ⟨B, hBB, hE14'⟩ := hE j
      have hE14 := fun fr h1 h2 => hE14' fr g0 h1 h2
      refine VD.pe 14 rfl rfl (hE14 _ rfl rfl) (fun _ _ _ h => h.elim) (fun d H3 ⟨g, cap, rest, f1, f2, f3, f4, f5⟩ => ⟨stabAll_nil, ?_⟩)
      subst f1
      have hgB := hBB.base f4
      have hgbe : g ≠ be := fun e => by rw [e, Hp.upd_same] at hgB; cases hgB
      have hH3g : H3 g = some (.cells (elsC ks ++ Z5 ++ rest) elT) := by rw [f5]; exact Hp.upd_same
      have hH3be : H3 be = some (.cells [.int .i64 pg, .str n, .str t0, .bool o0, K] elT) := by rw [f5, Hp.upd_ne (Ne.symm hgbe)]; exact hBB.look Hp.upd_same
      have hidx : iadrD 5 (.win g 0 (ks.length + 1) cap) (.int .i64 ks.length) = some (.ptr g (0 + ((ks.length : Nat) : Int).toNat * 5)) := if_pos (by omega)
      refine VD.pv 15 rfl rfl (d := .ptr g (0 + ((ks.length : Nat) : Int).toNat * 5)) hidx ?_
      refine VD.pv 17 rfl rfl (by conv => lhs; whnf) ?_
      refine VD.pv 18 rfl rfl (by conv => lhs; whnf) ?_
      have hle : 0 + ((ks.length : Nat) : Int).toNat * 5 + 5 ≤ (elsC ks ++ Z5 ++ rest).length := by
        rw [f3, Int.toNat_natCast]; omega
      have e16 : ∀ (fr : Fr) (HH : Hp), HH g = some (.cells (elsC ks ++ Z5 ++ rest) elT) → fr 60 = .ptr g (0 + ((ks.length : Nat) : Int).toNat * 5) → fr 56 = .agg (elC x) →
          EF Go.Proofs.Tryd.prog G none F45.N ⟨none, none, .st 5 (.t 60) (.t 56)⟩ (fun d H4 => d = .junk ∧ H4 = HH.upd g (some (.cells (elsC (ks ++ [x]) ++ rest) elT))) (fun _ _ => False) fr HH :=
        fun fr HH h1 h2 h3 fr1 l Q hs k _ => RG.sto (by first | exact trivial | exact rfl) ((hs 60 (by decide)).trans h2) h1 ((hs 56 (by decide)).trans h3) rfl (elC_length x) hle (k _ _ ⟨rfl, by rw [splice_kid]⟩)
      have e19 : ∀ (fr : Fr) (HH : Hp), HH be = some (.cells [.int .i64 pg, .str n, .str t0, .bool o0, K] elT) → fr 62 = .ptr be 4 → fr 59 = .win g 0 (ks.length + 1) cap →
          EF Go.Proofs.Tryd.prog G none F45.N ⟨none, none, .st 1 (.t 62) (.t 59)⟩ (fun d H4 => d = .junk ∧ H4 = HH.upd be (some (.cells ([.int .i64 pg, .str n, .str t0, .bool o0] ++ [.win g 0 (ks.length + 1) cap]) elT))) (fun _ _ => False) fr HH :=
        fun fr HH h1 h2 h3 fr1 l Q hs k _ => RG.sto (by first | exact trivial | exact rfl) ((hs 62 (by decide)).trans h2) h1 ((hs 59 (by decide)).trans h3) rfl rfl (by exact Nat.le_refl _) (k _ _ ⟨rfl, rfl⟩)
      refine VD.pe2 16 19 (by decide) rfl rfl rfl (e16 _ _ hH3g rfl rfl) (e19 _ _ hH3be rfl rfl) (fun _ _ _ h => h.elim) (fun _ _ _ h => h.elim) (fun d H4 ⟨_, f6⟩ => ⟨?_, ?_⟩) (fun d H4 ⟨_, f6⟩ => ⟨?_, ?_⟩)
      · repeat (refine stabAll_cons rfl (by first | exact Stab.of rfl rfl | exact Stab.of hidx rfl) ?_)
        exact stabAll_nil
      · refine VD.pe 19 rfl rfl (e19 _ _ (by rw [f6, Hp.upd_ne (Ne.symm hgbe)]; exact hH3be) rfl rfl) (fun _ _ _ h => h.elim) (fun d H5 ⟨_, f7⟩ => ⟨?_, ?_⟩)
        · repeat (refine stabAll_cons rfl (by first | exact Stab.of rfl rfl | exact Stab.of hidx rfl) ?_)
          exact stabAll_nil
        · refine VD.pd rfl (hk x j H5 e1 (WS.kid hne hS.hbe hBB f4 f2 f3 ?_) _ ⟨rfl, rfl, rfl, rfl, trivial⟩)
          rw [f7, f6, f5]
      · repeat (refine stabAll_cons rfl (by first | exact Stab.of rfl rfl | exact Stab.of hidx rfl) ?_)
        exact stabAll_nil
      · refine VD.pe 16 rfl rfl (e16 _ _ (by rw [f6, Hp.upd_ne hgbe]; exact hH3g) rfl rfl) (fun _ _ _ h => h.elim) (fun d H5 ⟨_, f7⟩ => ⟨?_, ?_⟩)
        · repeat (refine stabAll_cons rfl (by first | exact Stab.of rfl rfl | exact Stab.of hidx rfl) ?_)
          exact stabAll_nil
        · refine VD.pd rfl (hk x j H5 e1 (WS.kid hne hS.hbe hBB f4 f2 f3 ?_) _ ⟨rfl, rfl, rfl, rfl, trivial⟩)
          rw [f7, f6, f5]
          exact Hp.upd_comm (Ne.symm hgbe)
  · subst e1; subst e2
    exact (by (repeat (refine stabAll_cons rfl (by first | exact Stab.ld rfl (by first | assumption | exact Hp.upd_same | (rw [Hp.upd_ne (by first | assumption | omega)]; first | assumption | exact Hp.upd_same | (rw [Hp.upd_ne (by first | assumption | omega)]; first | assumption | exact Hp.upd_same))) rfl rfl | exact Stab.of rfl rfl | exact Stab.of (d := .int .i64 ks.length) hA.len rfl | exact Stab.of (evP_addI (a := deep) (b := 1) (by conv => lhs; whnf) (by conv => lhs; whnf) (by omega)) rfl) ?_)); exact stabAll_nil)
  · subst e1; subst e2
    refine VD.pe 11 rfl rfl (EF.call rfl hkid) (fun d fr' H2 ⟨e, j, k1, k2, k3, k4⟩ => by rw [k2, k4]; exact hp e j fr' k1 k3) (fun d H2 ⟨⟨x, j⟩, e1, e2, e3⟩ => ⟨?_, ?_⟩)
    · subst e2; subst e3
      exact (by (repeat (refine stabAll_cons rfl (by first | exact Stab.ld rfl (by first | assumption | exact Hp.upd_same | (rw [Hp.upd_ne (by first | assumption | omega)]; first | assumption | exact Hp.upd_same | (rw [Hp.upd_ne (by first | assumption | omega)]; first | assumption | exact Hp.upd_same))) rfl rfl | exact Stab.of rfl rfl | exact Stab.of (d := .int .i64 ks.length) hA.len rfl | exact Stab.of (evP_addI (a := deep) (b := 1) (by conv => lhs; whnf) (by conv => lhs; whnf) (by omega)) rfl) ?_)); exact stabAll_nil)
    · subst e2; subst e3
      obtain ⟨B, hBB, hE14'⟩ := hE j
      have hE14 := fun fr h1 h2 => hE14' fr g0 h1 h2
      refine VD.pe 14 rfl rfl (hE14 _ rfl rfl) (fun _ _ _ h => h.elim) (fun d H3 ⟨g, cap, rest, f1, f2, f3, f4, f5⟩ => ⟨stabAll_nil, ?_⟩)
      subst f1
      have hgB := hBB.base f4
      have hgbe : g ≠ be := fun e => by rw [e, Hp.upd_same] at hgB; cases hgB
      have hH3g : H3 g = some (.cells (elsC ks ++ Z5 ++ rest) elT) := by rw [f5]; exact Hp.upd_same
      have hH3be : H3 be = some (.cells [.int .i64 pg, .str n, .str t0, .bool o0, K] elT) := by rw [f5, Hp.upd_ne (Ne.symm hgbe)]; exact hBB.look Hp.upd_same
      have hidx : iadrD 5 (.win g 0 (ks.length + 1) cap) (.int .i64 ks.length) = some (.ptr g (0 + ((ks.length : Nat) : Int).toNat * 5)) := if_pos (by omega)
      refine VD.pv 15 rfl rfl (d := .ptr g (0 + ((ks.length : Nat) : Int).toNat * 5)) hidx ?_
      refine VD.pv 17 rfl rfl (by conv => lhs; whnf) ?_
      refine VD.pv 18 rfl rfl (by conv => lhs; whnf) ?_
      have hle : 0 + ((ks.length : Nat) : Int).toNat * 5 + 5 ≤ (elsC ks ++ Z5 ++ rest).length := by
        rw [f3, Int.toNat_natCast]; omega
      have e16 : ∀ (fr : Fr) (HH : Hp), HH g = some (.cells (elsC ks ++ Z5 ++ rest) elT) → fr 60 = .ptr g (0 + ((ks.length : Nat) : Int).toNat * 5) → fr 56 = .agg (elC x) →
          EF Go.Proofs.Tryd.prog G none F45.N ⟨none, none, .st 5 (.t 60) (.t 56)⟩ (fun d H4 => d = .junk ∧ H4 = HH.upd g (some (.cells (elsC (ks ++ [x]) ++ rest) elT))) (fun _ _ => False) fr HH :=
        fun fr HH h1 h2 h3 fr1 l Q hs k _ => RG.sto (by first | exact trivial | exact rfl) ((hs 60 (by decide)).trans h2) h1 ((hs 56 (by decide)).trans h3) rfl (elC_length x) hle (k _ _ ⟨rfl, by rw [splice_kid]⟩)
      have e19 : ∀ (fr : Fr) (HH : Hp), HH be = some (.cells [.int .i64 pg, .str n, .str t0, .bool o0, K] elT) → fr 62 = .ptr be 4 → fr 59 = .win g 0 (ks.length + 1) cap →
          EF Go.Proofs.Tryd.prog G none F45.N ⟨none, none, .st 1 (.t 62) (.t 59)⟩ (fun d H4 => d = .junk ∧ H4 = HH.upd be (some (.cells ([.int .i64 pg, .str n, .str t0, .bool o0] ++ [.win g 0 (ks.length + 1) cap]) elT))) (fun _ _ => False) fr HH :=
        fun fr HH h1 h2 h3 fr1 l Q hs k _ => RG.sto (by first | exact trivial | exact rfl) ((hs 62 (by decide)).trans h2) h1 ((hs 59 (by decide)).trans h3) rfl rfl (by exact Nat.le_refl _) (k _ _ ⟨rfl, rfl⟩)
      refine VD.pe2 16 19 (by decide) rfl rfl rfl (e16 _ _ hH3g rfl rfl) (e19 _ _ hH3be rfl rfl) (fun _ _ _ h => h.elim) (fun _ _ _ h => h.elim) (fun d H4 ⟨_, f6⟩ => ⟨?_, ?_⟩) (fun d H4 ⟨_, f6⟩ => ⟨?_, ?_⟩)
      · repeat (refine stabAll_cons rfl (by first | exact Stab.of rfl rfl | exact Stab.of hidx rfl) ?_)
        exact stabAll_nil
      · refine VD.pe 19 rfl rfl (e19 _ _ (by rw [f6, Hp.upd_ne (Ne.symm hgbe)]; exact hH3be) rfl rfl) (fun _ _ _ h => h.elim) (fun d H5 ⟨_, f7⟩ => ⟨?_, ?_⟩)
        · repeat (refine stabAll_cons rfl (by first | exact Stab.of rfl rfl | exact Stab.of hidx rfl) ?_)
          exact stabAll_nil
        · refine VD.pd rfl (hk x j H5 e1 (WS.kid hne hS.hbe hBB f4 f2 f3 ?_) _ ⟨rfl, rfl, rfl, rfl, trivial⟩)
          rw [f7, f6, f5]
      · repeat (refine stabAll_cons rfl (by first | exact Stab.of rfl rfl | exact Stab.of hidx rfl) ?_)
        exact stabAll_nil
      · refine VD.pe 16 rfl rfl (e16 _ _ (by rw [f6, Hp.upd_ne hgbe]; exact hH3g) rfl rfl) (fun _ _ _ h => h.elim) (fun d H5 ⟨_, f7⟩ => ⟨?_, ?_⟩)
        · repeat (refine stabAll_cons rfl (by first | exact Stab.of rfl rfl | exact Stab.of hidx rfl) ?_)
          exact stabAll_nil
        · refine VD.pd rfl (hk x j H5 e1 (WS.kid hne hS.hbe hBB f4 f2 f3 ?_) _ ⟨rfl, rfl, rfl, rfl, trivial⟩)
          rw [f7, f6, f5]
          exact Hp.upd_comm (Ne.symm hgbe)
end Go.Run.Tryd
/- What an element has, read. -/
namespace Go.Run.Tryd
open Go Go.Run Go.RowKit
variable {G : Gl}

theorem encode_len (n : Int) : (Utf8.encode n).data.toList.length ≤ 4 := by
  unfold Utf8.encode
  dsimp only
  generalize (if Utf8.valid n then n.toNat else Utf8.runeError) = c
  split
  · simp
  · split
    · simp
    · split <;> simp

theorem entityF_len {s : List UInt8} {i : Nat} {x : List UInt8} {j : Nat} (h : entityF s i = .ok (x, j)) : x.length ≤ 4 := by
  unfold entityF at h
  cases hf : ents.find? (fun p => p.1.isPrefixOf (s.drop i)) with
  | some p =>
    rw [hf] at h
    simp only [Except.ok.injEq, Prod.mk.injEq] at h
    obtain ⟨rfl, rfl⟩ := h
    have h2 := List.mem_of_find?_eq_some hf
    simp only [ents, List.mem_cons, List.not_mem_nil, or_false] at h2
    rcases h2 with rfl | rfl | rfl | rfl | rfl <;> simp
  | none =>
    rw [hf] at h
    dsimp only at h
    obtain ⟨e1, h⟩ := bif_ok h
    obtain ⟨e2, h⟩ := bif_ok h
    obtain ⟨_, h⟩ := bif_ok h
    simp only [Except.ok.injEq, Prod.mk.injEq] at h
    obtain ⟨rfl, _⟩ := h
    exact encode_len _
theorem uptoF_len {s t : List UInt8} {i : Nat} {x : List UInt8} {j : Nat} (h : uptoF s t i = .ok (x, j)) : x.length ≤ j - i := by
  unfold uptoF at h
  cases hc : cutO t (s.drop i) with
  | none => rw [hc] at h; cases h
  | some p =>
    rw [hc] at h
    simp only [Except.ok.injEq, Prod.mk.injEq] at h
    obtain ⟨rfl, rfl⟩ := h
    omega
/-- upto, as a step. -/
theorem upto_ok' (hG : GOK G) {b : Nat} {s t : List UInt8} {i : Nat} {ty : TypeId} {H : Hp} (hb : H b = rd s i ty) (hi : i ≤ s.length) (hs : s.length + t.length < 4294967281) :
    CALL Go.Proofs.Tryd.prog G 21 [.ptr b 0, .str t] H (Kr1 (uptoF s t i) (fun v => .str v.1) (·.2) s b ty H) (Kp1 (uptoF s t i) s b ty H) := by
  refine (upto_ok hG.ml hb hi hs).mono (fun d H' ⟨x, y, h1, h2, h3⟩ => ?_) (fun d H' ⟨h1, h2, h3⟩ => ?_)
  · exact ⟨(x, i + (x.length + t.length)), by rw [uptoF, h1], h2, h3⟩
  · exact ⟨((s.length : Nat), 1), i, by rw [uptoF, h1], h2, hi, by rw [h3]; exact (Hp.upd_id hb).symm⟩

/-- Does a letter stand here? -/
def hdL : List UInt8 → Bool
  | [] => false
  | c :: _ => isLetter c

/-- Kids at rest. -/
def KD (ks : List El) (K : DV) : Prop := (ks = [] ∧ K = .nils) ∨ K = .lst (elsC ks) ks.length 5 none

theorem within_call (hG : GOK G) {H : Hp} {s : List UInt8} {ty : TypeId} {b be i deep : Nat} {pg : Int} {n t0 : List UInt8} {o0 : Bool} {kid : Nat → RES (El × Nat)} {more : Bool}
    (hb : H b = rd s i ty) (hbe : H be = some (.cells [.int .i64 pg, .str n, .str t0, .bool o0, .nils] elT)) (hne : b ≠ be) (hi : i ≤ s.length) (hs : s.length ≤ 1000000) (hd : deep ≤ 12) (hm : more = decide (deep < 12))
    (hprog : ∀ i x j, i ≤ s.length → kid i = .ok (x, j) → i < j ∧ j ≤ s.length ∧ fits x)
    (hkid : deep < 12 → ∀ i' HH, HH b = rd s i' ty → i' ≤ s.length → CALL Go.Proofs.Tryd.prog G 23 [.ptr b 0, .int .i64 pg, .int .i64 ((deep + 1 : Nat) : Int)] HH (Kr1 (kid i') (fun v => .agg (elC v.1)) (·.2) s b ty HH) (Kp1 (kid i') s b ty HH)) :
    CALL Go.Proofs.Tryd.prog G 45 [.ptr b 0, .ptr be 0, .int .i64 deep] H
      (fun d H' => ∃ t ks j K, withinF s kid more (s.length + 1) i [] [] = .ok (t, ks, j) ∧ d = .str t ∧ KD ks K ∧ H' = ((H.upd be none).upd b (rd s j ty)).upd be (some (.cells [.int .i64 pg, .str n, .str t0, .bool o0, K] elT)))
      (Kp1 (withinF s kid more (s.length + 1) i [] []) s b ty (H.upd be none)) := by
  generalize hRR : withinF s kid more (s.length + 1) i [] [] = R
  generalize hH0 : H.upd be none = H0
  have hbe0 : H0 be = none := by rw [← hH0]; exact Hp.upd_same
  have hb0 : H0 b = rd s i ty := by rw [← hH0, Hp.upd_ne hne]; exact hb
  refine CALL.of cF45 (Nat.le_of_ble_eq_true rfl) ?_
  refine AC.seq (AC.reg ?_)
  repeat (first | refine RG.z0 ?_ | refine RG.z1 ?_ | refine RG.z2 ?_ | refine RG.z3 ?_ | refine RG.z4 ?_ | refine RG.z5 ?_ | refine RG.z6 ?_ | refine RG.z7 ?_ | refine RG.z8 ?_ | refine RG.z9 ?_ | refine RG.zA ?_ | refine RG.zB ?_ | refine RG.zC ?_)
  refine RG.nilS (AC.seq (AC.reg ?_))
  refine RG.alloc (by first | exact trivial | exact rfl) fun bb hbb => ?_
  have hW0 : WS H0 s ty b be bb [.int .i64 pg, .str n, .str t0, .bool o0] i [] [] (H.upd bb (some (.cells [.nilp, .nils] 43))) := by
    refine ⟨hne, hbe0, .nils, H, false, ?_, .mt false hbb⟩
    have : (H0.upd b (rd s i ty)).upd be (some (.cells ([.int .i64 pg, .str n, .str t0, .bool o0] ++ [.nils]) elT)) = H := by
      rw [Hp.upd_id hb0, ← hH0, Hp.upd_upd]
      exact Hp.upd_id hbe
    have h2 := WST.nil (H0 := H0.upd b (rd s i ty)) (be := be) (p4 := [.int .i64 pg, .str n, .str t0, .bool o0])
    rw [this] at h2
    exact h2
  have bad : ∀ {e : Int × Int} {j : Nat} {ks' : List El} {txt' : List UInt8} {HH : Hp}, R = .error e → j ≤ s.length → WS H0 s ty b be bb [.int .i64 pg, .str n, .str t0, .bool o0] j ks' txt' HH → ∃ H', SubH H' HH ∧ Kp1 R s b ty H0 (fault e.1 e.2) H' :=
    fun {e j _ _ _} h1 h2 h3 => ⟨_, h3.sub, e, j, h1, rfl, h2, rfl⟩
  refine RG.nilS (AC.seq ?_)
  refine AC.bloopH (α := Nat × Nat × List UInt8 × List El) (β := Nat × List UInt8 × List El) (fun a => a.1) (fun _ => [(0, .ptr b 0), (1, .ptr be 0), (2, .int .i64 deep), (7, .ptr bb 0)])
    (fun a H' => WS H0 s ty b be bb [.int .i64 pg, .str n, .str t0, .bool o0] a.2.1 a.2.2.2 a.2.2.1 H' ∧ withinF s kid more a.1 a.2.1 a.2.2.1 a.2.2.2 = R ∧ a.2.1 ≤ s.length ∧ s.length < a.2.1 + a.1 ∧ a.2.2.1.length ≤ 4 * a.2.1 ∧ a.2.2.2.length ≤ 200)
    (fun _ => [(7, .ptr bb 0)]) (fun a H' => WS H0 s ty b be bb [.int .i64 pg, .str n, .str t0, .bool o0] a.1 a.2.2 a.2.1 H' ∧ R = .ok (a.2.1, a.2.2, a.1) ∧ a.2.1.length ≤ 4000000) ?_ ?_ (s.length + 1, i, [], []) _ ⟨hW0, hRR, hi, by dsimp only; omega, by simp, by simp⟩ ⟨rfl, rfl, rfl, rfl, trivial⟩
  · rintro ⟨j, txt, ks⟩ He fr ⟨hS, hR, hl⟩ hfr
    dsimp only at hS hR hl
    obtain ⟨K, A, u, h1, h2⟩ := hS.st
    refine AC.to _ hfr (AC.seq (AC.reg ?_))
    refine RG.callR (by first | exact trivial | exact rfl) rfl (String_ok h2 (by omega)) ?_
    repeat (first | refine RG.z0 ?_ | refine RG.z1 ?_ | refine RG.z2 ?_ | refine RG.z3 ?_ | refine RG.z4 ?_ | refine RG.z5 ?_ | refine RG.z6 ?_ | refine RG.z7 ?_ | refine RG.z8 ?_ | refine RG.z9 ?_ | refine RG.zA ?_ | refine RG.zB ?_ | refine RG.zC ?_)
    refine RG.nilS (AC.ret ?_)
    cases h1 with
    | nil => exact fin rfl ⟨txt, [], j, .nils, hR, rfl, .inl ⟨rfl, rfl⟩, rfl⟩
    | on g cap rest _ g1 g2 g3 g4 =>
      have hcv := Cv.freeze (H := ((H0.upd b (rd s j ty)).upd be (some (.cells ([.int .i64 pg, .str n, .str t0, .bool o0] ++ [.win g 0 ks.length cap]) elT))).upd g (some (.cells (elsC ks ++ rest) elT))) (be := be) (g := g) (n := ks.length) (cap := cap) (sz := 5) (k := 4)
        (d := .str txt) (by rw [Hp.upd_ne (Ne.symm g2)]; exact Hp.upd_same) rfl Hp.upd_same (elsC_length ks) g2
      rw [Hp.upd_upd, Hp.upd_id (show ((H0.upd b (rd s j ty)).upd be (some (.cells ([.int .i64 pg, .str n, .str t0, .bool o0] ++ [.win g 0 ks.length cap]) elT))) g = none by rw [Hp.upd_ne g2]; exact g1), Hp.upd_upd] at hcv
      exact ⟨[.str txt], .str txt, _, rfl, hcv, txt, ks, j, _, hR, rfl, .inr rfl, rfl⟩
  · rintro ⟨f, i, txt, ks⟩ H' ⟨hS, hR, hi, hf, htl, hkl⟩ ih ex
    dsimp only at hS hR hi hf htl hkl ih
    obtain ⟨f, rfl⟩ : ∃ f', f = f' + 1 := ⟨f - 1, by omega⟩
    rw [withinF] at hR
    have again : ∀ {j : Nat} {txt' : List UInt8} {ks' : List El} {H2 : Hp}, WS H0 s ty b be bb [.int .i64 pg, .str n, .str t0, .bool o0] j ks' txt' H2 → withinF s kid more f j txt' ks' = R → i < j → j ≤ s.length → txt'.length ≤ 4 * j → ks'.length ≤ 200 →
        ∀ fr, Agrees fr [(0, .ptr b 0), (1, .ptr be 0), (2, .int .i64 deep), (7, .ptr bb 0)] → _ :=
      fun {j txt' ks' H2} h1 h2 h3 h4 h5 h6 fr hfr => ih (f, j, txt', ks') H2 ⟨h1, h2, h4, by dsimp only; omega, h5, h6⟩ (by dsimp only; omega) fr hfr
    refine AC.seq (AC.seq (AC.reg ?_))
    (first | refine RG.z0 ?_ | refine RG.z1 ?_ | refine RG.z2 ?_ | refine RG.z3 ?_ | refine RG.z4 ?_ | refine RG.z5 ?_ | refine RG.z6 ?_ | refine RG.z7 ?_ | refine RG.z8 ?_ | refine RG.z9 ?_ | refine RG.zA ?_ | refine RG.zB ?_ | refine RG.zC ?_)
    refine RG.callR (by first | exact trivial | exact rfl) rfl (has_ok (t := [60, 47]) hS.rd hi (by simp; omega)) ?_
    cases e1 : List.isPrefixOf [60, 47] (s.drop i)
    case true =>
      rw [e1, cond_true] at hR
      have hpl := prefix_le e1 (by simp)
      simp only [List.length_cons, List.length_nil] at hpl
      repeat (first | refine RG.z0 ?_ | refine RG.z1 ?_ | refine RG.z2 ?_ | refine RG.z3 ?_ | refine RG.z4 ?_ | refine RG.z5 ?_ | refine RG.z6 ?_ | refine RG.z7 ?_ | refine RG.z8 ?_ | refine RG.z9 ?_ | refine RG.zA ?_ | refine RG.zB ?_ | refine RG.zC ?_)
      refine RG.nilS (AC.cond_f rfl (AC.exit ?_))
      exact ex (i + 2, txt, ks) _ _ ⟨hS.upd (i + 2), hR.symm, by dsimp only; omega⟩ ⟨rfl, trivial⟩
    rw [e1, cond_false] at hR
    rw [cond_false, Hp.upd_id hS.rd]
    repeat (first | refine RG.z0 ?_ | refine RG.z1 ?_ | refine RG.z2 ?_ | refine RG.z3 ?_ | refine RG.z4 ?_ | refine RG.z5 ?_ | refine RG.z6 ?_ | refine RG.z7 ?_ | refine RG.z8 ?_ | refine RG.z9 ?_ | refine RG.zA ?_ | refine RG.zB ?_ | refine RG.zC ?_)
    refine RG.nilS (AC.cond_t rfl (AC.skip (AC.block (AC.seq (AC.drawV [1] rfl ?_)))))
    have hrd := hS.rd
    first | refine VD.z0 0 ?_ | refine VD.z1 0 ?_ | refine VD.z2 0 ?_ | refine VD.z3 0 ?_ | refine VD.z4 0 ?_ | refine VD.z5 0 ?_
    first | refine VD.z0 2 ?_ | refine VD.z1 2 ?_ | refine VD.z2 2 ?_ | refine VD.z3 2 ?_ | refine VD.z4 2 ?_ | refine VD.z5 2 ?_
    first | refine VD.z0 3 ?_ | refine VD.z1 3 ?_ | refine VD.z2 3 ?_ | refine VD.z3 3 ?_ | refine VD.z4 3 ?_ | refine VD.z5 3 ?_
    first | refine VD.z0 4 ?_ | refine VD.z1 4 ?_ | refine VD.z2 4 ?_ | refine VD.z3 4 ?_ | refine VD.z4 4 ?_ | refine VD.z5 4 ?_
    first | refine VD.z0 5 ?_ | refine VD.z1 5 ?_ | refine VD.z2 5 ?_ | refine VD.z3 5 ?_ | refine VD.z4 5 ?_ | refine VD.z5 5 ?_
    refine VD.pe (K := fun d H2 => d = .str (s.drop i) ∧ H2 = H') (Kp := fun _ _ => False) 1 rfl rfl (EF.call rfl (left_ok hrd hi)) (fun _ _ _ h => h.elim) (fun d H2 ⟨f1, f2⟩ => ?_)
    subst f1; subst f2
    refine ⟨(by (repeat (refine stabAll_cons rfl (by first | exact Stab.ld rfl (by first | assumption | exact Hp.upd_same | (rw [Hp.upd_ne (by first | assumption | omega)]; first | assumption | exact Hp.upd_same | (rw [Hp.upd_ne (by first | assumption | omega)]; first | assumption | exact Hp.upd_same))) rfl rfl | exact Stab.of rfl rfl) ?_)); exact stabAll_nil), ?_⟩
    first | refine VD.z0 6 ?_ | refine VD.z1 6 ?_ | refine VD.z2 6 ?_ | refine VD.z3 6 ?_ | refine VD.z4 6 ?_ | refine VD.z5 6 ?_
    first | refine VD.z0 7 ?_ | refine VD.z1 7 ?_ | refine VD.z2 7 ?_ | refine VD.z3 7 ?_ | refine VD.z4 7 ?_ | refine VD.z5 7 ?_
    refine VD.pd rfl ?_
    refine AC.to [(0, .ptr b 0), (1, .ptr be 0), (2, .int .i64 deep), (7, .ptr bb 0), (8, .str (s.drop i)), (9, .int .i64 i)] ⟨rfl, rfl, rfl, rfl, rfl, rfl, trivial⟩ (AC.seq (AC.reg ?_))
    repeat (first | refine RG.z0 ?_ | refine RG.z1 ?_ | refine RG.z2 ?_ | refine RG.z3 ?_ | refine RG.z4 ?_ | refine RG.z5 ?_ | refine RG.z6 ?_ | refine RG.z7 ?_ | refine RG.z8 ?_ | refine RG.z9 ?_ | refine RG.zA ?_ | refine RG.zB ?_ | refine RG.zC ?_)
    refine RG.call (by first | exact trivial | exact rfl) rfl (need_ok (!(s.drop i == [])) i 1 _) (fun d H3 ⟨g1, g2, g3⟩ => ?_) (fun d H3 ⟨g1, g2, g3⟩ => ?_)
    rotate_left
    · subst g2; subst g3
      have hnil : s.drop i = [] := by simpa using g1
      rw [hnil] at hR
      exact bad (e := (i, 1)) hR.symm hi hS
    subst g2; subst g3
    cases hd : s.drop i with
    | nil => rw [hd] at g1; cases g1
    | cons c l =>
    have hlt : i < s.length := by
      have := congrArg List.length hd
      simp only [List.length_drop, List.length_cons] at this
      omega
    rw [hd] at hR
    dsimp only at hR
    refine RG.nilS (AC.block (AC.seq (AC.reg ?_)))
    (first | refine RG.z0 ?_ | refine RG.z1 ?_ | refine RG.z2 ?_ | refine RG.z3 ?_ | refine RG.z4 ?_ | refine RG.z5 ?_ | refine RG.z6 ?_ | refine RG.z7 ?_ | refine RG.z8 ?_ | refine RG.z9 ?_ | refine RG.zA ?_ | refine RG.zB ?_ | refine RG.zC ?_)
    refine RG.at (b := c) (by first | exact trivial | exact rfl) (by conv => lhs; whnf) (by conv => lhs; whnf) (by omega) rfl ?_
    refine RG.p (d := .bool (c == 38)) (by first | exact trivial | exact rfl) (by show some (DV.bool ((c.toNat : Int) == 38)) = _; rw [show ((c.toNat : Int) == 38) = (c == 38) from u8eq c 38]) ?_
    repeat (first | refine RG.z0 ?_ | refine RG.z1 ?_ | refine RG.z2 ?_ | refine RG.z3 ?_ | refine RG.z4 ?_ | refine RG.z5 ?_ | refine RG.z6 ?_ | refine RG.z7 ?_ | refine RG.z8 ?_ | refine RG.z9 ?_ | refine RG.zA ?_ | refine RG.zB ?_ | refine RG.zC ?_)
    cases e2 : c == 38
    case true =>
      rw [e2, cond_true] at hR
      refine RG.nilS (AC.cond_t rfl (AC.reg ?_))
      (first | refine RG.z0 ?_ | refine RG.z1 ?_ | refine RG.z2 ?_ | refine RG.z3 ?_ | refine RG.z4 ?_ | refine RG.z5 ?_ | refine RG.z6 ?_ | refine RG.z7 ?_ | refine RG.z8 ?_ | refine RG.z9 ?_ | refine RG.zA ?_ | refine RG.zB ?_ | refine RG.zC ?_)
      refine RG.call (by first | exact trivial | exact rfl) rfl (entity_ok hS.rd hi (by omega)) (fun d H3 ⟨⟨x, j⟩, h1, h2, h3⟩ => ?_) (fun d H3 ⟨e, j, h1, h2, h3, h4⟩ => ?_)
      · subst h2; subst h3
        rw [h1] at hR
        have hp := entityF_prog h1
        have hxl := entityF_len h1
        have hS2 := hS.upd j
        obtain ⟨A, u, hB, hBk⟩ := hS2.bld
        refine RG.call (by first | exact trivial | exact rfl) rfl (WriteString_ok (s := x) hB (by omega)) (fun d H4 ⟨_, hB4⟩ => ?_) (fun _ _ h => h.elim)
        exact RG.nil (again (hBk _ _ _ hB4) hR hp.1 hp.2 (by rw [List.length_append]; omega) hkl _ ⟨rfl, rfl, rfl, rfl, trivial⟩)
      · subst h2; subst h4
        rw [h1] at hR
        exact bad hR.symm h3 (hS.upd j)
    rw [e2, cond_false] at hR
    refine RG.nilS (AC.cond_f rfl (AC.seq (AC.reg ?_)))
    (first | refine RG.z0 ?_ | refine RG.z1 ?_ | refine RG.z2 ?_ | refine RG.z3 ?_ | refine RG.z4 ?_ | refine RG.z5 ?_ | refine RG.z6 ?_ | refine RG.z7 ?_ | refine RG.z8 ?_ | refine RG.z9 ?_ | refine RG.zA ?_ | refine RG.zB ?_ | refine RG.zC ?_)
    refine RG.callR (by first | exact trivial | exact rfl) rfl (has_ok (t := rawM) hS.rd hi (by simp [rawM]; omega)) ?_
    rw [hd]
    cases e3 : List.isPrefixOf rawM (c :: l)
    case true =>
      rw [e3, cond_true] at hR
      have hpl := prefix_le (t := rawM) (s := s) (i := i) (by rw [hd]; exact e3) (by simp [rawM])
      have hr9 : rawM.length = 9 := rfl
      rw [hr9] at hpl
      repeat (first | refine RG.z0 ?_ | refine RG.z1 ?_ | refine RG.z2 ?_ | refine RG.z3 ?_ | refine RG.z4 ?_ | refine RG.z5 ?_ | refine RG.z6 ?_ | refine RG.z7 ?_ | refine RG.z8 ?_ | refine RG.z9 ?_ | refine RG.zA ?_ | refine RG.zB ?_ | refine RG.zC ?_)
      refine RG.nilS (AC.cond_t rfl (AC.reg ?_))
      have hS2 := hS.upd (i + 9)
      (first | refine RG.z0 ?_ | refine RG.z1 ?_ | refine RG.z2 ?_ | refine RG.z3 ?_ | refine RG.z4 ?_ | refine RG.z5 ?_ | refine RG.z6 ?_ | refine RG.z7 ?_ | refine RG.z8 ?_ | refine RG.z9 ?_ | refine RG.zA ?_ | refine RG.zB ?_ | refine RG.zC ?_)
      refine RG.call (by first | exact trivial | exact rfl) rfl (upto_ok' hG (t := rawEnd) hS2.rd hpl (by simp [rawEnd]; omega)) (fun d H3 ⟨⟨x, j⟩, h1, h2, h3⟩ => ?_) (fun d H3 ⟨e, j, h1, h2, h3, h4⟩ => ?_)
      · subst h2; subst h3
        rw [h1] at hR
        have hp := uptoF_prog h1 hpl
        have hxl := uptoF_len h1
        have hS3 := hS2.upd j
        obtain ⟨A, u, hB, hBk⟩ := hS3.bld
        refine RG.call (by first | exact trivial | exact rfl) rfl (WriteString_ok (s := x) hB (by omega)) (fun d H4 ⟨_, hB4⟩ => ?_) (fun _ _ h => h.elim)
        exact RG.nil (again (hBk _ _ _ hB4) hR (by omega) hp.2 (by rw [List.length_append]; omega) hkl _ ⟨rfl, rfl, rfl, rfl, trivial⟩)
      · subst h2; subst h4
        rw [h1] at hR
        exact bad hR.symm h3 (hS2.upd j)
    rw [e3, cond_false] at hR
    rw [cond_false, Hp.upd_id hS.rd]
    repeat (first | refine RG.z0 ?_ | refine RG.z1 ?_ | refine RG.z2 ?_ | refine RG.z3 ?_ | refine RG.z4 ?_ | refine RG.z5 ?_ | refine RG.z6 ?_ | refine RG.z7 ?_ | refine RG.z8 ?_ | refine RG.z9 ?_ | refine RG.zA ?_ | refine RG.zB ?_ | refine RG.zC ?_)
    refine RG.nilS (AC.cond_f rfl (AC.seq (AC.reg ?_)))
    (first | refine RG.z0 ?_ | refine RG.z1 ?_ | refine RG.z2 ?_ | refine RG.z3 ?_ | refine RG.z4 ?_ | refine RG.z5 ?_ | refine RG.z6 ?_ | refine RG.z7 ?_ | refine RG.z8 ?_ | refine RG.z9 ?_ | refine RG.zA ?_ | refine RG.zB ?_ | refine RG.zC ?_)
    refine RG.callR (by first | exact trivial | exact rfl) rfl (has_ok (t := remM) hS.rd hi (by simp [remM]; omega)) ?_
    rw [hd]
    cases e4 : List.isPrefixOf remM (c :: l)
    case true =>
      rw [e4, cond_true] at hR
      have hpl := prefix_le (t := remM) (s := s) (i := i) (by rw [hd]; exact e4) (by simp [remM])
      have hr9 : remM.length = 4 := rfl
      rw [hr9] at hpl
      repeat (first | refine RG.z0 ?_ | refine RG.z1 ?_ | refine RG.z2 ?_ | refine RG.z3 ?_ | refine RG.z4 ?_ | refine RG.z5 ?_ | refine RG.z6 ?_ | refine RG.z7 ?_ | refine RG.z8 ?_ | refine RG.z9 ?_ | refine RG.zA ?_ | refine RG.zB ?_ | refine RG.zC ?_)
      refine RG.nilS (AC.cond_t rfl (AC.reg ?_))
      have hS2 := hS.upd (i + 4)
      (first | refine RG.z0 ?_ | refine RG.z1 ?_ | refine RG.z2 ?_ | refine RG.z3 ?_ | refine RG.z4 ?_ | refine RG.z5 ?_ | refine RG.z6 ?_ | refine RG.z7 ?_ | refine RG.z8 ?_ | refine RG.z9 ?_ | refine RG.zA ?_ | refine RG.zB ?_ | refine RG.zC ?_)
      refine RG.call (by first | exact trivial | exact rfl) rfl (upto_ok' hG (t := remEnd) hS2.rd hpl (by simp [remEnd]; omega)) (fun d H3 ⟨⟨x, j⟩, h1, h2, h3⟩ => ?_) (fun d H3 ⟨e, j, h1, h2, h3, h4⟩ => ?_)
      · subst h2; subst h3
        rw [h1] at hR
        have hp := uptoF_prog h1 hpl
        exact RG.nil (again (hS2.upd j) hR (by omega) hp.2 (by omega) hkl _ ⟨rfl, rfl, rfl, rfl, trivial⟩)
      · subst h2; subst h4
        rw [h1] at hR
        exact bad hR.symm h3 (hS2.upd j)
    rw [e4, cond_false] at hR
    rw [cond_false, Hp.upd_id hS.rd]
    repeat (first | refine RG.z0 ?_ | refine RG.z1 ?_ | refine RG.z2 ?_ | refine RG.z3 ?_ | refine RG.z4 ?_ | refine RG.z5 ?_ | refine RG.z6 ?_ | refine RG.z7 ?_ | refine RG.z8 ?_ | refine RG.z9 ?_ | refine RG.zA ?_ | refine RG.zB ?_ | refine RG.zC ?_)
    refine RG.nilS (AC.cond_f rfl (AC.seq (AC.reg ?_)))
    (first | refine RG.z0 ?_ | refine RG.z1 ?_ | refine RG.z2 ?_ | refine RG.z3 ?_ | refine RG.z4 ?_ | refine RG.z5 ?_ | refine RG.z6 ?_ | refine RG.z7 ?_ | refine RG.z8 ?_ | refine RG.z9 ?_ | refine RG.zA ?_ | refine RG.zB ?_ | refine RG.zC ?_)
    refine RG.at (b := c) (by first | exact trivial | exact rfl) (by conv => lhs; whnf) (by conv => lhs; whnf) (by omega) rfl ?_
    refine RG.p (d := .bool (!(c == 60))) (by first | exact trivial | exact rfl) (by show some (DV.bool ((c.toNat : Int) != 60)) = _; rw [bne, show ((c.toNat : Int) == 60) = (c == 60) from u8eq c 60]) ?_
    repeat (first | refine RG.z0 ?_ | refine RG.z1 ?_ | refine RG.z2 ?_ | refine RG.z3 ?_ | refine RG.z4 ?_ | refine RG.z5 ?_ | refine RG.z6 ?_ | refine RG.z7 ?_ | refine RG.z8 ?_ | refine RG.z9 ?_ | refine RG.zA ?_ | refine RG.zB ?_ | refine RG.zC ?_)
    cases e5 : c == 60
    case false =>
      rw [e5] at hR
      refine RG.nilS (AC.cond_t rfl (AC.seq (AC.reg ?_)))
      (first | refine RG.z0 ?_ | refine RG.z1 ?_ | refine RG.z2 ?_ | refine RG.z3 ?_ | refine RG.z4 ?_ | refine RG.z5 ?_ | refine RG.z6 ?_ | refine RG.z7 ?_ | refine RG.z8 ?_ | refine RG.z9 ?_ | refine RG.zA ?_ | refine RG.zB ?_ | refine RG.zC ?_)
      refine RG.at (b := c) (by first | exact trivial | exact rfl) (by conv => lhs; whnf) (by conv => lhs; whnf) (by omega) rfl ?_
      obtain ⟨A, u, hB, hBk⟩ := hS.bld
      refine RG.call (by first | exact trivial | exact rfl) rfl (WriteByte_ok hB (by omega)) (fun d H4 ⟨_, hB4⟩ => ?_) (fun _ _ h => h.elim)
      have hS4 := hBk _ _ _ hB4
      refine RG.nilS (AC.reg ?_)
      have hrd4 := hS4.rd
      repeat (first | refine RG.z0 ?_ | refine RG.z1 ?_ | refine RG.z2 ?_ | refine RG.z3 ?_ | refine RG.z4 ?_ | refine RG.z5 ?_ | refine RG.z6 ?_ | refine RG.z7 ?_ | refine RG.z8 ?_ | refine RG.z9 ?_ | refine RG.zA ?_ | refine RG.zB ?_ | refine RG.zC ?_)
      exact RG.nil (again (hS4.upd (i + 1)) hR (by omega) (by omega) (by rw [List.length_append, List.length_singleton]; omega) hkl _ ⟨rfl, rfl, rfl, rfl, trivial⟩)
    rw [e5, Bool.not_true, cond_false] at hR
    change (bif !(hdL l) then .error ((i : Nat), 3) else bif !more then .error ((i : Nat), 9) else bif !(decide (ks.length < 200)) then .error ((i : Nat), 4) else match kid i with | .error e => .error e | .ok (x, j) => withinF s kid more f j txt (ks ++ [x])) = R at hR
    refine RG.nilS (AC.cond_f rfl (AC.seq ?_))
    refine AC.mono (Q := fun e fr2 H2 => match e with
      | .normal => H2 = H3 ∧ hdL l = true ∧ Agrees fr2 [(0, .ptr b 0), (1, .ptr be 0), (2, .int .i64 deep), (7, .ptr bb 0), (9, .int .i64 i)]
      | .panic d => d = fault i 3 ∧ H2 = H3 ∧ hdL l = false
      | _ => False) (AC.reg ?_) ?_
    · (first | refine RG.z0 ?_ | refine RG.z1 ?_ | refine RG.z2 ?_ | refine RG.z3 ?_ | refine RG.z4 ?_ | refine RG.z5 ?_ | refine RG.z6 ?_ | refine RG.z7 ?_ | refine RG.z8 ?_ | refine RG.z9 ?_ | refine RG.zA ?_ | refine RG.zB ?_ | refine RG.zC ?_)
      refine RG.p (d := .int .i64 ((c :: l).length : Nat)) (by first | exact trivial | exact rfl) rfl ?_
      refine RG.p (d := .bool (decide (1 < (c :: l).length))) (by first | exact trivial | exact rfl) (by
        show some (DV.bool (decide ((((c :: l).length : Nat) : Int) > 1))) = _
        congr 2
        rw [decide_eq_decide]; omega) ?_
      cases l with
      | nil =>
        repeat (first | refine RG.z0 ?_ | refine RG.z1 ?_ | refine RG.z2 ?_ | refine RG.z3 ?_ | refine RG.z4 ?_ | refine RG.z5 ?_ | refine RG.z6 ?_ | refine RG.z7 ?_ | refine RG.z8 ?_ | refine RG.z9 ?_ | refine RG.zA ?_ | refine RG.zB ?_ | refine RG.zC ?_)
        refine RG.call (by first | exact trivial | exact rfl) rfl (need_ok false i 3 _) (fun d H5 ⟨k1, _⟩ => by cases k1) (fun d H5 ⟨_, k2, k3⟩ => ⟨k2, k3, rfl⟩)
      | cons c2 l =>
        have : decide (1 < (c :: c2 :: l).length) = true := by simp
        rw [this]
        (first | refine RG.z0 ?_ | refine RG.z1 ?_ | refine RG.z2 ?_ | refine RG.z3 ?_ | refine RG.z4 ?_ | refine RG.z5 ?_ | refine RG.z6 ?_ | refine RG.z7 ?_ | refine RG.z8 ?_ | refine RG.z9 ?_ | refine RG.zA ?_ | refine RG.zB ?_ | refine RG.zC ?_)
        (first | refine RG.z0 ?_ | refine RG.z1 ?_ | refine RG.z2 ?_ | refine RG.z3 ?_ | refine RG.z4 ?_ | refine RG.z5 ?_ | refine RG.z6 ?_ | refine RG.z7 ?_ | refine RG.z8 ?_ | refine RG.z9 ?_ | refine RG.zA ?_ | refine RG.zB ?_ | refine RG.zC ?_)
        refine RG.at (b := c2) (by first | exact trivial | exact rfl) (by conv => lhs; whnf) (by conv => lhs; whnf) (by omega) rfl ?_
        refine RG.callP (by first | exact trivial | exact rfl) rfl (letter_ok c2) ?_
        repeat (first | refine RG.z0 ?_ | refine RG.z1 ?_ | refine RG.z2 ?_ | refine RG.z3 ?_ | refine RG.z4 ?_ | refine RG.z5 ?_ | refine RG.z6 ?_ | refine RG.z7 ?_ | refine RG.z8 ?_ | refine RG.z9 ?_ | refine RG.zA ?_ | refine RG.zB ?_ | refine RG.zC ?_)
        exact RG.call (by first | exact trivial | exact rfl) rfl (need_ok (isLetter c2) i 3 _) (fun d H5 ⟨k1, k2, k3⟩ => RG.nil ⟨k3, k1, rfl, rfl, rfl, rfl, rfl, trivial⟩) (fun d H5 ⟨k1, k2, k3⟩ => ⟨k2, k3, k1⟩)
    rintro e fr2 H2 hq
    cases e with
    | exit id => exact hq.elim
    | ret => exact hq.elim
    | panic d =>
      obtain ⟨k1, k2, k3⟩ := hq
      subst k1; subst k2
      rw [k3] at hR
      exact bad (e := (i, 3)) hR.symm hi hS
    | normal =>
    obtain ⟨k1, k2, k3⟩ := hq
    subst k1
    rw [k2, Bool.not_true, cond_false] at hR
    refine AC.to _ k3 (AC.seq (AC.reg ?_))
    (first | refine RG.z0 ?_ | refine RG.z1 ?_ | refine RG.z2 ?_ | refine RG.z3 ?_ | refine RG.z4 ?_ | refine RG.z5 ?_ | refine RG.z6 ?_ | refine RG.z7 ?_ | refine RG.z8 ?_ | refine RG.z9 ?_ | refine RG.zA ?_ | refine RG.zB ?_ | refine RG.zC ?_)
    refine RG.p (d := .bool more) (by first | exact trivial | exact rfl) (by
      show some (DV.bool (decide ((deep : Int) < 12))) = _
      rw [hm]
      congr 2
      rw [decide_eq_decide]; omega) ?_
    (first | refine RG.z0 ?_ | refine RG.z1 ?_ | refine RG.z2 ?_ | refine RG.z3 ?_ | refine RG.z4 ?_ | refine RG.z5 ?_ | refine RG.z6 ?_ | refine RG.z7 ?_ | refine RG.z8 ?_ | refine RG.z9 ?_ | refine RG.zA ?_ | refine RG.zB ?_ | refine RG.zC ?_)
    refine RG.call (by first | exact trivial | exact rfl) rfl (need_ok more i 9 _) (fun d H3 ⟨k1, k2, k3⟩ => ?_) (fun d H3 ⟨k1, k2, k3⟩ => ?_)
    rotate_left
    · subst k2; subst k3
      rw [k1] at hR
      exact bad (e := (i, 9)) hR.symm hi hS
    subst k2; subst k3
    rw [k1, Bool.not_true, cond_false] at hR
    have hdeep : deep < 12 := by rw [k1] at hm; exact of_decide_eq_true hm.symm
    have again2 := @again
    rw [k1] at again2
    clear again
    refine RG.nilS (AC.seq (AC.reg ?_))
    obtain ⟨K, hK1, hK2⟩ := hS.var
    (first | refine RG.z0 ?_ | refine RG.z1 ?_ | refine RG.z2 ?_ | refine RG.z3 ?_ | refine RG.z4 ?_ | refine RG.z5 ?_ | refine RG.z6 ?_ | refine RG.z7 ?_ | refine RG.z8 ?_ | refine RG.z9 ?_ | refine RG.zA ?_ | refine RG.zB ?_ | refine RG.zC ?_)
    (first | refine RG.z0 ?_ | refine RG.z1 ?_ | refine RG.z2 ?_ | refine RG.z3 ?_ | refine RG.z4 ?_ | refine RG.z5 ?_ | refine RG.z6 ?_ | refine RG.z7 ?_ | refine RG.z8 ?_ | refine RG.z9 ?_ | refine RG.zA ?_ | refine RG.zB ?_ | refine RG.zC ?_)
    (first | refine RG.z0 ?_ | refine RG.z1 ?_ | refine RG.z2 ?_ | refine RG.z3 ?_ | refine RG.z4 ?_ | refine RG.z5 ?_ | refine RG.z6 ?_ | refine RG.z7 ?_ | refine RG.z8 ?_ | refine RG.z9 ?_ | refine RG.zA ?_ | refine RG.zB ?_ | refine RG.zC ?_)
    refine RG.ld (by first | exact trivial | exact rfl) (by conv => lhs; whnf) hK1 (d := K) rfl ?_
    refine RG.p (d := .int .i64 ks.length) (by first | exact trivial | exact rfl) hK2 ?_
    have h200 : decide (((ks.length : Nat) : Int) < 200) = decide (ks.length < 200) := by rw [decide_eq_decide]; omega
    refine RG.p (d := .bool (decide (((ks.length : Nat) : Int) < 200))) (by first | exact trivial | exact rfl) rfl ?_
    rw [h200]
    (first | refine RG.z0 ?_ | refine RG.z1 ?_ | refine RG.z2 ?_ | refine RG.z3 ?_ | refine RG.z4 ?_ | refine RG.z5 ?_ | refine RG.z6 ?_ | refine RG.z7 ?_ | refine RG.z8 ?_ | refine RG.z9 ?_ | refine RG.zA ?_ | refine RG.zB ?_ | refine RG.zC ?_)
    refine RG.call (by first | exact trivial | exact rfl) rfl (need_ok (decide (ks.length < 200)) i 4 _) (fun d H3 ⟨k1, k2, k3⟩ => ?_) (fun d H3 ⟨k1, k2, k3⟩ => ?_)
    rotate_left
    · subst k2; subst k3
      rw [k1] at hR
      exact bad (e := (i, 4)) hR.symm hi hS
    subst k2; subst k3
    rw [k1, Bool.not_true, cond_false] at hR
    have hk200 := of_decide_eq_true k1
    refine RG.nilS (AC.to [(0, .ptr b 0), (1, .ptr be 0), (2, .int .i64 deep), (7, .ptr bb 0)] ⟨rfl, rfl, rfl, rfl, trivial⟩ ?_)
    refine kid_reg hS (by omega) hkl (hkid hdeep i _ hS.rd hi) (fun e j fr' h1 h2 => ?_) (fun x j H2 h1 h2 fr' hfr' => ?_)
    · rw [h1] at hR
      exact bad hR.symm h2 (hS.upd j)
    · rw [h1] at hR
      have hp := hprog i x j hi h1
      exact again2 h2 hR hp.1 hp.2.1 (by omega) (by simp; omega) fr' hfr'
end Go.Run.Tryd
/- An element, read. -/
namespace Go.Run.Tryd
open Go Go.Run Go.RowKit
/-! (*cardcase/markup.reader).elem -/
def F23 : FN := ⟨152, (.seq (.reg [⟨(some 6), none, .alloc [(.int .i64 0), (.str []), (.str []), (.bool false), .nils] 24⟩])
  (.scp (.seq (.draw [⟨(some 17), none, .mv (.t 0)⟩,
    ⟨(some 18), none, .call 25 [(.t 17)]⟩,
    ⟨(some 19), none, .bin .neq (.t 18) (.c (.str []))⟩,
    ⟨(some 20), none, .mv (.t 0)⟩,
    ⟨(some 21), none, .nilc (.t 20)⟩,
    ⟨(some 22), none, .fadr 1 (.t 21)⟩,
    ⟨(some 23), none, .ld false 1 (.t 22)⟩,
    ⟨(some 24), none, .call 24 [(.t 19), (.t 23), (.c (.int .i64 1))]⟩] [[], [0], [1], [], [3], [4], [5], [2, 6, 1]])
  (.seq (.reg [⟨(some 25), none, .mv (.t 0)⟩,
    ⟨(some 26), none, .nilc (.t 25)⟩,
    ⟨(some 27), none, .fadr 1 (.t 26)⟩,
    ⟨(some 28), none, .ld false 1 (.t 27)⟩,
    ⟨(some 7), none, .mv (.t 28)⟩])
  (.seq (.reg [⟨(some 29), none, .mv (.t 0)⟩,
    ⟨(some 30), none, .call 20 [(.t 29), (.c (.str [60]))]⟩,
    ⟨(some 31), none, .mv (.t 7)⟩,
    ⟨(some 32), none, .call 24 [(.t 30), (.t 31), (.c (.int .i64 3))]⟩])
  (.seq (.reg [⟨(some 33), none, .mv (.t 0)⟩,
    ⟨(some 34), none, .nilc (.t 33)⟩,
    ⟨(some 35), none, .fadr 1 (.t 34)⟩,
    ⟨(some 36), none, .ld false 1 (.t 35)⟩,
    ⟨(some 8), none, .mv (.t 36)⟩])
  (.seq (.reg [⟨(some 37), none, .mv (.t 1)⟩,
    ⟨(some 38), none, .mv (.t 0)⟩,
    ⟨(some 39), none, .call 42 [(.t 38)]⟩,
    ⟨(some 40), none, .bld [(.int .i64 0), (.str []), (.str []), (.bool false), .nils] [(0, 1, (.t 37)), (1, 1, (.t 39))]⟩,
    ⟨(some 9), none, .alloc [(.int .i64 0), (.str []), (.str []), (.bool false), .nils] 24⟩,
    ⟨none, none, .st 5 (.t 9) (.t 40)⟩])
  (.seq (.reg [⟨(some 41), none, .fadr 1 (.t 9)⟩,
    ⟨(some 42), none, .ld false 1 (.t 41)⟩,
    ⟨(some 43), none, .bin .neq (.t 42) (.c (.str []))⟩,
    ⟨(some 44), none, .mv (.t 43)⟩,
    ⟨(some 45), some (44, true), .fadr 1 (.t 9)⟩,
    ⟨(some 46), some (44, true), .ld false 1 (.t 45)⟩,
    ⟨(some 47), some (44, true), .idx (.t 46) (.c (.int .i64 0))⟩,
    ⟨(some 48), some (44, true), .call 43 [(.t 47)]⟩,
    ⟨(some 49), none, .pick (.t 44) (.t 48) (.c (.bool false))⟩,
    ⟨(some 50), none, .mv (.t 49)⟩,
    ⟨(some 51), some (50, true), .fadr 1 (.t 9)⟩,
    ⟨(some 52), some (50, true), .ld false 1 (.t 51)⟩,
    ⟨(some 53), some (50, true), .len true (.t 52)⟩,
    ⟨(some 54), some (50, true), .bin .leq (.t 53) (.c (.int .i64 32))⟩,
    ⟨(some 55), none, .pick (.t 50) (.t 54) (.c (.bool false))⟩,
    ⟨(some 56), none, .mv (.t 8)⟩,
    ⟨(some 57), none, .call 24 [(.t 55), (.t 56), (.c (.int .i64 14))]⟩])
  (.seq (.reg [⟨(some 10), none, .mv (.c (.bool false))⟩,
    ⟨(some 11), none, .mv (.c (.bool false))⟩])
  (.seq .skip
  (.seq (.block 0 (.loop (.block 1 (.seq (.reg [⟨(some 58), none, .mv (.t 0)⟩,
    ⟨(some 59), none, .call 22 [(.t 58)]⟩,
    ⟨(some 12), none, .mv (.t 59)⟩])
  (.seq (.reg [⟨(some 60), none, .mv (.t 0)⟩,
    ⟨(some 61), none, .nilc (.t 60)⟩,
    ⟨(some 62), none, .fadr 1 (.t 61)⟩,
    ⟨(some 63), none, .ld false 1 (.t 62)⟩,
    ⟨(some 8), none, .mv (.t 63)⟩])
  (.block 2 (.seq (.reg [⟨(some 67), none, .mv (.t 0)⟩,
    ⟨(some 68), none, .call 20 [(.t 67), (.c (.str [47, 62]))]⟩,
    ⟨(some 66), none, .mv (.t 68)⟩])
  (.cond (.t 66) (.seq (.reg [⟨(some 69), none, .ld true 5 (.t 9)⟩,
    ⟨none, none, .st 5 (.t 6) (.t 69)⟩])
  .ret)
  (.seq (.reg [⟨(some 71), none, .mv (.t 0)⟩,
    ⟨(some 72), none, .call 20 [(.t 71), (.c (.str [62]))]⟩,
    ⟨(some 70), none, .mv (.t 72)⟩])
  (.cond (.t 70) (.exit 0)
  (.seq (.reg [⟨(some 74), none, .mv (.t 12)⟩,
    ⟨(some 75), none, .un .not (.t 74)⟩,
    ⟨(some 73), none, .mv (.t 75)⟩])
  (.cond (.t 73) (.reg [⟨(some 76), none, .mv (.t 8)⟩,
    ⟨(some 77), none, .call 24 [(.c (.bool false)), (.t 76), (.c (.int .i64 3))]⟩])
  (.seq (.reg [⟨(some 79), none, .mv (.t 0)⟩,
    ⟨(some 80), none, .call 20 [(.t 79), (.c (.str [120, 109, 108, 110, 115, 61, 34]))]⟩,
    ⟨(some 78), none, .mv (.t 80)⟩])
  (.cond (.t 78) (.seq (.reg [⟨(some 81), none, .mv (.t 10)⟩,
    ⟨(some 82), none, .un .not (.t 81)⟩,
    ⟨(some 83), none, .mv (.t 8)⟩,
    ⟨(some 84), none, .call 24 [(.t 82), (.t 83), (.c (.int .i64 11))]⟩])
  (.seq (.reg [⟨(some 10), none, .mv (.c (.bool true))⟩])
  (.seq (.reg [⟨(some 85), none, .mv (.t 0)⟩,
    ⟨(some 86), none, .call 21 [(.t 85), (.c (.str [34]))]⟩,
    ⟨(some 87), none, .call 44 [(.t 86)]⟩,
    ⟨(some 88), none, .fadr 0 (.t 9)⟩,
    ⟨none, none, .st 1 (.t 88) (.t 87)⟩])
  (.reg [⟨(some 89), none, .fadr 0 (.t 9)⟩,
    ⟨(some 90), none, .ld false 1 (.t 89)⟩,
    ⟨(some 91), none, .bin .geq (.t 90) (.c (.int .i64 0))⟩,
    ⟨(some 92), none, .mv (.t 8)⟩,
    ⟨(some 93), none, .call 24 [(.t 91), (.t 92), (.c (.int .i64 5))]⟩]))))
  (.seq (.reg [⟨(some 95), none, .mv (.t 0)⟩,
    ⟨(some 96), none, .call 20 [(.t 95), (.c (.str [101, 110, 99, 61, 34]))]⟩,
    ⟨(some 94), none, .mv (.t 96)⟩])
  (.cond (.t 94) (.seq (.reg [⟨(some 97), none, .mv (.t 11)⟩,
    ⟨(some 98), none, .un .not (.t 97)⟩,
    ⟨(some 99), none, .mv (.t 8)⟩,
    ⟨(some 100), none, .call 24 [(.t 98), (.t 99), (.c (.int .i64 11))]⟩])
  (.seq (.reg [⟨(some 11), none, .mv (.c (.bool true))⟩])
  (.reg [⟨(some 101), none, .mv (.t 0)⟩,
    ⟨(some 102), none, .call 21 [(.t 101), (.c (.str [34]))]⟩,
    ⟨(some 103), none, .bin .eql (.t 102) (.c (.str [98, 54, 52]))⟩,
    ⟨(some 104), none, .mv (.t 8)⟩,
    ⟨(some 105), none, .call 24 [(.t 103), (.t 104), (.c (.int .i64 5))]⟩])))
  (.reg [⟨(some 64), none, .mv (.t 8)⟩,
    ⟨(some 65), none, .call 24 [(.c (.bool false)), (.t 64), (.c (.int .i64 3))]⟩])))))))))))))))))
  (.seq (.reg [⟨(some 106), none, .mv (.t 0)⟩,
    ⟨(some 107), none, .mv (.t 2)⟩,
    ⟨(some 108), none, .call 45 [(.t 106), (.t 9), (.t 107)]⟩,
    ⟨(some 13), none, .mv (.t 108)⟩])
  (.seq (.reg [⟨(some 109), none, .mv (.t 0)⟩,
    ⟨(some 110), none, .nilc (.t 109)⟩,
    ⟨(some 111), none, .fadr 1 (.t 110)⟩,
    ⟨(some 112), none, .ld false 1 (.t 111)⟩,
    ⟨(some 113), none, .bin .sub (.t 112) (.c (.int .i64 2))⟩,
    ⟨(some 14), none, .mv (.t 113)⟩])
  (.seq (.reg [⟨(some 114), none, .mv (.t 0)⟩,
    ⟨(some 115), none, .fadr 1 (.t 9)⟩,
    ⟨(some 116), none, .ld false 1 (.t 115)⟩,
    ⟨(some 117), none, .call 46 [(.t 114), (.t 116)]⟩])
  (.seq (.block 3 (.seq (.reg [⟨(some 121), none, .fadr 4 (.t 9)⟩,
    ⟨(some 122), none, .ld false 1 (.t 121)⟩,
    ⟨(some 123), none, .len false (.t 122)⟩,
    ⟨(some 124), none, .bin .gtr (.t 123) (.c (.int .i64 0))⟩,
    ⟨(some 120), none, .mv (.t 124)⟩])
  (.cond (.t 120) (.reg [⟨(some 125), none, .mv (.t 11)⟩,
    ⟨(some 126), none, .un .not (.t 125)⟩,
    ⟨(some 127), none, .mv (.t 126)⟩,
    ⟨(some 128), some (127, true), .mv (.t 13)⟩,
    ⟨(some 129), some (127, true), .call 47 [(.t 128), (.c (.str [32, 9, 10, 13]))]⟩,
    ⟨(some 130), some (127, true), .bin .eql (.t 129) (.c (.str []))⟩,
    ⟨(some 131), none, .pick (.t 127) (.t 130) (.c (.bool false))⟩,
    ⟨(some 132), none, .mv (.t 14)⟩,
    ⟨(some 133), none, .call 24 [(.t 131), (.t 132), (.c (.int .i64 7))]⟩])
  (.seq (.reg [⟨(some 135), none, .mv (.t 11)⟩,
    ⟨(some 134), none, .mv (.t 135)⟩])
  (.cond (.t 134) (.seq (.reg [⟨(some 137), none, .mv (.t 13)⟩,
    ⟨(some 138), none, .call 48 [(.t 137)]⟩,
    ⟨(some 136), none, .mv (.t 138)⟩,
    ⟨(some 139), none, .ext (.t 136) 0⟩,
    ⟨(some 140), none, .ext (.t 136) 1⟩,
    ⟨(some 15), none, .mv (.t 139)⟩,
    ⟨(some 16), none, .mv (.t 140)⟩])
  (.seq (.reg [⟨(some 141), none, .mv (.t 16)⟩,
    ⟨(some 142), none, .bin .eql (.t 141) (.c (.int .i64 0))⟩,
    ⟨(some 143), none, .mv (.t 14)⟩,
    ⟨(some 144), none, .mv (.t 16)⟩,
    ⟨(some 145), none, .call 24 [(.t 142), (.t 143), (.t 144)]⟩])
  (.reg [⟨(some 146), none, .mv (.t 15)⟩,
    ⟨(some 147), none, .mv (.t 15)⟩,
    ⟨(some 148), none, .bin .neq (.t 147) (.c (.str []))⟩,
    ⟨(some 149), none, .fadr 2 (.t 9)⟩,
    ⟨none, none, .st 1 (.t 149) (.t 146)⟩,
    ⟨(some 150), none, .fadr 3 (.t 9)⟩,
    ⟨none, none, .st 1 (.t 150) (.t 148)⟩])))
  (.reg [⟨(some 118), none, .mv (.t 13)⟩,
    ⟨(some 119), none, .fadr 2 (.t 9)⟩,
    ⟨none, none, .st 1 (.t 119) (.t 118)⟩]))))))
  (.seq (.reg [⟨(some 151), none, .ld true 5 (.t 9)⟩,
    ⟨none, none, .st 5 (.t 6) (.t 151)⟩])
  .ret)))))))))))))))), [.cell 6 true 5]⟩
theorem cF23 : cFn Go.Proofs.Tryd.prog 23 = some F23 := by kernel_rfl
variable {G : Gl}

theorem attrsF_prog {s : List UInt8} : ∀ (f i : Nat) (pg : Int) (nm by_ : Bool) (c : Bool) (j : Nat) (p : Int) (y : Bool), attrsF s f i pg nm by_ = .ok (c, j, p, y) → i ≤ s.length → i < j ∧ j ≤ s.length
  | 0, _, _, _, _, _, _, _, _, h, _ => by simp [attrsF] at h
  | f + 1, i, pg, nm, by_, c, j, p, y, h, hi => by
    rw [attrsF] at h
    try dsimp only at h
    have hw := wsN_le (s.drop i)
    rw [List.length_drop] at hw
    cases e1 : List.isPrefixOf [47, 62] (s.drop (i + wsN (s.drop i)))
    case true =>
      rw [e1] at h
      simp only [cond_true, Except.ok.injEq, Prod.mk.injEq] at h
      have := prefix_le e1 (by simp)
      simp only [List.length_cons, List.length_nil] at this
      omega
    rw [e1, cond_false] at h
    cases e2 : List.isPrefixOf [62] (s.drop (i + wsN (s.drop i)))
    case true =>
      rw [e2] at h
      simp only [cond_true, Except.ok.injEq, Prod.mk.injEq] at h
      have := prefix_le e2 (by simp)
      simp only [List.length_cons, List.length_nil] at this
      omega
    rw [e2, cond_false] at h
    obtain ⟨_, h⟩ := bif_ok h
    cases e3 : List.isPrefixOf spaceMark (s.drop (i + wsN (s.drop i)))
    case true =>
      rw [e3, cond_true] at h
      obtain ⟨_, h⟩ := bif_ok h
      have hpl := prefix_le e3 (by simp [spaceMark])
      have h7 : spaceMark.length = 7 := rfl
      rw [h7] at hpl
      cases hu : uptoF s [34] (i + wsN (s.drop i) + 7) with
      | error e => rw [hu] at h; cases h
      | ok q =>
        obtain ⟨v, k⟩ := q
        rw [hu] at h
        dsimp only at h
        have hp := uptoF_prog hu hpl
        cases e4 : decide (pageOf v ≥ 0)
        · rw [e4] at h; cases h
        · rw [e4] at h
          have := attrsF_prog f k _ _ _ _ _ _ _ h hp.2
          omega
    rw [e3, cond_false] at h
    cases e5 : List.isPrefixOf codeMark (s.drop (i + wsN (s.drop i)))
    · rw [e5] at h; cases h
    rw [e5, cond_true] at h
    obtain ⟨_, h⟩ := bif_ok h
    have hpl := prefix_le e5 (by simp [codeMark])
    have h5 : codeMark.length = 5 := rfl
    rw [h5] at hpl
    cases hu : uptoF s [34] (i + wsN (s.drop i) + 5) with
    | error e => rw [hu] at h; cases h
    | ok q =>
      obtain ⟨v, k⟩ := q
      rw [hu] at h
      dsimp only at h
      have hp := uptoF_prog hu hpl
      cases e4 : v == b64
      · rw [e4] at h; cases h
      · rw [e4] at h
        have := attrsF_prog f k _ _ _ _ _ _ _ h hp.2
        omega

theorem closeF_prog {s n : List UInt8} {i q : Nat} (h : closeF s n i = .ok q) : i < q ∧ q ≤ s.length := by
  unfold closeF at h
  dsimp only at h
  obtain ⟨_, h⟩ := bif_ok h
  obtain ⟨_, h⟩ := bif_ok h
  cases e1 : List.isPrefixOf [62] (s.drop (i + span isNameC s.length (s.drop i) + wsN (s.drop (i + span isNameC s.length (s.drop i)))))
  · rw [e1] at h; cases h
  rw [e1] at h
  simp only [cond_true, Except.ok.injEq] at h
  have := prefix_le e1 (by simp)
  simp only [List.length_cons, List.length_nil] at this
  omega

theorem withinF_len {s : List UInt8} {kid : Nat → RES (El × Nat)} {more : Bool} (hk : ∀ i x j, i ≤ s.length → kid i = .ok (x, j) → i < j ∧ j ≤ s.length ∧ fits x) : ∀ (f i : Nat) (b : List UInt8) (ks : List El) (t : List UInt8) (ks' : List El) (m : Nat),
    withinF s kid more f i b ks = .ok (t, ks', m) → i ≤ s.length → t.length + 4 * i ≤ b.length + 4 * m
  | 0, i, b, ks, t, ks', m, h, _ => by simp [withinF] at h
  | f + 1, i, b, ks, t, ks', m, h, hi => by
    rw [withinF] at h
    cases e1 : List.isPrefixOf [60, 47] (s.drop i)
    case true =>
      rw [e1] at h
      simp only [cond_true, Except.ok.injEq, Prod.mk.injEq] at h
      obtain ⟨rfl, rfl, rfl⟩ := h
      omega
    rw [e1, cond_false] at h
    cases hd : s.drop i with
    | nil => rw [hd] at h; cases h
    | cons c l =>
      have hlt : i < s.length := by
        have := congrArg List.length hd
        simp only [List.length_drop, List.length_cons] at this
        omega
      rw [hd] at h
      dsimp only at h
      cases e2 : c == 38
      case true =>
        rw [e2, cond_true] at h
        cases he : entityF s i with
        | error e => rw [he] at h; cases h
        | ok p =>
          obtain ⟨x, j⟩ := p
          rw [he] at h
          have hp := entityF_prog he
          have hxl := entityF_len he
          have a1 := withinF_len hk f j _ _ _ _ _ h hp.2
          rw [List.length_append] at a1
          omega
      rw [e2, cond_false] at h
      cases e3 : List.isPrefixOf rawM (c :: l)
      case true =>
        rw [e3, cond_true] at h
        have hpl := prefix_le (t := rawM) (s := s) (i := i) (by rw [hd]; exact e3) (by simp [rawM])
        cases he : uptoF s rawEnd (i + 9) with
        | error e => rw [he] at h; cases h
        | ok p =>
          obtain ⟨x, j⟩ := p
          rw [he] at h
          have hp := uptoF_prog he hpl
          have hxl := uptoF_len he
          have a1 := withinF_len hk f j _ _ _ _ _ h hp.2
          try rw [List.length_append] at a1
          omega
      rw [e3, cond_false] at h
      cases e4 : List.isPrefixOf remM (c :: l)
      case true =>
        rw [e4, cond_true] at h
        have hpl := prefix_le (t := remM) (s := s) (i := i) (by rw [hd]; exact e4) (by simp [remM])
        cases he : uptoF s remEnd (i + 4) with
        | error e => rw [he] at h; cases h
        | ok p =>
          obtain ⟨x, j⟩ := p
          rw [he] at h
          have hp := uptoF_prog he hpl
          have hxl := uptoF_len he
          have a1 := withinF_len hk f j _ _ _ _ _ h hp.2
          try rw [List.length_append] at a1
          omega
      rw [e4, cond_false] at h
      cases e5 : c == 60
      case false =>
        rw [e5] at h
        have a1 := withinF_len hk f (i + 1) _ _ _ _ _ h (by omega)
        rw [List.length_append, List.length_singleton] at a1
        omega
      rw [e5, Bool.not_true, cond_false] at h
      obtain ⟨_, h⟩ := bif_ok h
      obtain ⟨_, h⟩ := bif_ok h
      obtain ⟨e6, h⟩ := bif_ok h
      rw [Bool.not_eq_false', decide_eq_true_eq] at e6
      cases he : kid i with
      | error e => rw [he] at h; cases h
      | ok p =>
        obtain ⟨x, j⟩ := p
        rw [he] at h
        have hp := hk i x j hi he
        have a1 := withinF_len hk f j _ _ _ _ _ h hp.2.1
        omega

theorem elemB_prog {s : List UInt8} {kid : Int → Nat → RES (El × Nat)} {more : Bool} {pg : Int} (hk : ∀ p i x j, i ≤ s.length → kid p i = .ok (x, j) → i < j ∧ j ≤ s.length ∧ fits x) {i : Nat} {x : El} {j : Nat} (hi : i ≤ s.length) (h : elemB s kid more pg i = .ok (x, j)) :
    i < j ∧ j ≤ s.length ∧ fits x := by
  unfold elemB at h
  obtain ⟨_, h⟩ := bif_ok h
  obtain ⟨e1, h⟩ := bif_ok h
  obtain ⟨_, h⟩ := bif_ok h
  rw [Bool.not_eq_false'] at e1
  have hpl := prefix_le e1 (by simp)
  simp only [List.length_cons, List.length_nil] at hpl
  have hsp := span_le isNameC s.length (s.drop (i + 1))
  rw [List.length_drop] at hsp
  cases ha : attrsF s (s.length + 1) (i + 1 + span isNameC s.length (s.drop (i + 1))) pg false false with
  | error e => rw [ha] at h; cases h
  | ok q =>
    obtain ⟨c, a, p, y⟩ := q
    rw [ha] at h
    have hp := attrsF_prog _ _ _ _ _ _ _ _ _ ha (by omega)
    cases c with
    | true =>
      simp only [Except.ok.injEq, Prod.mk.injEq] at h
      obtain ⟨rfl, rfl⟩ := h
      exact ⟨by omega, hp.2, by simp [fits, fitss]⟩
    | false =>
      dsimp only at h
      cases hw : withinF s (kid p) more (s.length + 1) a [] [] with
      | error e => rw [hw] at h; cases h
      | ok q =>
        obtain ⟨t, ks, m⟩ := q
        rw [hw] at h
        dsimp only at h
        have hwp := withinF_prog (hk p) _ _ _ _ _ _ _ hw hp.2 trivial (by simp)
        cases hc : closeF s (List.take (span isNameC s.length (List.drop (i + 1) s)) (List.drop (i + 1) s)) m with
        | error e => rw [hc] at h; cases h
        | ok q =>
          rw [hc] at h
          dsimp only at h
          have hcp := closeF_prog hc
          have fin : ∀ x', .ok (x', q) = (.ok (x, j) : RES (El × Nat)) → fits x' → i < j ∧ j ≤ s.length ∧ fits x := by
            intro x' h1 h2
            simp only [Except.ok.injEq, Prod.mk.injEq] at h1
            obtain ⟨rfl, rfl⟩ := h1
            exact ⟨by omega, hcp.2, h2⟩
          unfold endF at h
          cases c1 : decide (0 < ks.length)
          · rw [c1, cond_false] at h
            cases y
            · exact fin _ h (by simp [fits, fitss])
            · rw [cond_true] at h
              cases c2 : (decF t).2 == 0
              · rw [c2] at h; cases h
              · rw [c2] at h
                exact fin _ h (by simp [fits, fitss])
          · rw [c1, cond_true] at h
            cases c2 : (!y && trimF t == [])
            · rw [c2] at h; cases h
            · rw [c2] at h
              exact fin _ h ⟨by omega, hwp.2.2.1⟩

theorem elemF_prog {s : List UInt8} : ∀ (d : Nat) (pg : Int) (i : Nat) (x : El) (j : Nat), i ≤ s.length → elemF s d pg i = .ok (x, j) → i < j ∧ j ≤ s.length ∧ fits x
  | 0, pg, i, x, j, hi, h => elemB_prog (fun _ _ _ _ _ h => by cases h) hi h
  | d + 1, pg, i, x, j, hi, h => elemB_prog (fun p i x j => elemF_prog d p i x j) hi h

theorem trim_ok' (t : List UInt8) (hs : t.length ≤ 4611686018427387904) : PF Go.Proofs.Tryd.prog G 47 [.str t, .str [32, 9, 10, 13]] (.str (trimF t)) :=
  trim_ok t [32, 9, 10, 13] (by decide) (by decide) (by decide) (by omega)

/-- The heap view of an element that is read: its result's block, the reader, its own variable. -/
def eH (H : Hp) (b b6 be : Nat) (s : List UInt8) (ty : TypeId) (i : Nat) (cs : List DV) : Hp := ((H.upd b6 (some (.cells Z5 elT))).upd b (rd s i ty)).upd be (some (.cells cs elT))

section
variable {H : Hp} {b b6 be : Nat} {s : List UInt8} {ty : TypeId} {i : Nat} {cs : List DV}
theorem eH_b (h : b ≠ be) : eH H b b6 be s ty i cs b = rd s i ty := by rw [eH, Hp.upd_ne h]; exact Hp.upd_same
theorem eH_be : eH H b b6 be s ty i cs be = some (.cells cs elT) := Hp.upd_same
theorem eH_b6 (h1 : b6 ≠ b) (h2 : b6 ≠ be) : eH H b b6 be s ty i cs b6 = some (.cells Z5 elT) := by rw [eH, Hp.upd_ne h2, Hp.upd_ne h1]; exact Hp.upd_same
theorem eH_setb (h : b ≠ be) (j : Nat) : (eH H b b6 be s ty i cs).upd b (rd s j ty) = eH H b b6 be s ty j cs := by
  rw [eH, Hp.upd_comm (Ne.symm h), Hp.upd_upd]; rfl
theorem eH_setbe (cs' : List DV) : (eH H b b6 be s ty i cs).upd be (some (.cells cs' elT)) = eH H b b6 be s ty i cs' := Hp.upd_upd
theorem eH_sub (h1 : b6 ≠ b) (h2 : be ≠ b) (h3 : be ≠ b6) (h4 : H b6 = none) (h5 : H be = none) : SubH (H.upd b (rd s i ty)) (eH H b b6 be s ty i cs) := by
  rw [eH, Hp.upd_comm h1]
  exact (SubH.fresh (by rw [Hp.upd_ne h1]; exact h4)).trans (SubH.fresh (by rw [Hp.upd_ne h3, Hp.upd_ne h2]; exact h5))
end

theorem SubH.over {A B : Hp} {k : Nat} {o : Option DO} (h : SubH A B) (hk : A k = none) : SubH A (B.upd k o) := by

  intro q x e
  have : q ≠ k := fun e' => by rw [e', hk] at e; cases e
  rw [Hp.upd_ne this]; exact h q x e
theorem KD.les {p : Int} {n t : List UInt8} {o : Bool} {ks : List El} {K : DV} (h : KD ks K) : DLes [.int .i64 p, .str n, .str t, .bool o, K] (elC (.mk p n t o ks)) := by
  rw [elC]
  refine .cons (DLe.refl _) (.cons (DLe.refl _) (.cons (DLe.refl _) (.cons (DLe.refl _) (.cons ?_ .nil))))
  rcases h with ⟨rfl, rfl⟩ | rfl
  · exact DLe.nils
  · exact DLe.refl _
theorem KD.len {ks : List El} {K : DV} (h : KD ks K) : lenD false K = some (.int .i64 ks.length) := by
  rcases h with ⟨rfl, rfl⟩ | rfl <;> rfl

theorem elem_step (hG : GOK G) {s : List UInt8} {ty : TypeId} {b deep : Nat} {kid : Int → Nat → RES (El × Nat)} {more : Bool} (hs : s.length ≤ 100000) (hd : deep ≤ 12) (hm : more = decide (deep < 12))
    (hprog : ∀ p i x j, i ≤ s.length → kid p i = .ok (x, j) → i < j ∧ j ≤ s.length ∧ fits x)
    (hkid : deep < 12 → ∀ p i' HH, HH b = rd s i' ty → i' ≤ s.length → CALL Go.Proofs.Tryd.prog G 23 [.ptr b 0, .int .i64 p, .int .i64 ((deep + 1 : Nat) : Int)] HH (Kr1 (kid p i') (fun v => .agg (elC v.1)) (·.2) s b ty HH) (Kp1 (kid p i') s b ty HH))
    (pg : Int) (i : Nat) (H : Hp) (hb : H b = rd s i ty) (hi : i ≤ s.length) :
    CALL Go.Proofs.Tryd.prog G 23 [.ptr b 0, .int .i64 pg, .int .i64 deep] H (Kr1 (elemB s kid more pg i) (fun v => .agg (elC v.1)) (·.2) s b ty H) (Kp1 (elemB s kid more pg i) s b ty H) := by
  generalize hRR : elemB s kid more pg i = R
  have hR := hRR
  unfold elemB at hR
  refine CALL.of cF23 (Nat.le_of_ble_eq_true rfl) ?_
  refine AC.seq (AC.reg ?_)
  refine RG.alloc (by first | exact trivial | exact rfl) fun b6 hb6 => ?_
  have h6b : b6 ≠ b := fun e => by rw [e, hb] at hb6; cases hb6
  have hb1 : (H.upd b6 (some (.cells Z5 elT))) b = rd s i ty := by rw [Hp.upd_ne (Ne.symm h6b)]; exact hb
  have hH1 : H.upd b6 (some (.cells [.int .i64 0, .str [], .str [], .bool false, .nils] 24)) = H.upd b6 (some (.cells Z5 elT)) := rfl
  rw [hH1]
  have bad1 : ∀ {e : Int × Int} {j : Nat} {HH : Hp}, R = .error e → j ≤ s.length → SubH (H.upd b (rd s j ty)) HH → ∃ H', SubH H' HH ∧ Kp1 R s b ty H (fault e.1 e.2) H' := fun {e j _} h1 h2 h3 => ⟨_, h3, e, j, h1, rfl, h2, rfl⟩
  have sub6 : ∀ j, SubH (H.upd b (rd s j ty)) ((H.upd b6 (some (.cells Z5 elT))).upd b (rd s j ty)) := fun j => by
    rw [Hp.upd_comm h6b]
    exact SubH.fresh (by rw [Hp.upd_ne h6b]; exact hb6)
  refine RG.nilS (AC.scp (AC.seq (AC.drawV [1, 7] rfl ?_)))
  first | refine VD.z0 0 ?_ | refine VD.z1 0 ?_ | refine VD.z2 0 ?_ | refine VD.z3 0 ?_ | refine VD.z4 0 ?_ | refine VD.z5 0 ?_
  first | refine VD.z0 3 ?_ | refine VD.z1 3 ?_ | refine VD.z2 3 ?_ | refine VD.z3 3 ?_ | refine VD.z4 3 ?_ | refine VD.z5 3 ?_
  first | refine VD.z0 4 ?_ | refine VD.z1 4 ?_ | refine VD.z2 4 ?_ | refine VD.z3 4 ?_ | refine VD.z4 4 ?_ | refine VD.z5 4 ?_
  first | refine VD.z0 5 ?_ | refine VD.z1 5 ?_ | refine VD.z2 5 ?_ | refine VD.z3 5 ?_ | refine VD.z4 5 ?_ | refine VD.z5 5 ?_
  first | refine VD.z0 6 ?_ | refine VD.z1 6 ?_ | refine VD.z2 6 ?_ | refine VD.z3 6 ?_ | refine VD.z4 6 ?_ | refine VD.z5 6 ?_
  refine VD.pe (K := fun d H' => d = .str (s.drop i) ∧ H' = H.upd b6 (some (.cells Z5 elT))) (Kp := fun _ _ => False) 1 rfl rfl (EF.call rfl (left_ok hb1 hi)) (fun _ _ _ h => h.elim) (fun d H' ⟨f1, f2⟩ => ?_)
  subst f1; subst f2
  refine ⟨(by (repeat (refine stabAll_cons rfl (by first | exact Stab.ld rfl (by first | assumption | exact Hp.upd_same | (rw [Hp.upd_ne (by first | assumption | omega)]; first | assumption | exact Hp.upd_same | (rw [Hp.upd_ne (by first | assumption | omega)]; first | assumption | exact Hp.upd_same))) rfl rfl | exact Stab.of rfl rfl) ?_)); exact stabAll_nil), ?_⟩
  first | refine VD.z0 2 ?_ | refine VD.z1 2 ?_ | refine VD.z2 2 ?_ | refine VD.z3 2 ?_ | refine VD.z4 2 ?_ | refine VD.z5 2 ?_
  refine VD.pe (K := fun d H' => (!(s.drop i == [])) = true ∧ d = .tup [] ∧ H' = H.upd b6 (some (.cells Z5 elT))) (Kp := fun d H' => (!(s.drop i == [])) = false ∧ d = fault i 1 ∧ H' = H.upd b6 (some (.cells Z5 elT))) 7 rfl rfl (EF.call rfl (need_ok _ i 1 _)) (fun d fr' H' ⟨f1, f2, f3⟩ => ?_) (fun d H' ⟨f1, f2, f3⟩ => ?_)
  · subst f2; subst f3
    have f4 : (s.drop i == []) = true := by simpa using f1
    rw [f4] at hR
    refine bad1 (e := (i, 1)) hR.symm hi ?_
    have := sub6 i
    rw [Hp.upd_id hb1] at this
    exact this
  subst f2; subst f3
  refine ⟨(by (repeat (refine stabAll_cons rfl (by first | exact Stab.ld rfl (by first | assumption | exact Hp.upd_same | (rw [Hp.upd_ne (by first | assumption | omega)]; first | assumption | exact Hp.upd_same | (rw [Hp.upd_ne (by first | assumption | omega)]; first | assumption | exact Hp.upd_same))) rfl rfl | exact Stab.of rfl rfl) ?_)); exact stabAll_nil), ?_⟩
  have f4 : (s.drop i == []) = false := by simpa using f1
  rw [f4, cond_false] at hR
  refine VD.pd rfl ?_
  refine AC.to [(0, .ptr b 0), (1, .int .i64 pg), (2, .int .i64 deep), (6, .ptr b6 0)] ⟨rfl, rfl, rfl, rfl, trivial⟩ (AC.seq (AC.reg ?_))
  repeat (first | refine RG.z0 ?_ | refine RG.z1 ?_ | refine RG.z2 ?_ | refine RG.z3 ?_ | refine RG.z4 ?_ | refine RG.z5 ?_ | refine RG.z6 ?_ | refine RG.z7 ?_ | refine RG.z8 ?_ | refine RG.z9 ?_ | refine RG.zA ?_ | refine RG.zB ?_ | refine RG.zC ?_)
  refine RG.nilS (AC.seq (AC.reg ?_))
  (first | refine RG.z0 ?_ | refine RG.z1 ?_ | refine RG.z2 ?_ | refine RG.z3 ?_ | refine RG.z4 ?_ | refine RG.z5 ?_ | refine RG.z6 ?_ | refine RG.z7 ?_ | refine RG.z8 ?_ | refine RG.z9 ?_ | refine RG.zA ?_ | refine RG.zB ?_ | refine RG.zC ?_)
  refine RG.callR (by first | exact trivial | exact rfl) rfl (has_ok (t := [60]) hb1 hi (by simp; omega)) ?_
  (first | refine RG.z0 ?_ | refine RG.z1 ?_ | refine RG.z2 ?_ | refine RG.z3 ?_ | refine RG.z4 ?_ | refine RG.z5 ?_ | refine RG.z6 ?_ | refine RG.z7 ?_ | refine RG.z8 ?_ | refine RG.z9 ?_ | refine RG.zA ?_ | refine RG.zB ?_ | refine RG.zC ?_)
  refine RG.call (by first | exact trivial | exact rfl) rfl (need_ok _ i 3 _) (fun d H' ⟨g1, g2, g3⟩ => ?_) (fun d H' ⟨g1, g2, g3⟩ => ?_)
  rotate_left
  · subst g2; subst g3
    rw [g1] at hR ⊢
    exact bad1 (e := (i, 3)) hR.symm hi (sub6 i)
  subst g2; subst g3
  rw [g1] at hR ⊢
  simp only [Bool.not_true, cond_false, cond_true, List.length_singleton] at hR ⊢
  have hpl := prefix_le g1 (by simp)
  simp only [List.length_singleton] at hpl
  have hsp := span_le isNameC s.length (s.drop (i + 1))
  rw [List.length_drop] at hsp
  generalize hk : span isNameC s.length (s.drop (i + 1)) = k at hR hsp
  generalize hn : (s.drop (i + 1)).take k = n at hR
  have hnl : n.length ≤ s.length := by rw [← hn, List.length_take, List.length_drop]; omega
  refine RG.nilS (AC.seq (AC.reg ?_))
  have hb2 : ((H.upd b6 (some (.cells Z5 elT))).upd b (rd s (i + 1) ty)) b = rd s (i + 1) ty := Hp.upd_same
  repeat (first | refine RG.z0 ?_ | refine RG.z1 ?_ | refine RG.z2 ?_ | refine RG.z3 ?_ | refine RG.z4 ?_ | refine RG.z5 ?_ | refine RG.z6 ?_ | refine RG.z7 ?_ | refine RG.z8 ?_ | refine RG.z9 ?_ | refine RG.zA ?_ | refine RG.zB ?_ | refine RG.zC ?_)
  refine RG.nilS (AC.seq (AC.reg ?_))
  (first | refine RG.z0 ?_ | refine RG.z1 ?_ | refine RG.z2 ?_ | refine RG.z3 ?_ | refine RG.z4 ?_ | refine RG.z5 ?_ | refine RG.z6 ?_ | refine RG.z7 ?_ | refine RG.z8 ?_ | refine RG.z9 ?_ | refine RG.zA ?_ | refine RG.zB ?_ | refine RG.zC ?_)
  (first | refine RG.z0 ?_ | refine RG.z1 ?_ | refine RG.z2 ?_ | refine RG.z3 ?_ | refine RG.z4 ?_ | refine RG.z5 ?_ | refine RG.z6 ?_ | refine RG.z7 ?_ | refine RG.z8 ?_ | refine RG.z9 ?_ | refine RG.zA ?_ | refine RG.zB ?_ | refine RG.zC ?_)
  refine RG.callR (by first | exact trivial | exact rfl) rfl (name_ok hb2 hpl (by omega)) ?_
  rw [hk, hn, Hp.upd_upd]
  refine RG.p (d := .agg [.int .i64 pg, .str n, .str [], .bool false, .nils]) (by first | exact trivial | exact rfl) rfl ?_
  refine RG.alloc (by first | exact trivial | exact rfl) fun be hbe => ?_
  have heb : be ≠ b := fun e => by rw [e, Hp.upd_same] at hbe; cases hbe
  rw [Hp.upd_ne heb] at hbe
  have he6 : be ≠ b6 := fun e => by rw [e, Hp.upd_same] at hbe; cases hbe
  rw [Hp.upd_ne he6] at hbe
  have hE0 : ((H.upd b6 (some (.cells Z5 elT))).upd b (rd s (i + 1 + k) ty)).upd be (some (.cells [.int .i64 0, .str [], .str [], .bool false, .nils] 24)) = eH H b b6 be s ty (i + 1 + k) Z5 := rfl
  rw [hE0]
  have hbe' : b ≠ be := Ne.symm heb
  refine RG.sto (cs := Z5) (ty := elT) (ys := [.int .i64 pg, .str n, .str [], .bool false, .nils]) (by first | exact trivial | exact rfl) (by conv => lhs; whnf) eH_be (by conv => lhs; whnf) rfl rfl (by exact Nat.le_refl _) ?_
  rw [eH_setbe]
  have hsp5 : spliceL 0 [.int .i64 pg, .str n, .str [], .bool false, .nils] Z5 = [.int .i64 pg, .str n, .str [], .bool false, .nils] := rfl
  rw [hsp5]
  have bad : ∀ {e : Int × Int} {j : Nat} {cs : List DV}, R = .error e → j ≤ s.length → ∃ H', SubH H' (eH H b b6 be s ty j cs) ∧ Kp1 R s b ty H (fault e.1 e.2) H' := fun h1 h2 => bad1 h1 h2 (eH_sub h6b heb he6 hb6 hbe)
  refine RG.nilS ?_
  refine AC.to [(0, .ptr b 0), (2, .int .i64 deep), (6, .ptr b6 0), (8, .int .i64 ((i + 1 : Nat) : Int)), (9, .ptr be 0)] ⟨rfl, rfl, rfl, rfl, rfl, trivial⟩ (AC.seq ?_)
  refine AC.mono (Q := fun e fr2 H2 => match e with
      | .normal => H2 = eH H b b6 be s ty (i + 1 + k) [.int .i64 pg, .str n, .str [], .bool false, .nils] ∧ nameOk n = true ∧ Agrees fr2 [(0, .ptr b 0), (2, .int .i64 deep), (6, .ptr b6 0), (9, .ptr be 0)]
      | .panic d => d = fault ((i + 1 : Nat) : Int) 14 ∧ H2 = eH H b b6 be s ty (i + 1 + k) [.int .i64 pg, .str n, .str [], .bool false, .nils] ∧ nameOk n = false
      | _ => False) (AC.reg ?_) ?_
  · (first | refine RG.z0 ?_ | refine RG.z1 ?_ | refine RG.z2 ?_ | refine RG.z3 ?_ | refine RG.z4 ?_ | refine RG.z5 ?_ | refine RG.z6 ?_ | refine RG.z7 ?_ | refine RG.z8 ?_ | refine RG.z9 ?_ | refine RG.zA ?_ | refine RG.zB ?_ | refine RG.zC ?_)
    refine RG.ld (by first | exact trivial | exact rfl) (by conv => lhs; whnf) eH_be (d := .str n) rfl ?_
    cases n with
    | nil =>
      repeat (first | refine RG.z0 ?_ | refine RG.z1 ?_ | refine RG.z2 ?_ | refine RG.z3 ?_ | refine RG.z4 ?_ | refine RG.z5 ?_ | refine RG.z6 ?_ | refine RG.z7 ?_ | refine RG.z8 ?_ | refine RG.z9 ?_ | refine RG.zA ?_ | refine RG.zB ?_ | refine RG.zC ?_)
      exact RG.call (by first | exact trivial | exact rfl) rfl (need_ok false _ 14 _) (fun d H5 ⟨k1, _⟩ => by cases k1) (fun d H5 ⟨_, k2, k3⟩ => ⟨k2, k3, rfl⟩)
    | cons c l =>
      refine RG.p (d := .bool true) (by first | exact trivial | exact rfl) rfl ?_
      (first | refine RG.z0 ?_ | refine RG.z1 ?_ | refine RG.z2 ?_ | refine RG.z3 ?_ | refine RG.z4 ?_ | refine RG.z5 ?_ | refine RG.z6 ?_ | refine RG.z7 ?_ | refine RG.z8 ?_ | refine RG.z9 ?_ | refine RG.zA ?_ | refine RG.zB ?_ | refine RG.zC ?_)
      (first | refine RG.z0 ?_ | refine RG.z1 ?_ | refine RG.z2 ?_ | refine RG.z3 ?_ | refine RG.z4 ?_ | refine RG.z5 ?_ | refine RG.z6 ?_ | refine RG.z7 ?_ | refine RG.z8 ?_ | refine RG.z9 ?_ | refine RG.zA ?_ | refine RG.zB ?_ | refine RG.zC ?_)
      refine RG.ld (by first | exact trivial | exact rfl) (by conv => lhs; whnf) eH_be (d := .str (c :: l)) rfl ?_
      refine RG.at (b := c) (by first | exact trivial | exact rfl) (by conv => lhs; whnf) (by conv => lhs; whnf) (by omega) rfl ?_
      refine RG.callP (by first | exact trivial | exact rfl) rfl (letter_ok c) ?_
      repeat (first | refine RG.z0 ?_ | refine RG.z1 ?_ | refine RG.z2 ?_ | refine RG.z3 ?_ | refine RG.z4 ?_ | refine RG.z5 ?_ | refine RG.z6 ?_ | refine RG.z7 ?_ | refine RG.z8 ?_ | refine RG.z9 ?_ | refine RG.zA ?_ | refine RG.zB ?_ | refine RG.zC ?_)
      cases e1 : isLetter c
      · repeat (first | refine RG.z0 ?_ | refine RG.z1 ?_ | refine RG.z2 ?_ | refine RG.z3 ?_ | refine RG.z4 ?_ | refine RG.z5 ?_ | refine RG.z6 ?_ | refine RG.z7 ?_ | refine RG.z8 ?_ | refine RG.z9 ?_ | refine RG.zA ?_ | refine RG.zB ?_ | refine RG.zC ?_)
        exact RG.call (by first | exact trivial | exact rfl) rfl (need_ok false _ 14 _) (fun d H5 ⟨k1, _⟩ => by cases k1) (fun d H5 ⟨_, k2, k3⟩ => ⟨k2, k3, by rw [nameOk, e1]; rfl⟩)
      · (first | refine RG.z0 ?_ | refine RG.z1 ?_ | refine RG.z2 ?_ | refine RG.z3 ?_ | refine RG.z4 ?_ | refine RG.z5 ?_ | refine RG.z6 ?_ | refine RG.z7 ?_ | refine RG.z8 ?_ | refine RG.z9 ?_ | refine RG.zA ?_ | refine RG.zB ?_ | refine RG.zC ?_)
        refine RG.ld (by first | exact trivial | exact rfl) (by conv => lhs; whnf) eH_be (d := .str (c :: l)) rfl ?_
        repeat (first | refine RG.z0 ?_ | refine RG.z1 ?_ | refine RG.z2 ?_ | refine RG.z3 ?_ | refine RG.z4 ?_ | refine RG.z5 ?_ | refine RG.z6 ?_ | refine RG.z7 ?_ | refine RG.z8 ?_ | refine RG.z9 ?_ | refine RG.zA ?_ | refine RG.zB ?_ | refine RG.zC ?_)
        exact RG.call (by first | exact trivial | exact rfl) rfl (need_ok (decide ((((c :: l).length : Nat) : Int) ≤ 32)) _ 14 _) (fun d H5 ⟨k1, k2, k3⟩ => RG.nil ⟨k3, by rw [nameOk, e1, k1]; rfl, rfl, rfl, rfl, rfl, trivial⟩) (fun d H5 ⟨k1, k2, k3⟩ => ⟨k2, k3, by rw [nameOk, e1, k1]; rfl⟩)
  rintro e fr2 H2 hq
  cases e with
  | exit id => exact hq.elim
  | ret => exact hq.elim
  | panic d =>
    obtain ⟨k1, k2, k3⟩ := hq
    subst k1; subst k2
    rw [k3] at hR
    exact bad (e := (((i + 1 : Nat) : Int), 14)) hR.symm (by first | omega | (simp; omega))
  | normal =>
  obtain ⟨k1, k2, k3⟩ := hq
  subst k1
  rw [k2, Bool.not_true, cond_false] at hR
  refine AC.to _ k3 (AC.seq (AC.reg ?_))
  repeat (first | refine RG.z0 ?_ | refine RG.z1 ?_ | refine RG.z2 ?_ | refine RG.z3 ?_ | refine RG.z4 ?_ | refine RG.z5 ?_ | refine RG.z6 ?_ | refine RG.z7 ?_ | refine RG.z8 ?_ | refine RG.z9 ?_ | refine RG.zA ?_ | refine RG.zB ?_ | refine RG.zC ?_)
  refine RG.nilS (AC.seq (AC.skip (AC.seq ?_)))
  have hEb : ∀ j cs, eH H b b6 be s ty j cs b = rd s j ty := fun j cs => eH_b hbe'
  have done : ∀ {j : Nat} {cs : List DV} {x : El} {fr : Fr}, fr 6 = .ptr b6 0 → cs.length = 5 → DLes cs (elC x) → R = .ok (x, j) → Fin F23.rs (Kr1 R (fun v => .agg (elC v.1)) (·.2) s b ty H) (Kp1 R s b ty H) .ret fr ((eH H b b6 be s ty j cs).upd b6 (some (.cells cs elT))) := by
    intro j cs x fr h6 hl hle hx
    refine finL (ds := [.agg cs]) (d := .agg (elC x)) (H' := H.upd b (rd s j ty)) ?_ hle.agg (SubH.over (eH_sub h6b heb he6 hb6 hbe) (by rw [Hp.upd_ne h6b]; exact hb6)) ⟨(x, j), hx, rfl, rfl⟩
    have hld : ldD ((eH H b b6 be s ty j cs).upd b6 (some (.cells cs elT))) true 5 (.ptr b6 0) = some (.agg cs) := by
      unfold ldD
      dsimp only
      rw [Hp.upd_same]
      dsimp only
      unfold partD
      rw [if_pos rfl, if_pos (by omega), List.drop_zero, List.take_of_length_le (by omega)]
    show (ldD ((eH H b b6 be s ty j cs).upd b6 (some (.cells cs elT))) true 5 (fr 6)).bind _ = _
    rw [h6, hld]; rfl
  generalize hRA : attrsF s (s.length + 1) (i + 1 + k) pg false false = RA at hR
  have hRAp : ∀ c j p y, RA = .ok (c, j, p, y) → j ≤ s.length := fun c j p y h => (attrsF_prog _ _ _ _ _ _ _ _ _ (hRA.trans h) (by omega)).2
  refine AC.bloopH (α := Nat × Nat × Int × Bool × Bool) (β := Nat × Int × Bool) (fun a => a.1) (fun a => [(0, .ptr b 0), (2, .int .i64 deep), (6, .ptr b6 0), (9, .ptr be 0), (10, .bool a.2.2.2.1), (11, .bool a.2.2.2.2)])
    (fun a H' => H' = eH H b b6 be s ty a.2.1 [.int .i64 a.2.2.1, .str n, .str [], .bool false, .nils] ∧ attrsF s a.1 a.2.1 a.2.2.1 a.2.2.2.1 a.2.2.2.2 = RA ∧ a.2.1 ≤ s.length ∧ s.length < a.2.1 + a.1)
    (fun a => [(0, .ptr b 0), (2, .int .i64 deep), (6, .ptr b6 0), (9, .ptr be 0), (11, .bool a.2.2)]) (fun a H' => H' = eH H b b6 be s ty a.1 [.int .i64 a.2.1, .str n, .str [], .bool false, .nils] ∧ RA = .ok (false, a.1, a.2.1, a.2.2))
    ?_ ?_ (s.length + 1, i + 1 + k, pg, false, false) _ ⟨rfl, hRA, by dsimp only; omega, by dsimp only; omega⟩ ⟨rfl, rfl, rfl, rfl, rfl, rfl, trivial⟩
  · rintro ⟨j, p, y⟩ He fr ⟨h1, h2⟩ hfr
    dsimp only at h1 h2 hfr
    subst h1
    have hj := hRAp _ _ _ _ h2
    rw [h2] at hR
    dsimp only at hR
    refine AC.to _ hfr (AC.seq (AC.reg ?_))
    repeat (first | refine RG.z0 ?_ | refine RG.z1 ?_ | refine RG.z2 ?_ | refine RG.z3 ?_ | refine RG.z4 ?_ | refine RG.z5 ?_ | refine RG.z6 ?_ | refine RG.z7 ?_ | refine RG.z8 ?_ | refine RG.z9 ?_ | refine RG.zA ?_ | refine RG.zB ?_ | refine RG.zC ?_)
    generalize hRW : withinF s (kid p) more (s.length + 1) j [] [] = RW at hR
    have hwc := within_call hG (deep := deep) (kid := kid p) (more := more) (hEb j [.int .i64 p, .str n, .str [], .bool false, .nils]) eH_be hbe' hj (by omega) hd hm (hprog p) (fun h => hkid h p)
    rw [hRW] at hwc
    refine RG.call (by first | exact trivial | exact rfl) rfl hwc (fun d H2 ⟨t, ks, m, K, w1, w2, w3, w4⟩ => ?_) (fun d H2 ⟨e, m, w1, w2, w3, w4⟩ => ?_)
    rotate_left
    · subst w2; subst w4
      rw [w1] at hR
      refine bad1 hR.symm w3 ?_
      have hx : (eH H b b6 be s ty j [.int .i64 p, .str n, .str [], .bool false, .nils]).upd be none = (H.upd b6 (some (.cells Z5 elT))).upd b (rd s j ty) := by
        rw [eH, Hp.upd_upd]
        exact Hp.upd_id (by rw [Hp.upd_ne heb, Hp.upd_ne he6]; exact hbe)
      rw [hx, Hp.upd_upd]
      exact sub6 m
    subst w2
    have hx : (((eH H b b6 be s ty j [.int .i64 p, .str n, .str [], .bool false, .nils]).upd be none).upd b (rd s m ty)).upd be (some (.cells [.int .i64 p, .str n, .str [], .bool false, K] elT)) = eH H b b6 be s ty m [.int .i64 p, .str n, .str [], .bool false, K] := by
      rw [eH, Hp.upd_upd, Hp.upd_comm heb, Hp.upd_upd, Hp.upd_upd]; rfl
    rw [hx] at w4
    subst w4
    rw [w1] at hR
    dsimp only at hR
    have hwp := withinF_prog (hprog p) _ _ _ _ _ _ _ (hRW.trans w1) hj trivial (by simp)
    repeat (first | refine RG.z0 ?_ | refine RG.z1 ?_ | refine RG.z2 ?_ | refine RG.z3 ?_ | refine RG.z4 ?_ | refine RG.z5 ?_ | refine RG.z6 ?_ | refine RG.z7 ?_ | refine RG.z8 ?_ | refine RG.z9 ?_ | refine RG.zA ?_ | refine RG.zB ?_ | refine RG.zC ?_)
    refine RG.nilS (AC.seq (AC.reg ?_))
    (first | refine RG.z0 ?_ | refine RG.z1 ?_ | refine RG.z2 ?_ | refine RG.z3 ?_ | refine RG.z4 ?_ | refine RG.z5 ?_ | refine RG.z6 ?_ | refine RG.z7 ?_ | refine RG.z8 ?_ | refine RG.z9 ?_ | refine RG.zA ?_ | refine RG.zB ?_ | refine RG.zC ?_)
    (first | refine RG.z0 ?_ | refine RG.z1 ?_ | refine RG.z2 ?_ | refine RG.z3 ?_ | refine RG.z4 ?_ | refine RG.z5 ?_ | refine RG.z6 ?_ | refine RG.z7 ?_ | refine RG.z8 ?_ | refine RG.z9 ?_ | refine RG.zA ?_ | refine RG.zB ?_ | refine RG.zC ?_)
    (first | refine RG.z0 ?_ | refine RG.z1 ?_ | refine RG.z2 ?_ | refine RG.z3 ?_ | refine RG.z4 ?_ | refine RG.z5 ?_ | refine RG.z6 ?_ | refine RG.z7 ?_ | refine RG.z8 ?_ | refine RG.z9 ?_ | refine RG.zA ?_ | refine RG.zB ?_ | refine RG.zC ?_)
    refine RG.ld (by first | exact trivial | exact rfl) (by conv => lhs; whnf) (hEb _ _) (d := .int .i64 m) rfl ?_
    refine RG.p (d := .int .i64 ((m - 2 : Nat) : Int)) (by first | exact trivial | exact rfl) (by
      show some (DV.int .i64 (IntKind.i64.wrap ((m : Int) - 2))) = _
      rw [IntWalk.i64_in _ (by omega)]; congr 2; omega) ?_
    repeat (first | refine RG.z0 ?_ | refine RG.z1 ?_ | refine RG.z2 ?_ | refine RG.z3 ?_ | refine RG.z4 ?_ | refine RG.z5 ?_ | refine RG.z6 ?_ | refine RG.z7 ?_ | refine RG.z8 ?_ | refine RG.z9 ?_ | refine RG.zA ?_ | refine RG.zB ?_ | refine RG.zC ?_)
    refine RG.nilS (AC.seq (AC.reg ?_))
    (first | refine RG.z0 ?_ | refine RG.z1 ?_ | refine RG.z2 ?_ | refine RG.z3 ?_ | refine RG.z4 ?_ | refine RG.z5 ?_ | refine RG.z6 ?_ | refine RG.z7 ?_ | refine RG.z8 ?_ | refine RG.z9 ?_ | refine RG.zA ?_ | refine RG.zB ?_ | refine RG.zC ?_)
    (first | refine RG.z0 ?_ | refine RG.z1 ?_ | refine RG.z2 ?_ | refine RG.z3 ?_ | refine RG.z4 ?_ | refine RG.z5 ?_ | refine RG.z6 ?_ | refine RG.z7 ?_ | refine RG.z8 ?_ | refine RG.z9 ?_ | refine RG.zA ?_ | refine RG.zB ?_ | refine RG.zC ?_)
    refine RG.ld (by first | exact trivial | exact rfl) (by conv => lhs; whnf) eH_be (d := .str n) rfl ?_
    refine RG.call (by first | exact trivial | exact rfl) rfl (close_ok (hEb _ _) hwp.2.1 (by omega)) (fun d H2 ⟨q, c1, c2, c3⟩ => ?_) (fun d H2 ⟨e, q, c1, c2, c3, c4⟩ => ?_)
    rotate_left
    · subst c2; subst c4
      rw [c1] at hR
      rw [eH_setb hbe']
      exact bad hR.symm c3
    subst c2
    rw [eH_setb hbe'] at c3
    subst c3
    rw [c1] at hR
    dsimp only [id] at hR ⊢
    have hcp := closeF_prog c1
    have tailp : ∀ {t2 : List UInt8} {o2 : Bool} {fr : Fr}, fr 6 = .ptr b6 0 → fr 9 = .ptr be 0 → R = .ok (.mk p n t2 o2 ks, q) →
        AC Go.Proofs.Tryd.prog G none F23.N (.seq (.reg [⟨(some 151), none, .ld true 5 (.t 9)⟩, ⟨none, none, .st 5 (.t 6) (.t 151)⟩]) .ret) (Fin F23.rs (Kr1 R (fun v => .agg (elC v.1)) (·.2) s b ty H) (Kp1 R s b ty H)) fr (eH H b b6 be s ty q [.int .i64 p, .str n, .str t2, .bool o2, K]) := by
      intro t2 o2 fr f6 f9 hx
      refine AC.to [(6, .ptr b6 0), (9, .ptr be 0)] ⟨f6, f9, trivial⟩ (AC.seq (AC.reg ?_))
      refine RG.ld (by first | exact trivial | exact rfl) (by conv => lhs; whnf) eH_be (d := .agg [.int .i64 p, .str n, .str t2, .bool o2, K]) rfl ?_
      refine RG.sto (cs := Z5) (ty := elT) (ys := [.int .i64 p, .str n, .str t2, .bool o2, K]) (by first | exact trivial | exact rfl) (by conv => lhs; whnf) (eH_b6 h6b (Ne.symm he6)) (by conv => lhs; whnf) rfl rfl (by exact Nat.le_refl _) ?_
      have hsp6 : spliceL 0 [.int .i64 p, .str n, .str t2, .bool o2, K] Z5 = [.int .i64 p, .str n, .str t2, .bool o2, K] := rfl
      rw [hsp6]
      exact RG.nilS (AC.ret (done rfl rfl w3.les hx))
    refine RG.nilS (AC.seq (AC.block (AC.seq (AC.reg ?_))))
    (first | refine RG.z0 ?_ | refine RG.z1 ?_ | refine RG.z2 ?_ | refine RG.z3 ?_ | refine RG.z4 ?_ | refine RG.z5 ?_ | refine RG.z6 ?_ | refine RG.z7 ?_ | refine RG.z8 ?_ | refine RG.z9 ?_ | refine RG.zA ?_ | refine RG.zB ?_ | refine RG.zC ?_)
    refine RG.ld (by first | exact trivial | exact rfl) (by conv => lhs; whnf) eH_be (d := K) rfl ?_
    refine RG.p (d := .int .i64 ks.length) (by first | exact trivial | exact rfl) w3.len ?_
    refine RG.p (d := .bool (decide (0 < ks.length))) (by first | exact trivial | exact rfl) (by
      show some (DV.bool (decide ((ks.length : Int) > 0))) = _
      congr 2
      rw [decide_eq_decide]; omega) ?_
    (first | refine RG.z0 ?_ | refine RG.z1 ?_ | refine RG.z2 ?_ | refine RG.z3 ?_ | refine RG.z4 ?_ | refine RG.z5 ?_ | refine RG.z6 ?_ | refine RG.z7 ?_ | refine RG.z8 ?_ | refine RG.z9 ?_ | refine RG.zA ?_ | refine RG.zB ?_ | refine RG.zC ?_)
    unfold endF at hR
    have htl : t.length ≤ 4611686018427387904 ∧ t.length ≤ 10000000000000 := by
      have := withinF_len (hprog p) _ _ _ _ _ _ _ (hRW.trans w1) hj
      rw [List.length_nil] at this
      omega
    cases k1 : decide (0 < ks.length)
    case true =>
      rw [k1, cond_true] at hR
      refine RG.nilS (AC.cond_t rfl ?_)
      refine AC.mono (Q := fun e fr2 H2 => match e with
        | .normal => H2 = eH H b b6 be s ty q [.int .i64 p, .str n, .str [], .bool false, K] ∧ (!y && trimF t == []) = true ∧ fr2 6 = .ptr b6 0 ∧ fr2 9 = .ptr be 0
        | .panic d => d = fault ((m - 2 : Nat) : Int) 7 ∧ H2 = eH H b b6 be s ty q [.int .i64 p, .str n, .str [], .bool false, K] ∧ (!y && trimF t == []) = false
        | _ => False) (AC.reg ?_) ?_
      · repeat (first | refine RG.z0 ?_ | refine RG.z1 ?_ | refine RG.z2 ?_ | refine RG.z3 ?_ | refine RG.z4 ?_ | refine RG.z5 ?_ | refine RG.z6 ?_ | refine RG.z7 ?_ | refine RG.z8 ?_ | refine RG.z9 ?_ | refine RG.zA ?_ | refine RG.zB ?_ | refine RG.zC ?_)
        cases y
        · repeat (first | refine RG.z0 ?_ | refine RG.z1 ?_ | refine RG.z2 ?_ | refine RG.z3 ?_ | refine RG.z4 ?_ | refine RG.z5 ?_ | refine RG.z6 ?_ | refine RG.z7 ?_ | refine RG.z8 ?_ | refine RG.z9 ?_ | refine RG.zA ?_ | refine RG.zB ?_ | refine RG.zC ?_)
          refine RG.callP (by first | exact trivial | exact rfl) rfl (trim_ok' t htl.1) ?_
          repeat (first | refine RG.z0 ?_ | refine RG.z1 ?_ | refine RG.z2 ?_ | refine RG.z3 ?_ | refine RG.z4 ?_ | refine RG.z5 ?_ | refine RG.z6 ?_ | refine RG.z7 ?_ | refine RG.z8 ?_ | refine RG.z9 ?_ | refine RG.zA ?_ | refine RG.zB ?_ | refine RG.zC ?_)
          exact RG.call (by first | exact trivial | exact rfl) rfl (need_ok (trimF t == []) _ 7 _) (fun d H5 ⟨a1, a2, a3⟩ => RG.nil ⟨a3, by rw [a1]; rfl, rfl, rfl⟩) (fun d H5 ⟨a1, a2, a3⟩ => ⟨a2, a3, by rw [a1]; rfl⟩)
        · repeat (first | refine RG.z0 ?_ | refine RG.z1 ?_ | refine RG.z2 ?_ | refine RG.z3 ?_ | refine RG.z4 ?_ | refine RG.z5 ?_ | refine RG.z6 ?_ | refine RG.z7 ?_ | refine RG.z8 ?_ | refine RG.z9 ?_ | refine RG.zA ?_ | refine RG.zB ?_ | refine RG.zC ?_)
          exact RG.call (by first | exact trivial | exact rfl) rfl (need_ok false _ 7 _) (fun d H5 ⟨a1, _⟩ => by cases a1) (fun d H5 ⟨_, a2, a3⟩ => ⟨a2, a3, rfl⟩)
      rintro e fr2 H2 hq
      cases e with
      | exit id => exact hq.elim
      | ret => exact hq.elim
      | panic d =>
        obtain ⟨a1, a2, a3⟩ := hq
        subst a1; subst a2
        rw [a3] at hR
        exact bad (e := (((m - 2 : Nat) : Int), 7)) hR.symm hcp.2
      | normal =>
        obtain ⟨a1, a2, a3, a4⟩ := hq
        subst a1
        rw [a2] at hR
        exact tailp a3 a4 hR.symm
    rw [k1, cond_false] at hR
    have hks : ks = [] := by
      have := of_decide_eq_false k1
      exact List.eq_nil_of_length_eq_zero (by omega)
    subst hks
    refine RG.nilS (AC.cond_f rfl (AC.seq (AC.reg ?_)))
    repeat (first | refine RG.z0 ?_ | refine RG.z1 ?_ | refine RG.z2 ?_ | refine RG.z3 ?_ | refine RG.z4 ?_ | refine RG.z5 ?_ | refine RG.z6 ?_ | refine RG.z7 ?_ | refine RG.z8 ?_ | refine RG.z9 ?_ | refine RG.zA ?_ | refine RG.zB ?_ | refine RG.zC ?_)
    cases y
    · rw [cond_false] at hR
      refine RG.nilS (AC.cond_f rfl (AC.reg ?_))
      (first | refine RG.z0 ?_ | refine RG.z1 ?_ | refine RG.z2 ?_ | refine RG.z3 ?_ | refine RG.z4 ?_ | refine RG.z5 ?_ | refine RG.z6 ?_ | refine RG.z7 ?_ | refine RG.z8 ?_ | refine RG.z9 ?_ | refine RG.zA ?_ | refine RG.zB ?_ | refine RG.zC ?_)
      (first | refine RG.z0 ?_ | refine RG.z1 ?_ | refine RG.z2 ?_ | refine RG.z3 ?_ | refine RG.z4 ?_ | refine RG.z5 ?_ | refine RG.z6 ?_ | refine RG.z7 ?_ | refine RG.z8 ?_ | refine RG.z9 ?_ | refine RG.zA ?_ | refine RG.zB ?_ | refine RG.zC ?_)
      refine RG.sto (cs := [.int .i64 p, .str n, .str [], .bool false, K]) (ty := elT) (ys := [.str t]) (by first | exact trivial | exact rfl) (by conv => lhs; whnf) eH_be (by conv => lhs; whnf) rfl rfl (by exact Nat.le_of_ble_eq_true rfl) ?_
      rw [eH_setbe]
      exact RG.nil (tailp rfl rfl hR.symm)
    · rw [cond_true] at hR
      refine RG.nilS (AC.cond_t rfl (AC.seq (AC.reg ?_)))
      (first | refine RG.z0 ?_ | refine RG.z1 ?_ | refine RG.z2 ?_ | refine RG.z3 ?_ | refine RG.z4 ?_ | refine RG.z5 ?_ | refine RG.z6 ?_ | refine RG.z7 ?_ | refine RG.z8 ?_ | refine RG.z9 ?_ | refine RG.zA ?_ | refine RG.zB ?_ | refine RG.zC ?_)
      refine RG.callP (by first | exact trivial | exact rfl) rfl (Decode_ok t htl.2) ?_
      repeat (first | refine RG.z0 ?_ | refine RG.z1 ?_ | refine RG.z2 ?_ | refine RG.z3 ?_ | refine RG.z4 ?_ | refine RG.z5 ?_ | refine RG.z6 ?_ | refine RG.z7 ?_ | refine RG.z8 ?_ | refine RG.z9 ?_ | refine RG.zA ?_ | refine RG.zB ?_ | refine RG.zC ?_)
      refine RG.nilS (AC.seq (AC.reg ?_))
      (first | refine RG.z0 ?_ | refine RG.z1 ?_ | refine RG.z2 ?_ | refine RG.z3 ?_ | refine RG.z4 ?_ | refine RG.z5 ?_ | refine RG.z6 ?_ | refine RG.z7 ?_ | refine RG.z8 ?_ | refine RG.z9 ?_ | refine RG.zA ?_ | refine RG.zB ?_ | refine RG.zC ?_)
      refine RG.p (d := .bool ((decF t).2 == 0)) (by first | exact trivial | exact rfl) rfl ?_
      (first | refine RG.z0 ?_ | refine RG.z1 ?_ | refine RG.z2 ?_ | refine RG.z3 ?_ | refine RG.z4 ?_ | refine RG.z5 ?_ | refine RG.z6 ?_ | refine RG.z7 ?_ | refine RG.z8 ?_ | refine RG.z9 ?_ | refine RG.zA ?_ | refine RG.zB ?_ | refine RG.zC ?_)
      (first | refine RG.z0 ?_ | refine RG.z1 ?_ | refine RG.z2 ?_ | refine RG.z3 ?_ | refine RG.z4 ?_ | refine RG.z5 ?_ | refine RG.z6 ?_ | refine RG.z7 ?_ | refine RG.z8 ?_ | refine RG.z9 ?_ | refine RG.zA ?_ | refine RG.zB ?_ | refine RG.zC ?_)
      refine RG.call (by first | exact trivial | exact rfl) rfl (need_ok ((decF t).2 == 0) _ (decF t).2 _) (fun d H5 ⟨a1, a2, a3⟩ => ?_) (fun d H5 ⟨a1, a2, a3⟩ => ?_)
      rotate_left
      · subst a2; subst a3
        rw [a1] at hR
        exact bad (e := (((m - 2 : Nat) : Int), (decF t).2)) hR.symm hcp.2
      subst a2; subst a3
      rw [a1] at hR
      refine RG.nilS (AC.reg ?_)
      (first | refine RG.z0 ?_ | refine RG.z1 ?_ | refine RG.z2 ?_ | refine RG.z3 ?_ | refine RG.z4 ?_ | refine RG.z5 ?_ | refine RG.z6 ?_ | refine RG.z7 ?_ | refine RG.z8 ?_ | refine RG.z9 ?_ | refine RG.zA ?_ | refine RG.zB ?_ | refine RG.zC ?_)
      (first | refine RG.z0 ?_ | refine RG.z1 ?_ | refine RG.z2 ?_ | refine RG.z3 ?_ | refine RG.z4 ?_ | refine RG.z5 ?_ | refine RG.z6 ?_ | refine RG.z7 ?_ | refine RG.z8 ?_ | refine RG.z9 ?_ | refine RG.zA ?_ | refine RG.zB ?_ | refine RG.zC ?_)
      refine RG.p (d := .bool (!((decF t).1 == []))) (by first | exact trivial | exact rfl) rfl ?_
      (first | refine RG.z0 ?_ | refine RG.z1 ?_ | refine RG.z2 ?_ | refine RG.z3 ?_ | refine RG.z4 ?_ | refine RG.z5 ?_ | refine RG.z6 ?_ | refine RG.z7 ?_ | refine RG.z8 ?_ | refine RG.z9 ?_ | refine RG.zA ?_ | refine RG.zB ?_ | refine RG.zC ?_)
      refine RG.sto (cs := [.int .i64 p, .str n, .str [], .bool false, K]) (ty := elT) (ys := [.str (decF t).1]) (by first | exact trivial | exact rfl) (by conv => lhs; whnf) eH_be (by conv => lhs; whnf) rfl rfl (by exact Nat.le_of_ble_eq_true rfl) ?_
      rw [eH_setbe]
      (first | refine RG.z0 ?_ | refine RG.z1 ?_ | refine RG.z2 ?_ | refine RG.z3 ?_ | refine RG.z4 ?_ | refine RG.z5 ?_ | refine RG.z6 ?_ | refine RG.z7 ?_ | refine RG.z8 ?_ | refine RG.z9 ?_ | refine RG.zA ?_ | refine RG.zB ?_ | refine RG.zC ?_)
      refine RG.sto (cs := [.int .i64 p, .str n, .str (decF t).1, .bool false, K]) (ty := elT) (ys := [.bool (!((decF t).1 == []))]) (by first | exact trivial | exact rfl) (by conv => lhs; whnf) eH_be (by conv => lhs; whnf) rfl rfl (by exact Nat.le_of_ble_eq_true rfl) ?_
      rw [eH_setbe]
      exact RG.nil (tailp rfl rfl hR.symm)
  · rintro ⟨f, j, p, nm, y⟩ H' ⟨h1, hA, hj, hf⟩ ih ex
    dsimp only at h1 hA hj hf ih
    subst h1
    obtain ⟨f, rfl⟩ : ∃ f', f = f' + 1 := ⟨f - 1, by omega⟩
    rw [attrsF] at hA
    try dsimp only at hA
    have hw := wsN_le (s.drop j)
    rw [List.length_drop] at hw
    have again : ∀ {j2 : Nat} {p2 : Int} {nm2 y2 : Bool}, attrsF s f j2 p2 nm2 y2 = RA → j < j2 → j2 ≤ s.length → ∀ fr, Agrees fr [(0, .ptr b 0), (2, .int .i64 deep), (6, .ptr b6 0), (9, .ptr be 0), (10, .bool nm2), (11, .bool y2)] → _ :=
      fun {j2 p2 nm2 y2} h1 h2 h3 fr hfr => ih (f, j2, p2, nm2, y2) _ ⟨rfl, h1, h3, by dsimp only; omega⟩ (by dsimp only; omega) fr hfr
    refine AC.block (AC.seq (AC.reg ?_))
    (first | refine RG.z0 ?_ | refine RG.z1 ?_ | refine RG.z2 ?_ | refine RG.z3 ?_ | refine RG.z4 ?_ | refine RG.z5 ?_ | refine RG.z6 ?_ | refine RG.z7 ?_ | refine RG.z8 ?_ | refine RG.z9 ?_ | refine RG.zA ?_ | refine RG.zB ?_ | refine RG.zC ?_)
    refine RG.callR (by first | exact trivial | exact rfl) rfl (space_ok (hEb _ _) hj (by omega)) ?_
    rw [eH_setb hbe']
    generalize hwj : wsN (s.drop j) = w at hA hw
    repeat (first | refine RG.z0 ?_ | refine RG.z1 ?_ | refine RG.z2 ?_ | refine RG.z3 ?_ | refine RG.z4 ?_ | refine RG.z5 ?_ | refine RG.z6 ?_ | refine RG.z7 ?_ | refine RG.z8 ?_ | refine RG.z9 ?_ | refine RG.zA ?_ | refine RG.zB ?_ | refine RG.zC ?_)
    refine RG.nilS (AC.seq (AC.reg ?_))
    (first | refine RG.z0 ?_ | refine RG.z1 ?_ | refine RG.z2 ?_ | refine RG.z3 ?_ | refine RG.z4 ?_ | refine RG.z5 ?_ | refine RG.z6 ?_ | refine RG.z7 ?_ | refine RG.z8 ?_ | refine RG.z9 ?_ | refine RG.zA ?_ | refine RG.zB ?_ | refine RG.zC ?_)
    (first | refine RG.z0 ?_ | refine RG.z1 ?_ | refine RG.z2 ?_ | refine RG.z3 ?_ | refine RG.z4 ?_ | refine RG.z5 ?_ | refine RG.z6 ?_ | refine RG.z7 ?_ | refine RG.z8 ?_ | refine RG.z9 ?_ | refine RG.zA ?_ | refine RG.zB ?_ | refine RG.zC ?_)
    (first | refine RG.z0 ?_ | refine RG.z1 ?_ | refine RG.z2 ?_ | refine RG.z3 ?_ | refine RG.z4 ?_ | refine RG.z5 ?_ | refine RG.z6 ?_ | refine RG.z7 ?_ | refine RG.z8 ?_ | refine RG.z9 ?_ | refine RG.zA ?_ | refine RG.zB ?_ | refine RG.zC ?_)
    refine RG.ld (by first | exact trivial | exact rfl) (by conv => lhs; whnf) (hEb _ _) (d := .int .i64 ((j + w : Nat) : Int)) rfl ?_
    repeat (first | refine RG.z0 ?_ | refine RG.z1 ?_ | refine RG.z2 ?_ | refine RG.z3 ?_ | refine RG.z4 ?_ | refine RG.z5 ?_ | refine RG.z6 ?_ | refine RG.z7 ?_ | refine RG.z8 ?_ | refine RG.z9 ?_ | refine RG.zA ?_ | refine RG.zB ?_ | refine RG.zC ?_)
    refine RG.nilS ?_
    refine AC.to [(0, .ptr b 0), (2, .int .i64 deep), (6, .ptr b6 0), (8, .int .i64 ((j + w : Nat) : Int)), (9, .ptr be 0), (10, .bool nm), (11, .bool y), (12, .bool (decide (0 < w)))] ⟨rfl, rfl, rfl, rfl, rfl, rfl, rfl, rfl, trivial⟩ ?_
    refine AC.block (AC.seq (AC.reg ?_))
    (first | refine RG.z0 ?_ | refine RG.z1 ?_ | refine RG.z2 ?_ | refine RG.z3 ?_ | refine RG.z4 ?_ | refine RG.z5 ?_ | refine RG.z6 ?_ | refine RG.z7 ?_ | refine RG.z8 ?_ | refine RG.z9 ?_ | refine RG.zA ?_ | refine RG.zB ?_ | refine RG.zC ?_)
    refine RG.callR (by first | exact trivial | exact rfl) rfl (has_ok (t := [47, 62]) (hEb _ _) (by omega) (by simp; omega)) ?_
    rw [eH_setb hbe']
    cases e1 : List.isPrefixOf [47, 62] (s.drop (j + w))
    case true =>
      rw [e1, cond_true] at hA
      rw [← hA] at hR
      dsimp only at hR
      repeat (first | refine RG.z0 ?_ | refine RG.z1 ?_ | refine RG.z2 ?_ | refine RG.z3 ?_ | refine RG.z4 ?_ | refine RG.z5 ?_ | refine RG.z6 ?_ | refine RG.z7 ?_ | refine RG.z8 ?_ | refine RG.z9 ?_ | refine RG.zA ?_ | refine RG.zB ?_ | refine RG.zC ?_)
      refine RG.nilS (AC.cond_t rfl (AC.seq (AC.reg ?_)))
      refine RG.ld (by first | exact trivial | exact rfl) (by conv => lhs; whnf) eH_be (d := .agg [.int .i64 p, .str n, .str [], .bool false, .nils]) rfl ?_
      refine RG.sto (cs := Z5) (ty := elT) (ys := [.int .i64 p, .str n, .str [], .bool false, .nils]) (by first | exact trivial | exact rfl) (by conv => lhs; whnf) (eH_b6 h6b (Ne.symm he6)) (by conv => lhs; whnf) rfl rfl (by exact Nat.le_refl _) ?_
      have hsp6 : spliceL 0 [.int .i64 p, .str n, .str [], .bool false, .nils] Z5 = [.int .i64 p, .str n, .str [], .bool false, .nils] := rfl
      rw [hsp6]
      exact RG.nilS (AC.ret (done (x := .mk p n [] false []) rfl rfl (KD.les (.inl ⟨rfl, rfl⟩)) hR.symm))
    rw [e1, cond_false] at hA
    repeat (first | refine RG.z0 ?_ | refine RG.z1 ?_ | refine RG.z2 ?_ | refine RG.z3 ?_ | refine RG.z4 ?_ | refine RG.z5 ?_ | refine RG.z6 ?_ | refine RG.z7 ?_ | refine RG.z8 ?_ | refine RG.z9 ?_ | refine RG.zA ?_ | refine RG.zB ?_ | refine RG.zC ?_)
    refine RG.nilS (AC.cond_f rfl (AC.seq (AC.reg ?_)))
    (first | refine RG.z0 ?_ | refine RG.z1 ?_ | refine RG.z2 ?_ | refine RG.z3 ?_ | refine RG.z4 ?_ | refine RG.z5 ?_ | refine RG.z6 ?_ | refine RG.z7 ?_ | refine RG.z8 ?_ | refine RG.z9 ?_ | refine RG.zA ?_ | refine RG.zB ?_ | refine RG.zC ?_)
    refine RG.callR (by first | exact trivial | exact rfl) rfl (has_ok (t := [62]) (hEb _ _) (by simp; omega) (by simp; omega)) ?_
    rw [eH_setb hbe', cond_false]
    cases e2 : List.isPrefixOf [62] (s.drop (j + w))
    case true =>
      rw [e2, cond_true] at hA
      repeat (first | refine RG.z0 ?_ | refine RG.z1 ?_ | refine RG.z2 ?_ | refine RG.z3 ?_ | refine RG.z4 ?_ | refine RG.z5 ?_ | refine RG.z6 ?_ | refine RG.z7 ?_ | refine RG.z8 ?_ | refine RG.z9 ?_ | refine RG.zA ?_ | refine RG.zB ?_ | refine RG.zC ?_)
      refine RG.nilS (AC.cond_t rfl (AC.exit ?_))
      exact ex (j + w + 1, p, y) _ _ ⟨rfl, hA.symm⟩ ⟨rfl, rfl, rfl, rfl, rfl, trivial⟩
    rw [e2, cond_false] at hA
    repeat (first | refine RG.z0 ?_ | refine RG.z1 ?_ | refine RG.z2 ?_ | refine RG.z3 ?_ | refine RG.z4 ?_ | refine RG.z5 ?_ | refine RG.z6 ?_ | refine RG.z7 ?_ | refine RG.z8 ?_ | refine RG.z9 ?_ | refine RG.zA ?_ | refine RG.zB ?_ | refine RG.zC ?_)
    refine RG.nilS (AC.cond_f rfl (AC.seq (AC.reg ?_)))
    repeat (first | refine RG.z0 ?_ | refine RG.z1 ?_ | refine RG.z2 ?_ | refine RG.z3 ?_ | refine RG.z4 ?_ | refine RG.z5 ?_ | refine RG.z6 ?_ | refine RG.z7 ?_ | refine RG.z8 ?_ | refine RG.z9 ?_ | refine RG.zA ?_ | refine RG.zB ?_ | refine RG.zC ?_)
    cases e3 : decide (0 < w)
    case false =>
      rw [e3] at hA
      rw [← hA] at hR
      simp only [Bool.not_false, cond_true] at hR
      refine RG.nilS (AC.cond_t rfl (AC.reg ?_))
      (first | refine RG.z0 ?_ | refine RG.z1 ?_ | refine RG.z2 ?_ | refine RG.z3 ?_ | refine RG.z4 ?_ | refine RG.z5 ?_ | refine RG.z6 ?_ | refine RG.z7 ?_ | refine RG.z8 ?_ | refine RG.z9 ?_ | refine RG.zA ?_ | refine RG.zB ?_ | refine RG.zC ?_)
      refine RG.call (by first | exact trivial | exact rfl) rfl (need_ok false _ 3 _) (fun d H5 ⟨a1, _⟩ => by cases a1) (fun d H5 ⟨_, a2, a3⟩ => ?_)
      subst a2; subst a3
      exact bad (e := (((j + w : Nat) : Int), 3)) hR.symm (by first | omega | (simp; omega))
    rw [e3, Bool.not_true, cond_false] at hA
    refine RG.nilS (AC.cond_f rfl (AC.seq (AC.reg ?_)))
    (first | refine RG.z0 ?_ | refine RG.z1 ?_ | refine RG.z2 ?_ | refine RG.z3 ?_ | refine RG.z4 ?_ | refine RG.z5 ?_ | refine RG.z6 ?_ | refine RG.z7 ?_ | refine RG.z8 ?_ | refine RG.z9 ?_ | refine RG.zA ?_ | refine RG.zB ?_ | refine RG.zC ?_)
    refine RG.callR (by first | exact trivial | exact rfl) rfl (has_ok (t := spaceMark) (hEb _ _) (by simp; omega) (by simp [spaceMark]; omega)) ?_
    rw [eH_setb hbe', cond_false]
    cases e4 : List.isPrefixOf spaceMark (s.drop (j + w))
    case true =>
      rw [e4, cond_true] at hA
      have hpl := prefix_le e4 (by simp [spaceMark])
      have h7 : spaceMark.length = 7 := rfl
      rw [h7] at hpl
      rw [cond_true, h7]
      repeat (first | refine RG.z0 ?_ | refine RG.z1 ?_ | refine RG.z2 ?_ | refine RG.z3 ?_ | refine RG.z4 ?_ | refine RG.z5 ?_ | refine RG.z6 ?_ | refine RG.z7 ?_ | refine RG.z8 ?_ | refine RG.z9 ?_ | refine RG.zA ?_ | refine RG.zB ?_ | refine RG.zC ?_)
      refine RG.nilS (AC.cond_t rfl (AC.seq (AC.reg ?_)))
      repeat (first | refine RG.z0 ?_ | refine RG.z1 ?_ | refine RG.z2 ?_ | refine RG.z3 ?_ | refine RG.z4 ?_ | refine RG.z5 ?_ | refine RG.z6 ?_ | refine RG.z7 ?_ | refine RG.z8 ?_ | refine RG.z9 ?_ | refine RG.zA ?_ | refine RG.zB ?_ | refine RG.zC ?_)
      refine RG.call (by first | exact trivial | exact rfl) rfl (need_ok (!nm) _ 11 _) (fun d H5 ⟨a1, a2, a3⟩ => ?_) (fun d H5 ⟨a1, a2, a3⟩ => ?_)
      rotate_left
      · subst a2; subst a3
        have a1' : nm = true := by simpa using a1
        rw [a1'] at hA
        rw [← hA] at hR
        exact bad (e := (((j + w : Nat) : Int), 11)) hR.symm (by first | omega | (simp; omega))
      subst a2; subst a3
      have a1' : nm = false := by simpa using a1
      rw [a1', cond_false] at hA
      refine RG.nilS (AC.seq (AC.reg ?_))
      repeat (first | refine RG.z0 ?_ | refine RG.z1 ?_ | refine RG.z2 ?_ | refine RG.z3 ?_ | refine RG.z4 ?_ | refine RG.z5 ?_ | refine RG.z6 ?_ | refine RG.z7 ?_ | refine RG.z8 ?_ | refine RG.z9 ?_ | refine RG.zA ?_ | refine RG.zB ?_ | refine RG.zC ?_)
      refine RG.nilS (AC.seq (AC.reg ?_))
      (first | refine RG.z0 ?_ | refine RG.z1 ?_ | refine RG.z2 ?_ | refine RG.z3 ?_ | refine RG.z4 ?_ | refine RG.z5 ?_ | refine RG.z6 ?_ | refine RG.z7 ?_ | refine RG.z8 ?_ | refine RG.z9 ?_ | refine RG.zA ?_ | refine RG.zB ?_ | refine RG.zC ?_)
      refine RG.call (by first | exact trivial | exact rfl) rfl (upto_ok' hG (t := [34]) (hEb _ _) hpl (by simp; omega)) (fun d H3 ⟨⟨v, k2⟩, u1, u2, u3⟩ => ?_) (fun d H3 ⟨e, k2, u1, u2, u3, u4⟩ => ?_)
      rotate_left
      · subst u2; subst u4
        rw [u1] at hA
        rw [← hA] at hR
        rw [eH_setb hbe']
        exact bad hR.symm u3
      subst u2
      rw [eH_setb hbe'] at u3
      subst u3
      rw [u1] at hA
      dsimp only at hA
      have hup := uptoF_prog u1 hpl
      refine RG.callP (by first | exact trivial | exact rfl) rfl (Page_ok v) ?_
      (first | refine RG.z0 ?_ | refine RG.z1 ?_ | refine RG.z2 ?_ | refine RG.z3 ?_ | refine RG.z4 ?_ | refine RG.z5 ?_ | refine RG.z6 ?_ | refine RG.z7 ?_ | refine RG.z8 ?_ | refine RG.z9 ?_ | refine RG.zA ?_ | refine RG.zB ?_ | refine RG.zC ?_)
      refine RG.sto (cs := [.int .i64 p, .str n, .str [], .bool false, .nils]) (ty := elT) (ys := [.int .i64 (pageOf v)]) (by first | exact trivial | exact rfl) (by conv => lhs; whnf) eH_be (by conv => lhs; whnf) rfl rfl (by exact Nat.le_of_ble_eq_true rfl) ?_
      rw [eH_setbe]
      refine RG.nilS (AC.reg ?_)
      (first | refine RG.z0 ?_ | refine RG.z1 ?_ | refine RG.z2 ?_ | refine RG.z3 ?_ | refine RG.z4 ?_ | refine RG.z5 ?_ | refine RG.z6 ?_ | refine RG.z7 ?_ | refine RG.z8 ?_ | refine RG.z9 ?_ | refine RG.zA ?_ | refine RG.zB ?_ | refine RG.zC ?_)
      refine RG.ld (by first | exact trivial | exact rfl) (by conv => lhs; whnf) eH_be (d := .int .i64 (pageOf v)) rfl ?_
      repeat (first | refine RG.z0 ?_ | refine RG.z1 ?_ | refine RG.z2 ?_ | refine RG.z3 ?_ | refine RG.z4 ?_ | refine RG.z5 ?_ | refine RG.z6 ?_ | refine RG.z7 ?_ | refine RG.z8 ?_ | refine RG.z9 ?_ | refine RG.zA ?_ | refine RG.zB ?_ | refine RG.zC ?_)
      refine RG.call (by first | exact trivial | exact rfl) rfl (need_ok (decide (pageOf v ≥ 0)) _ 5 _) (fun d H5 ⟨a1, a2, a3⟩ => ?_) (fun d H5 ⟨a1, a2, a3⟩ => ?_)
      rotate_left
      · subst a2; subst a3
        rw [a1] at hA
        rw [← hA] at hR
        exact bad (e := (((j + w : Nat) : Int), 5)) hR.symm hup.2
      subst a2; subst a3
      rw [a1, cond_true] at hA
      exact RG.nil (again hA (by omega) hup.2 _ ⟨rfl, rfl, rfl, rfl, rfl, rfl, trivial⟩)
    rw [e4, cond_false] at hA
    rw [cond_false]
    repeat (first | refine RG.z0 ?_ | refine RG.z1 ?_ | refine RG.z2 ?_ | refine RG.z3 ?_ | refine RG.z4 ?_ | refine RG.z5 ?_ | refine RG.z6 ?_ | refine RG.z7 ?_ | refine RG.z8 ?_ | refine RG.z9 ?_ | refine RG.zA ?_ | refine RG.zB ?_ | refine RG.zC ?_)
    refine RG.nilS (AC.cond_f rfl (AC.seq (AC.reg ?_)))
    (first | refine RG.z0 ?_ | refine RG.z1 ?_ | refine RG.z2 ?_ | refine RG.z3 ?_ | refine RG.z4 ?_ | refine RG.z5 ?_ | refine RG.z6 ?_ | refine RG.z7 ?_ | refine RG.z8 ?_ | refine RG.z9 ?_ | refine RG.zA ?_ | refine RG.zB ?_ | refine RG.zC ?_)
    refine RG.callR (by first | exact trivial | exact rfl) rfl (has_ok (t := codeMark) (hEb _ _) (by omega) (by simp [codeMark]; omega)) ?_
    rw [eH_setb hbe']
    cases e5 : List.isPrefixOf codeMark (s.drop (j + w))
    case true =>
      rw [e5, cond_true] at hA
      have hpl := prefix_le e5 (by simp [codeMark])
      have h7 : codeMark.length = 5 := rfl
      rw [h7] at hpl
      rw [cond_true, h7]
      repeat (first | refine RG.z0 ?_ | refine RG.z1 ?_ | refine RG.z2 ?_ | refine RG.z3 ?_ | refine RG.z4 ?_ | refine RG.z5 ?_ | refine RG.z6 ?_ | refine RG.z7 ?_ | refine RG.z8 ?_ | refine RG.z9 ?_ | refine RG.zA ?_ | refine RG.zB ?_ | refine RG.zC ?_)
      refine RG.nilS (AC.cond_t rfl (AC.seq (AC.reg ?_)))
      repeat (first | refine RG.z0 ?_ | refine RG.z1 ?_ | refine RG.z2 ?_ | refine RG.z3 ?_ | refine RG.z4 ?_ | refine RG.z5 ?_ | refine RG.z6 ?_ | refine RG.z7 ?_ | refine RG.z8 ?_ | refine RG.z9 ?_ | refine RG.zA ?_ | refine RG.zB ?_ | refine RG.zC ?_)
      refine RG.call (by first | exact trivial | exact rfl) rfl (need_ok (!y) _ 11 _) (fun d H5 ⟨a1, a2, a3⟩ => ?_) (fun d H5 ⟨a1, a2, a3⟩ => ?_)
      rotate_left
      · subst a2; subst a3
        have a1' : y = true := by simpa using a1
        rw [a1'] at hA
        rw [← hA] at hR
        exact bad (e := (((j + w : Nat) : Int), 11)) hR.symm (by first | omega | (simp; omega))
      subst a2; subst a3
      have a1' : y = false := by simpa using a1
      rw [a1', cond_false] at hA
      refine RG.nilS (AC.seq (AC.reg ?_))
      repeat (first | refine RG.z0 ?_ | refine RG.z1 ?_ | refine RG.z2 ?_ | refine RG.z3 ?_ | refine RG.z4 ?_ | refine RG.z5 ?_ | refine RG.z6 ?_ | refine RG.z7 ?_ | refine RG.z8 ?_ | refine RG.z9 ?_ | refine RG.zA ?_ | refine RG.zB ?_ | refine RG.zC ?_)
      refine RG.nilS (AC.reg ?_)
      (first | refine RG.z0 ?_ | refine RG.z1 ?_ | refine RG.z2 ?_ | refine RG.z3 ?_ | refine RG.z4 ?_ | refine RG.z5 ?_ | refine RG.z6 ?_ | refine RG.z7 ?_ | refine RG.z8 ?_ | refine RG.z9 ?_ | refine RG.zA ?_ | refine RG.zB ?_ | refine RG.zC ?_)
      refine RG.call (by first | exact trivial | exact rfl) rfl (upto_ok' hG (t := [34]) (hEb _ _) hpl (by simp; omega)) (fun d H3 ⟨⟨v, k2⟩, u1, u2, u3⟩ => ?_) (fun d H3 ⟨e, k2, u1, u2, u3, u4⟩ => ?_)
      rotate_left
      · subst u2; subst u4
        rw [u1] at hA
        rw [← hA] at hR
        rw [eH_setb hbe']
        exact bad hR.symm u3
      subst u2
      rw [eH_setb hbe'] at u3
      subst u3
      rw [u1] at hA
      dsimp only at hA
      have hup := uptoF_prog u1 hpl
      refine RG.p (d := .bool (v == b64)) (by first | exact trivial | exact rfl) rfl ?_
      (first | refine RG.z0 ?_ | refine RG.z1 ?_ | refine RG.z2 ?_ | refine RG.z3 ?_ | refine RG.z4 ?_ | refine RG.z5 ?_ | refine RG.z6 ?_ | refine RG.z7 ?_ | refine RG.z8 ?_ | refine RG.z9 ?_ | refine RG.zA ?_ | refine RG.zB ?_ | refine RG.zC ?_)
      refine RG.call (by first | exact trivial | exact rfl) rfl (need_ok (v == b64) _ 5 _) (fun d H5 ⟨a1, a2, a3⟩ => ?_) (fun d H5 ⟨a1, a2, a3⟩ => ?_)
      rotate_left
      · subst a2; subst a3
        rw [a1] at hA
        rw [← hA] at hR
        exact bad (e := (((j + w : Nat) : Int), 5)) hR.symm hup.2
      subst a2; subst a3
      rw [a1, cond_true] at hA
      exact RG.nil (again hA (by omega) hup.2 _ ⟨rfl, rfl, rfl, rfl, rfl, rfl, trivial⟩)
    rw [e5, cond_false] at hA
    rw [cond_false]
    rw [← hA] at hR
    repeat (first | refine RG.z0 ?_ | refine RG.z1 ?_ | refine RG.z2 ?_ | refine RG.z3 ?_ | refine RG.z4 ?_ | refine RG.z5 ?_ | refine RG.z6 ?_ | refine RG.z7 ?_ | refine RG.z8 ?_ | refine RG.z9 ?_ | refine RG.zA ?_ | refine RG.zB ?_ | refine RG.zC ?_)
    refine RG.nilS (AC.cond_f rfl (AC.reg ?_))
    (first | refine RG.z0 ?_ | refine RG.z1 ?_ | refine RG.z2 ?_ | refine RG.z3 ?_ | refine RG.z4 ?_ | refine RG.z5 ?_ | refine RG.z6 ?_ | refine RG.z7 ?_ | refine RG.z8 ?_ | refine RG.z9 ?_ | refine RG.zA ?_ | refine RG.zB ?_ | refine RG.zC ?_)
    refine RG.call (by first | exact trivial | exact rfl) rfl (need_ok false _ 3 _) (fun d H5 ⟨a1, _⟩ => by cases a1) (fun d H5 ⟨_, a2, a3⟩ => ?_)
    subst a2; subst a3
    exact bad (e := (((j + w : Nat) : Int), 3)) hR.symm (by first | omega | (simp; omega))

theorem elem_ok (hG : GOK G) {s : List UInt8} {ty : TypeId} {b : Nat} (hs : s.length ≤ 100000) : ∀ (d deep : Nat), deep + d = 12 → ∀ (pg : Int) (i : Nat) (H : Hp), H b = rd s i ty → i ≤ s.length →
    CALL Go.Proofs.Tryd.prog G 23 [.ptr b 0, .int .i64 pg, .int .i64 deep] H (Kr1 (elemF s d pg i) (fun v => .agg (elC v.1)) (·.2) s b ty H) (Kp1 (elemF s d pg i) s b ty H)
  | 0, deep, hd, pg, i, H, hb, hi => elem_step hG hs (by omega) (by simp; omega) (fun p i x j _ h => by cases h) (fun h => by omega) pg i H hb hi
  | d + 1, deep, hd, pg, i, H, hb, hi => elem_step hG hs (by omega) (by simp; omega) (fun p i x j => elemF_prog d p i x j) (fun _ p i' HH h1 h2 => elem_ok hG hs d (deep + 1) (by omega) p i' HH h1 h2) pg i H hb hi
end Go.Run.Tryd
