/- Code run outright, texts, builders, ranges over functions, loops. -/
import Derived.Test.YtfimjbflfkdkkaaDoorWC
import Derived.Laws.IdiomStrings
import Derived.Lib.UnsafeStr
import Derived.Lib.Builder
import Derived.RangeFuncRecord
import Derived.Deep.Draws
/- Code run outright, on values that are known. -/
namespace Go.Run
open Go Go.RowKit

section
variable (G : Gl) (H : Hp)

def evR : List Ins → Fr → Option Fr
  | [], fr => some fr
  | i :: l, fr => (evI G fr H i).bind fun d => evR l (fr.put i.dst d)

def evBk (id : Nat) : EX → EX
  | .exit j => if Nat.beq j id then .normal else .exit j
  | e => e

def evC : Nat → CC → Fr → Option (EX × Fr)
  | 0, _, _ => none
  | n + 1, c, fr => match c with
    | .skip => some (.normal, fr)
    | .reg l => (evR G H l fr).map fun fr' => (.normal, fr')
    | .seq a b => (evC n a fr).bind fun p => match p with
      | (.normal, fr') => evC n b fr'
      | p => some p
    | .cond x a b => match XV G fr x with
      | .bool true => evC n a fr
      | .bool false => evC n b fr
      | _ => none
    | .block id c => (evC n c fr).map fun p => (evBk id p.1, p.2)
    | .loop c => (evC n c fr).bind fun p => match p with
      | (.normal, fr') => evC n (.loop c) fr'
      | p => some p
    | .exit id => some (.exit id, fr)
    | .ret => some (.ret, fr)
    | .scp c => evC n c fr
    | _ => none

def evFn (F : FN) (n : Nat) (ds : List DV) : Option DV :=
  (evC G H n F.c (argFr ds)).bind fun p => match p with
    | (.normal, fr') => (evRes H fr' F.rs).map tupD
    | (.ret, fr') => (evRes H fr' F.rs).map tupD
    | _ => none
end

section
variable {P : Program} {G : Gl} {r : Option Nat} {N : Nat} {H : Hp}

theorem evR_sound {Q : EX → Fr → Hp → Prop} : ∀ (l : List Ins) (fr fr' : Fr), evR G H l fr = some fr' → Q .normal fr' H → RG P G r N l Q fr H
  | [], fr, fr', h, hq => by cases h; exact RG.nil hq
  | i :: l, fr, fr', h, hq => by
    simp only [evR] at h
    obtain ⟨d, h1, h2⟩ := bindS h
    exact RG.ev h1 (evR_sound l _ _ h2 hq)

theorem evC_sound : ∀ (n : Nat) (c : CC) (fr fr' : Fr) (e : EX) (Q : EX → Fr → Hp → Prop), evC G H n c fr = some (e, fr') → Q e fr' H → AC P G r N c Q fr H := by
  intro n
  induction n with
  | zero => intro c fr fr' e Q h _; cases h
  | succ n ih =>
    intro c fr fr' e Q h hq
    cases c with
    | skip => simp only [evC, Option.some.injEq, Prod.mk.injEq] at h; obtain ⟨rfl, rfl⟩ := h; exact AC.skip hq
    | reg l =>
      simp only [evC, Option.map_eq_some_iff, Prod.mk.injEq] at h
      obtain ⟨f, h1, rfl, rfl⟩ := h
      exact AC.reg (evR_sound l _ _ h1 hq)
    | draw l a => simp only [evC] at h; cases h
    | seq a b =>
      simp only [evC] at h
      obtain ⟨⟨e1, f1⟩, h1, h2⟩ := bindS h
      refine AC.seq (ih a fr f1 e1 _ h1 ?_)
      cases e1 with
      | normal => exact ih b f1 fr' e Q h2 hq
      | exit j => simp only [Option.some.injEq, Prod.mk.injEq] at h2; obtain ⟨rfl, rfl⟩ := h2; exact hq
      | ret => simp only [Option.some.injEq, Prod.mk.injEq] at h2; obtain ⟨rfl, rfl⟩ := h2; exact hq
      | panic d => simp only [Option.some.injEq, Prod.mk.injEq] at h2; obtain ⟨rfl, rfl⟩ := h2; exact hq
    | cond x a b =>
      simp only [evC] at h
      split at h
      · rename_i hx; exact AC.cond_t hx (ih a fr fr' e Q h hq)
      · rename_i hx; exact AC.cond_f hx (ih b fr fr' e Q h hq)
      · cases h
    | block id c =>
      simp only [evC, Option.map_eq_some_iff, Prod.mk.injEq] at h
      obtain ⟨⟨e1, f1⟩, h1, rfl, rfl⟩ := h
      refine AC.block (ih c fr f1 e1 _ h1 ?_)
      cases e1 with
      | normal => exact hq
      | exit j =>
        simp only [evBk] at hq
        simp only [Bk]
        split at hq
        · rename_i he
          have : j = id := Nat.eq_of_beq_eq_true he
          rw [if_pos this]; exact hq
        · rename_i he
          have : ¬ j = id := fun e => he (by subst e; exact Nat.beq_refl j)
          rw [if_neg this]; exact hq
      | ret => exact hq
      | panic d => exact hq
    | loop c =>
      simp only [evC] at h
      obtain ⟨⟨e1, f1⟩, h1, h2⟩ := bindS h
      refine AC.loop (ih c fr f1 e1 _ h1 ?_)
      cases e1 with
      | normal => exact ih (.loop c) f1 fr' e Q h2 hq
      | exit j => simp only [Option.some.injEq, Prod.mk.injEq] at h2; obtain ⟨rfl, rfl⟩ := h2; exact hq
      | ret => simp only [Option.some.injEq, Prod.mk.injEq] at h2; obtain ⟨rfl, rfl⟩ := h2; exact hq
      | panic d => simp only [Option.some.injEq, Prod.mk.injEq] at h2; obtain ⟨rfl, rfl⟩ := h2; exact hq
    | rng x ps a b => simp only [evC] at h; cases h
    | exit id => simp only [evC, Option.some.injEq, Prod.mk.injEq] at h; obtain ⟨rfl, rfl⟩ := h; exact AC.exit hq
    | ret => simp only [evC, Option.some.injEq, Prod.mk.injEq] at h; obtain ⟨rfl, rfl⟩ := h; exact AC.ret hq
    | scp c => simp only [evC] at h; exact AC.scp (ih c fr fr' e Q h hq)
    | stuck => simp only [evC] at h; cases h

/-- A function run outright. -/
theorem CALL.ev {f : FuncId} {F : FN} {n : Nat} {ds : List DV} {d : DV} (hf : cFn P f = some F) (hl : ds.length ≤ F.N) (h : evFn G H F n ds = some d) : CALL P G f ds H (fun d' H' => d' = d ∧ H' = H) (fun _ _ => False) := by
  unfold evFn at h
  obtain ⟨⟨e, fr'⟩, h1, h2⟩ := bindS h
  refine CALL.of hf hl (evC_sound n _ _ fr' e _ h1 ?_)
  cases e with
  | normal =>
    simp only [Option.map_eq_some_iff] at h2
    obtain ⟨l, h3, rfl⟩ := h2
    exact fin h3 ⟨rfl, rfl⟩
  | ret =>
    simp only [Option.map_eq_some_iff] at h2
    obtain ⟨l, h3, rfl⟩ := h2
    exact fin h3 ⟨rfl, rfl⟩
  | exit j => simp only at h2; cases h2
  | panic d => simp only at h2; cases h2

def noGX : X → Bool
  | .g _ => false
  | _ => true

def noG : CC → Bool
  | .reg l => l.all fun i => (opX i.op).all noGX
  | .draw l _ => l.all fun i => (opX i.op).all noGX
  | .seq a b => noG a && noG b
  | .cond x a b => noGX x && noG a && noG b
  | .block _ c => noG c
  | .loop c => noG c
  | .rng x _ a b => noGX x && noG a && noG b
  | .scp c => noG c
  | _ => true

def noHp : Hp := fun _ => none
def noGl : Gl := fun _ => none

theorem XV_noG {fr : Fr} {x : X} (h : noGX x = true) : XV noGl fr x = XV G fr x := by
  cases x with
  | t n => rfl
  | c d => rfl
  | g n => cases h

theorem evP_noH {fr : Fr} {op : OP} {d : DV} (h : evP G fr noHp op = some d) : evP G fr H op = some d := by
  cases op
  case ld agg sz x =>
    simp only [evP] at h ⊢
    cases hx : XV G fr x <;> rw [hx] at h <;> simp only [ldD, noHp] at h ⊢ <;> first | exact h | (cases h)
  all_goals exact h

theorem evP_noG {fr : Fr} {op : OP} (h : (opX op).all noGX = true) : evP noGl fr H op = evP G fr H op := by
  replace h := List.all_eq_true.1 h
  cases op
  case mkfn fn f c =>
    simp only [opX, List.mem_append] at h
    simp only [evP]
    rw [List.map_congr_left (fun x hx => XV_noG (h x (.inl hx))), List.map_congr_left (l := c) (fun x hx => XV_noG (h x (.inr hx)))]
  case bld z ps =>
    simp only [evP]
    rw [bldD_congr ps z (fun p hp => XV_noG (h p.2.2 (by simp only [opX]; exact List.mem_map.2 ⟨p, hp, rfl⟩)))]
  case slcS x lo hi =>
    simp only [opX, List.mem_append, List.mem_singleton] at h
    have e : ∀ (o : Option X), (∀ y ∈ o.toList, noGX y = true) → o.map (XV noGl fr) = o.map (XV G fr) := fun o ho => by
      cases o with
      | none => rfl
      | some y => simp only [Option.map_some]; rw [XV_noG (ho y (by simp))]
    simp only [evP, e lo (fun y hy => h y (.inl (.inr hy))), e hi (fun y hy => h y (.inr hy)), XV_noG (G := G) (fr := fr) (h x (.inl (.inl rfl)))]
  case slcA n s x lo hi =>
    simp only [opX, List.mem_append, List.mem_singleton] at h
    have e : ∀ (o : Option X), (∀ y ∈ o.toList, noGX y = true) → o.map (XV noGl fr) = o.map (XV G fr) := fun o ho => by
      cases o with
      | none => rfl
      | some y => simp only [Option.map_some]; rw [XV_noG (ho y (by simp))]
    simp only [evP, e lo (fun y hy => h y (.inl (.inr hy))), e hi (fun y hy => h y (.inr hy)), XV_noG (G := G) (fr := fr) (h x (.inl (.inl rfl)))]
  case slc s x lo hi mx =>
    simp only [opX, List.mem_append, List.mem_singleton] at h
    have e : ∀ (o : Option X), (∀ y ∈ o.toList, noGX y = true) → o.map (XV noGl fr) = o.map (XV G fr) := fun o ho => by
      cases o with
      | none => rfl
      | some y => simp only [Option.map_some]; rw [XV_noG (ho y (by simp))]
    simp only [evP, e lo (fun y hy => h y (.inl (.inl (.inr hy)))), e hi (fun y hy => h y (.inl (.inr hy))), e mx (fun y hy => h y (.inr hy)), XV_noG (G := G) (fr := fr) (h x (.inl (.inl (.inl rfl))))]
  all_goals simp only [opX, List.mem_cons, List.not_mem_nil, or_false, forall_eq_or_imp, forall_eq] at h
  all_goals simp only [evP]
  all_goals first
    | rfl
    | rw [XV_noG (G := G) h]
    | rw [XV_noG (G := G) h.1, XV_noG (G := G) h.2]
    | rw [XV_noG (G := G) h.1, XV_noG (G := G) h.2.1, XV_noG (G := G) h.2.2]

theorem evR_no : ∀ (l : List Ins) (fr fr' : Fr), (l.all fun i => (opX i.op).all noGX) = true → evR noGl noHp l fr = some fr' → evR G H l fr = some fr'
  | [], fr, fr', _, h => h
  | i :: l, fr, fr', hn, h => by
    simp only [List.all_cons, Bool.and_eq_true] at hn
    simp only [evR] at h ⊢
    obtain ⟨d, h1, h2⟩ := bindS h
    have h3 : evI G fr H i = some d := by
      unfold evI at h1 ⊢
      have key : ∀ e, evP noGl fr noHp i.op = some e → evP G fr H i.op = some e := fun e he => evP_noH (by rw [← evP_noG hn.1]; exact he)
      split at h1
      · exact key d h1
      · split at h1
        · split at h1
          · rename_i hc; rw [if_pos hc]; exact key d h1
          · rename_i hc; rw [if_neg hc]; exact h1
        · exact h1
        · cases h1
    rw [h3]
    exact evR_no l _ _ hn.2 h2

theorem evC_no : ∀ (n : Nat) (c : CC) (fr : Fr) (p : EX × Fr), noG c = true → evC noGl noHp n c fr = some p → evC G H n c fr = some p := by
  intro n
  induction n with
  | zero => intro c fr p _ h; cases h
  | succ n ih =>
    intro c fr p hn h
    cases c with
    | reg l =>
      simp only [evC, Option.map_eq_some_iff] at h ⊢
      obtain ⟨f, h1, rfl⟩ := h
      exact ⟨f, evR_no l _ _ hn h1, rfl⟩
    | seq a b =>
      simp only [noG, Bool.and_eq_true] at hn
      simp only [evC] at h ⊢
      obtain ⟨⟨e1, f1⟩, h1, h2⟩ := bindS h
      rw [ih a fr _ hn.1 h1]
      cases e1 with
      | normal => exact ih b f1 p hn.2 h2
      | _ => exact h2
    | cond x a b =>
      simp only [noG, Bool.and_eq_true] at hn
      simp only [evC] at h ⊢
      rw [XV_noG (G := G) hn.1.1] at h
      split at h
      · exact ih a fr p hn.1.2 h
      · exact ih b fr p hn.2 h
      · cases h
    | block id c =>
      simp only [evC, Option.map_eq_some_iff] at h ⊢
      obtain ⟨q, h1, rfl⟩ := h
      exact ⟨q, ih c fr q hn h1, rfl⟩
    | loop c =>
      simp only [evC] at h ⊢
      obtain ⟨⟨e1, f1⟩, h1, h2⟩ := bindS h
      rw [ih c fr _ hn h1]
      cases e1 with
      | normal => exact ih (.loop c) f1 p hn h2
      | _ => exact h2
    | scp c => simp only [evC] at h ⊢; exact ih c fr p hn h
    | skip => exact h
    | exit j => exact h
    | ret => exact h
    | draw l a => exact h
    | rng x ps a b => exact h
    | stuck => exact h

theorem evRes_noH : ∀ (rs : List RV) (fr : Fr) (l : List DV), evRes noHp fr rs = some l → evRes H fr rs = some l
  | [], fr, l, h => h
  | .tmp t :: rs, fr, l, h => by
    simp only [evRes] at h ⊢
    obtain ⟨l', h1, h2⟩ := bindS h
    rw [evRes_noH rs fr l' h1]; exact h2
  | .cell t agg sz :: rs, fr, l, h => by
    simp only [evRes] at h ⊢
    obtain ⟨d, h0, h⟩ := bindS h
    obtain ⟨l', h1, h2⟩ := bindS h
    have : ldD H agg sz (fr t) = some d := by
      cases hx : fr t <;> rw [hx] at h0 <;> simp only [ldD, noHp] at h0 ⊢ <;> first | exact h0 | (cases h0)
    rw [this, evRes_noH rs fr l' h1]; exact h2

theorem PF.ev {f : FuncId} {F : FN} (n : Nat) {ds : List DV} {d : DV} (hf : cFn P f = some F) (hl : ds.length ≤ F.N) (hg : noG F.c = true) (h : evFn noGl noHp F n ds = some d) : PF P G f ds d := by
  intro H
  refine CALL.ev (n := n) hf hl ?_
  unfold evFn at h ⊢
  obtain ⟨⟨e, fr'⟩, h1, h2⟩ := bindS h
  rw [evC_no n _ _ _ hg h1]
  cases e with
  | normal =>
    simp only [Option.map_eq_some_iff] at h2
    obtain ⟨l, h3, rfl⟩ := h2
    simp only [Option.bind_some, evRes_noH _ _ _ h3, Option.map_some]
  | ret =>
    simp only [Option.map_eq_some_iff] at h2
    obtain ⟨l, h3, rfl⟩ := h2
    simp only [Option.bind_some, evRes_noH _ _ _ h3, Option.map_some]
  | exit j => simp only at h2; cases h2
  | panic d => simp only at h2; cases h2

/-- A test of a byte, tried at every byte. -/
def byteTest (F : FN) (n : Nat) (spec : UInt8 → Bool) : Bool :=
  (List.range 256).all fun c => match evFn noGl noHp F n [.int .u8 c] with
    | some (.bool b) => b == spec (UInt8.ofNat c)
    | _ => false

theorem PF.byteTest {f : FuncId} {F : FN} {n : Nat} {spec : UInt8 → Bool} (hf : cFn P f = some F) (hl : 1 ≤ F.N) (hg : noG F.c = true) (h : Go.Run.byteTest F n spec = true) (c : UInt8) : PF P G f [.int .u8 c.toNat] (.bool (spec c)) := by
  refine PF.ev n hf hl hg ?_
  have h1 := List.all_eq_true.1 h c.toNat (by simpa using c.toNat_lt)
  split at h1
  · rename_i b hb
    have : UInt8.ofNat c.toNat = c := by simp
    rw [this] at h1
    rw [hb, eq_of_beq h1]
  · cases h1
end
end Go.Run
/- More operations: conversions, functions without a body. -/
namespace Go.Run
open Go Go.RowKit

section
variable {P : Program} {G : Gl} {r : Option Nat} {N : Nat} {w : World} {H : Hp} {Z : Zn}

theorem cOp_s2b {o : Op} {ty : TypeId} {x : X} (h : cOp P o = some (.s2b ty x)) : ∃ s d y, o = .convert s d y ∧ P.underlying s = some .string ∧ P.underlying d = some (.slice ty) ∧ P.underlying ty = some (.int .u8) ∧ x = cX y := by
  cases o
  case convert s d y =>
    simp only [cOp] at h
    split at h <;> first | (cases h; done) | skip
    · split at h <;> first | (cases h; done) | skip
      cases h
      exact ⟨s, d, y, rfl, ‹_›, ‹_›, ‹_›, rfl⟩
    · split at h <;> cases h
  all_goals (first | (cases h; done) | skip)
  all_goals exfalso
  all_goals simp only [cOp] at h
  all_goals repeat' (first | (rw [Option.bind_eq_some_iff] at h; obtain ⟨_, _, h⟩ := h) | split at h)
  all_goals cases h

theorem cOp_b2s {o : Op} {x : X} (h : cOp P o = some (.b2s x)) : ∃ s d e y, o = .convert s d y ∧ P.underlying s = some (.slice e) ∧ P.underlying d = some .string ∧ P.underlying e = some (.int .u8) ∧ x = cX y := by
  cases o
  case convert s d y =>
    simp only [cOp] at h
    split at h <;> first | (cases h; done) | skip
    · split at h <;> cases h
    · split at h <;> first | (cases h; done) | skip
      cases h
      exact ⟨s, d, _, y, rfl, ‹_›, ‹_›, ‹_›, rfl⟩
  all_goals (first | (cases h; done) | skip)
  all_goals exfalso
  all_goals simp only [cOp] at h
  all_goals repeat' (first | (rw [Option.bind_eq_some_iff] at h; obtain ⟨_, _, h⟩ := h) | split at h)
  all_goals cases h

theorem cOp_i2s {o : Op} {x : X} (h : cOp P o = some (.i2s x)) : ∃ s d k y, o = .convert s d y ∧ P.underlying s = some (.int k) ∧ P.underlying d = some .string ∧ x = cX y := by
  cases o
  case convert s d y =>
    simp only [cOp] at h
    split at h <;> first | (cases h; done) | skip
    · split at h <;> cases h
    · split at h <;> cases h
    · cases h; exact ⟨s, d, _, y, rfl, ‹_›, ‹_›, rfl⟩
  all_goals (first | (cases h; done) | skip)
  all_goals exfalso
  all_goals simp only [cOp] at h
  all_goals repeat' (first | (rw [Option.bind_eq_some_iff] at h; obtain ⟨_, _, h⟩ := h) | split at h)
  all_goals cases h

/-- '[]byte(s)': nothing writes there. -/
theorem ST.s2b {ty : TypeId} {x : X} {s : List UInt8} {dst : Option Nat} {K : Fr → Hp → Prop} {Q : EX → Fr → Hp → Prop} {fr : Fr} (hx' : XV G fr x = .str s) (h : K (fr.put dst (.lst (s.map B8) s.length 1 none)) H) :
    ST P G r N (.s2b ty x) dst K Q fr H := by
  intro n base w Z a o hc hx hd hr hf
  obtain ⟨sr, ds, y, ho, h1, h2, h3, rfl⟩ := cOp_s2b hc
  simp only [opX, List.all_cons, List.all_nil, Bool.and_true] at hx
  have hv := cX_sound hr hf hx
  rw [hx'] at hv
  obtain ⟨t, ht, hts⟩ := hv.str_inv
  subst hts
  obtain ⟨hr1, hx1⟩ := drewHR hr
  have hrun := run_bytes_of_string (P := P) w sr ds ty t h1 h2 h3
  have hge := grownCap_ge w t.size 0 ty
  generalize grownCap w t.size 0 ty = cap at hrun hge
  obtain ⟨k1, k2⟩ := alloc_imm hr1 (.cells (bytesRow t cap) ty ((bytesRow t cap).size, (bytesRow t cap).size + 1))
  have hlen : t.size = t.data.toList.length := by rw [Array.length_toList]; rfl
  have hnew : (w.drew.alloc (.cells (bytesRow t cap) ty ((bytesRow t cap).size, (bytesRow t cap).size + 1))).heap[w.heap.size]? = some (.cells (bytesRow t cap) ty ((bytesRow t cap).size, (bytesRow t cap).size + 1)) := heap_alloc_new w.drew _
  refine wpIn_value (v := .slice (some ⟨w.heap.size, 0, none⟩) t.size cap) (by rw [ho]; intro c e; cases e) ?_ ⟨_, H, _, h, k1, ?_, hx1.trans k2⟩
  · simp only [execOp, ho, Sem.run_bind, Sem.run_map, ht, hrun, Result.andThen_ok, Sem.run_pure]
  · rw [hd]
    refine (hf.ext hr (hx1.trans k2)).putO ?_
    rw [hlen]
    refine .lst _ _ _ _ _ _ (fun j => .int .u8 ((t.data.toList.getD j 0).toNat : Int)) (by simp) (by omega) (fun j hj => ?_) (fun j hj => rfl) (fun j d hdj => ?_) (fun b off e => by cases e)
    · have hj' : j < t.data.toList.length := by simpa using hj
      refine ⟨_, rfl, rfl, ?_, .inl (.inr rfl)⟩
      rw [cell_of_row _ _ _ _ _ _ hnew]
      simp only [Nat.zero_add]
      have hj2 : j < t.data.size := by simpa using hj'
      rw [bytesRow_at t cap j hj2]
      simp [List.getD, Array.getElem?_eq_getElem hj2]
    · rw [List.getElem?_map] at hdj
      cases e : t.data.toList[j]? with
      | none => rw [e] at hdj; cases hdj
      | some u =>
        rw [e] at hdj
        cases hdj
        simp only [List.getD, e, Option.getD_some, B8]
        exact .int _ _

/-- 'string(b)'. -/
theorem ST.b2s {x : X} {s : List UInt8} {dst : Option Nat} {tag : Option (Nat × Nat)} {K : Fr → Hp → Prop} {Q : EX → Fr → Hp → Prop} {fr : Fr} (hx' : XV G fr x = .lst (s.map B8) s.length 1 tag) (h : K (fr.put dst (.str s)) H) :
    ST P G r N (.b2s x) dst K Q fr H := by
  intro n base w Z a o hc hx hd hr hf
  obtain ⟨sr, ds, e, y, ho, h1, h2, h3, rfl⟩ := cOp_b2s hc
  simp only [opX, List.all_cons, List.all_nil, Bool.and_true] at hx
  have hv := cX_sound hr hf hx
  rw [hx'] at hv
  obtain ⟨A, c, vs, hA, g1, g2, g3, g4, g5⟩ := hv.lst_inv
  have hrun : (convert sr ds (a.eval y)).run P w = .ok (.string ⟨s.toArray⟩) w := by
    rw [hA]
    by_cases hs : s = []
    · subst hs
      cases A with
      | none => simp [convert, run_underlying h1, run_underlying h2, run_underlying h3, Conv.bytesToString, Result.andThen]; rfl
      | some A => exact run_convert_bytes_back w sr ds e A c [] h1 h3 h2 (fun j hj => by simp at hj)
    · obtain ⟨A', rfl, hcp⟩ := g5 (by simpa using hs)
      refine run_convert_bytes_back w sr ds e A' c s h1 h3 h2 (fun j hj => ?_)
      have hj' : j < (s.map B8).length := by simpa using hj
      obtain ⟨q1, _⟩ := hcp.cell j hj'
      have q2 := hcp.val j (B8 s[j]) (by simp [hj])
      have q3 : vs j = .int .u8 (s[j].toNat : Int) := by
        unfold B8 at q2
        exact q2.int_inv
      rw [← q3, ← q1]
      have : A'.add j = ⟨A'.block, A'.off + j, none⟩ := by
        cases A' with
        | mk b o sp => have := hcp.spot; simp only at this; subst this; simp [Addr.add]
      rw [this]
  refine wpIn_value (v := .string ⟨s.toArray⟩) (by rw [ho]; intro c e; cases e) ?_ ⟨_, H, Z, h, hr, ?_, .refl hr⟩
  · simp only [execOp, ho, Sem.run_bind, Sem.run_map, hrun, Result.andThen_ok, Sem.run_pure]
  · rw [hd]; exact hf.putO (.str _ _ (by simp))

theorem ST.b2s_nil {x : X} {dst : Option Nat} {K : Fr → Hp → Prop} {Q : EX → Fr → Hp → Prop} {fr : Fr} (hx' : XV G fr x = .nils) (h : K (fr.put dst (.str [])) H) : ST P G r N (.b2s x) dst K Q fr H := by
  intro n base w Z a o hc hx hd hr hf
  obtain ⟨sr, ds, e, y, ho, h1, h2, h3, rfl⟩ := cOp_b2s hc
  simp only [opX, List.all_cons, List.all_nil, Bool.and_true] at hx
  have hv := cX_sound hr hf hx
  rw [hx'] at hv
  have hA : a.eval y = .slice none 0 0 := by generalize a.eval y = q at hv; cases hv; rfl
  have hrun : (convert sr ds (a.eval y)).run P w = .ok (.string .empty) w := by
    rw [hA]
    simp [convert, run_underlying h1, run_underlying h2, run_underlying h3, Conv.bytesToString, Result.andThen]
  refine wpIn_value (v := .string .empty) (by rw [ho]; intro c e; cases e) ?_ ⟨_, H, Z, h, hr, ?_, .refl hr⟩
  · simp only [execOp, ho, Sem.run_bind, Sem.run_map, hrun, Result.andThen_ok, Sem.run_pure]
  · rw [hd]; exact hf.putO (.str _ _ rfl)

/-- 'string(n)'. -/
theorem ST.i2s {x : X} {k : IntKind} {i : Int} {dst : Option Nat} {K : Fr → Hp → Prop} {Q : EX → Fr → Hp → Prop} {fr : Fr} (hx' : XV G fr x = .int k i) (h : K (fr.put dst (.str (Utf8.encode i).data.toList)) H) : ST P G r N (.i2s x) dst K Q fr H := by
  intro n base w Z a o hc hx hd hr hf
  obtain ⟨sr, ds, e, y, ho, h1, h2, rfl⟩ := cOp_i2s hc
  simp only [opX, List.all_cons, List.all_nil, Bool.and_true] at hx
  have hv := cX_sound hr hf hx
  rw [hx'] at hv
  have hA := hv.int_inv
  have hrun : (convert sr ds (a.eval y)).run P w = .ok (.string (Utf8.encode i)) w := by
    rw [hA]
    simp [convert, run_underlying h1, run_underlying h2, Conv.intToString, Result.andThen]
  refine wpIn_value (v := .string (Utf8.encode i)) (by rw [ho]; intro c e; cases e) ?_ ⟨_, H, Z, h, hr, ?_, .refl hr⟩
  · simp only [execOp, ho, Sem.run_bind, Sem.run_map, hrun, Result.andThen_ok, Sem.run_pure]
  · rw [hd]; exact hf.putO (.str _ _ rfl)

/-- A function without a body, that the model answers. -/
theorem ST.ext {f : FuncId} {xs : List X} {fn : Func} {e : Array Value → Sem Value} {d : DV} {dst : Option Nat} {K : Fr → Hp → Prop} {Q : EX → Fr → Hp → Prop} {fr : Fr} (hf' : P.funcs[f]? = some fn) (hb : fn.body = none) (hnm : (fn.name == "runtime.NumGoroutine") = false)
    (hn : Extern.findNext fn = none) (he : Extern.find fn = some e)
    (hrun : ∀ (w : World) (Z : Zn) (vs : Array Value), HR G w H Z → vs.size = xs.length → (∀ (j : Nat) (v : Value) (d : DV), vs[j]? = some v → (xs.map (XV G fr))[j]? = some d → VR w H Z v d) → ∃ v, (e vs).run P w = .ok v w ∧ VR w H Z v d)
    (h : K (fr.put dst d) H) : ST P G r N (.call f xs) dst K Q fr H := by
  intro n base w Z a o hc hx hd hr hf
  obtain ⟨c, ho, hcal, rfl⟩ := cOp_call hc
  obtain ⟨h1, h2⟩ := vr_map hr hf c.args (by simpa [opX] using hx)
  obtain ⟨v, k1, k2⟩ := hrun w Z (c.args.map a.eval) hr (by simp) (by simpa [List.map_map, Function.comp_def] using h2)
  refine wpIn_value (v := v) (by rw [ho]; intro c e; cases e) ?_ ⟨_, H, Z, h, hr, by rw [hd]; exact hf.putO k2, .refl hr⟩
  simp only [execOp, ho, resolve, hcal, Act.eval, Deferred.ofValue, Sem.run_bind, Sem.run_pure, Result.andThen_ok, invoke, Array.empty_append, Array.append_empty]
  simp only [callFunc, Sem.run_bind, run_program, Result.andThen_ok, hf', hnm, hb, Option.isNone_none, Bool.false_eq_true, if_false, if_true, hn, he, mark, Sem.run, k1, Sem.run_pure]
end
end Go.Run
/- What a strings.Builder does beyond appending. -/
namespace Go.Run
open Go Go.RowKit

section
variable {P : Program} {G : Gl} {r : Option Nat} {N : Nat} {w : World} {H : Hp} {Z : Zn}

set_option maxHeartbeats 1000000 in
theorem cOp_oth {o o' : Op} (h : cOp P o = some (.oth o')) : o = o' := by
  cases o
  all_goals (first | (cases h; done) | skip)
  all_goals simp only [cOp] at h
  all_goals repeat' (first | (rw [Option.bind_eq_some_iff] at h; obtain ⟨_, _, h⟩ := h) | split at h)
  all_goals first | (cases h; done) | (cases h; rfl)

theorem oth_slot {o : Op} {t : Nat} {x : List Operand} (hx : (opX (.oth o)).all (XOk N) = true) (ho : o.operands.toList = x) (ht : Operand.tmp t ∈ x) : t < N := by
  simp only [opX, List.all_map, List.all_eq_true] at hx
  have := hx (.tmp t) (by rw [ho]; exact ht)
  simpa [cX, XOk] using this

theorem shape_of {b : Nat} {arr : Array Value} {ty : TypeId} {fz : Nat × Nat} (h : w.heap[b]? = some (.cells arr ty fz)) : w.shape? b = some (ty, arr.size) := by
  simp [World.shape?, h]

/-- To an address without a type, and back: the address as it is. -/
theorem ST.p2u {s d t e b off : Nat} {u : Nat} {j : TypeInfo} {cs : List DV} {dst : Option Nat} {K : Fr → Hp → Prop} {Q : EX → Fr → Hp → Prop} {fr : Fr} (hs : P.underlying s = some (.pointer u)) (hd : P.underlying d = some .unsafePointer) (hj : P.info? u = some j) (hj0 : j.size ≠ 0)
    (hx' : fr t = .ptr b off) (hb : H b = some (.cells cs e)) (hoff : off < cs.length) (h : K (fr.put dst (.ptr b off)) H) : ST P G r N (.oth (.convert s d (.tmp t))) dst K Q fr H := by
  intro n base w Z a o hc hx hdst hr hf
  have ho := cOp_oth hc
  have ht := oth_slot (t := t) hx (x := [.tmp t]) rfl (by simp)
  have hv := hf.vals t ht
  rw [hx'] at hv
  have hA := hv.ptr_inv
  obtain ⟨arr, fz, h1, h2, h3, h4, h5⟩ := hr.obj b _ hb
  have hrun := Lib.run_to_unsafe (P := P) w ⟨b, off, none⟩ hs hd hj hj0 (shape_of h1) (by show off < arr.size; omega)
  refine wpIn_value (v := .pointer (some ⟨b, off, none⟩)) (by rw [ho]; intro c e; cases e) ?_ ⟨_, H, Z, h, hr, by rw [hdst]; exact hf.putO (.ptr b off), .refl hr⟩
  have hA' : a.eval (.tmp t) = .pointer (some ⟨b, off, none⟩) := hA
  simp only [execOp, ho, Sem.run_bind, hA', hrun, Result.andThen_ok, Sem.run_pure]

theorem ST.u2p {s d t e b off : Nat} {u : Nat} {j : TypeInfo} {cs : List DV} {dst : Option Nat} {K : Fr → Hp → Prop} {Q : EX → Fr → Hp → Prop} {fr : Fr} (hs : P.underlying s = some .unsafePointer) (hd : P.underlying d = some (.pointer u)) (hj : P.info? u = some j)
    (hx' : fr t = .ptr b off) (hb : H b = some (.cells cs e)) (hl : liesAt P P.depth e (cs.length / P.cellsOf e) off u 1 = true) (h : K (fr.put dst (.ptr b off)) H) : ST P G r N (.oth (.convert s d (.tmp t))) dst K Q fr H := by
  intro n base w Z a o hc hx hdst hr hf
  have ho := cOp_oth hc
  have ht := oth_slot (t := t) hx (x := [.tmp t]) rfl (by simp)
  have hv := hf.vals t ht
  rw [hx'] at hv
  have hA := hv.ptr_inv
  obtain ⟨arr, fz, h1, h2, h3, h4, h5⟩ := hr.obj b _ hb
  have hrun := Lib.run_from_unsafe (P := P) w ⟨b, off, none⟩ hs hd hj (shape_of h1) (by rw [h3]; exact hl)
  refine wpIn_value (v := .pointer (some ⟨b, off, none⟩)) (by rw [ho]; intro c e; cases e) ?_ ⟨_, H, Z, h, hr, by rw [hdst]; exact hf.putO (.ptr b off), .refl hr⟩
  have hA' : a.eval (.tmp t) = .pointer (some ⟨b, off, none⟩) := hA
  simp only [execOp, ho, Sem.run_bind, hA', hrun, Result.andThen_ok, Sem.run_pure]

theorem ST.noEscape {f : FuncId} {x : X} {fn : Func} {d : DV} {dst : Option Nat} {K : Fr → Hp → Prop} {Q : EX → Fr → Hp → Prop} {fr : Fr} (hf' : P.funcs[f]? = some fn) (hb : fn.body = none) (hnm : (fn.name == "runtime.NumGoroutine") = false)
    (hn : Extern.findNext fn = none) (he : Extern.find fn = some Extern.AbiNoEscape.same) (hx : XV G fr x = d) (h : K (fr.put dst d) H) : ST P G r N (.call f [x]) dst K Q fr H := by
  refine ST.ext hf' hb hnm hn he (fun w Z vs hr hs hv => ?_) h
  have hs' : vs.size = 1 := by simpa using hs
  obtain ⟨v, rfl⟩ : ∃ v, vs = #[v] := ⟨vs[0], by apply Array.ext (by simpa using hs'); intro i h1 h2; simp at h2; subst h2; rfl⟩
  exact ⟨v, Lib.run_noEscape w v, hv 0 v d rfl (by simp [hx])⟩

/-- A row that is gone on with is let go of, its head frozen. -/
theorem retire (hr : HR G w H Z) {g f sz : Nat} {ty : TypeId} (hg : H g = some (.front f sz ty)) {arr : Array Value} {fz fz' : Nat × Nat} (hw : w.heap[g]? = some (.cells arr ty fz)) {w' : World}
    (hos : w'.os = w.os) (htape : w'.tape = w.tape) (hout : w'.output = w.output) (hsz : w'.heap.size = w.heap.size) (hne : ∀ k, k ≠ g → w'.heap[k]? = w.heap[k]?) (hw' : w'.heap[g]? = some (.cells arr ty fz')) :
    HR G w' (H.upd g none) (fun b => Z b ∨ b = g) ∧ Ext w H Z w' (H.upd g none) (fun b => Z b ∨ b = g) := by
  have hd := hr.dom g _ hg
  have hx : Ext w H Z w' (H.upd g none) (fun b => Z b ∨ b = g) := {
    size := by omega
    os := hos
    tape := htape
    output := hout
    imm := fun k hk => by
      have hkg : k ≠ g := fun e => hd.2 (e ▸ hk)
      exact ⟨.inl hk, by rw [Hp.upd_ne hkg]; exact hr.apart hk, hne k hkg⟩
    priv := fun k hk hz hh => by
      have hkg : k ≠ g := fun e => by rw [e, hg] at hh; cases hh
      exact ⟨fun h => h.elim hz hkg, by rw [Hp.upd_ne hkg]; exact hh, hne k hkg⟩
    frt := fun k f' s' ty' hk _ => by
      have hkg : k ≠ g := fun e => by rw [e, Hp.upd_same] at hk; cases hk
      rw [Hp.upd_ne hkg] at hk
      exact ⟨f', hk, Nat.le_refl _⟩
    pre := fun k f' s' ty' hk => by
      by_cases hkg : k = g
      · subst hkg
        rw [hg] at hk
        cases hk
        refine ⟨.inl (.inr rfl), fun a z ha => ?_⟩
        rw [hw] at ha
        cases ha
        exact ⟨arr, fz', hw', rfl, fun _ _ => rfl⟩
      · exact ⟨.inr ⟨f', Nat.le_refl _, by rw [Hp.upd_ne hkg]; exact hk⟩, fun a z ha => ⟨a, z, (hne k hkg).trans ha, rfl, fun _ _ => rfl⟩⟩ }
  refine ⟨⟨fun k o e => ?_, fun k hk => ?_, fun k o e => ?_, fun g' cs e => (hr.glob g' cs e).ext hr hx⟩, hx⟩
  · have hkg : k ≠ g := fun e' => by rw [e', Hp.upd_same] at e; cases e
    rw [Hp.upd_ne hkg] at e
    have := hr.dom k o e
    exact ⟨by omega, fun h => h.elim this.2 hkg⟩
  · rcases hk with hk | rfl
    · have := hr.zlt k hk; omega
    · omega
  · have hkg : k ≠ g := fun e' => by rw [e', Hp.upd_same] at e; cases e
    rw [Hp.upd_ne hkg] at e
    exact (hr.obj k o e).ext hr hx (hne k hkg)

/-- Where the first byte of one's own row lies. -/
theorem ST.sdata {t g n : Nat} {ty : TypeId} {c : DV} {cs : List DV} {tys : Array TypeId} {dst : Option Nat} {K : Fr → Hp → Prop} {Q : EX → Fr → Hp → Prop} {fr : Fr} (hx' : fr t = .lst (c :: cs) n 1 (some (g, 0))) (hg : H g = some (.front n 1 ty))
    (h : K (fr.put dst (.ptr g 0)) H) : ST P G r N (.oth (.call ⟨.builtin .unsafeSliceData, #[.tmp t], tys⟩)) dst K Q fr H := by
  intro n0 base w Z a o hc hx hdst hr hf
  have ho := cOp_oth hc
  have ht := oth_slot (t := t) hx (x := [.tmp t]) (by simp [Op.operands, Call.operands]) (by simp)
  have hv := hf.vals t ht
  rw [hx'] at hv
  obtain ⟨A, cp, vs, hA, k1, k2, k4, kt, kA⟩ := hv.lst_inv
  obtain ⟨_, kt2⟩ := kt g 0 rfl
  obtain ⟨_, kt3⟩ := kt2 n 1 ty hg
  obtain ⟨_, rfl, arr, fz, kw, ksz⟩ := kt3 (by omega)
  simp only [Nat.zero_mul] at hA
  have hcp : cp ≠ 0 := by simp at k1; omega
  have hA' : a.eval (.tmp t) = .slice (some ⟨g, 0, none⟩) n cp := hA
  have hrun := Lib.run_unsafeSliceData_row (P := P) w tys o.type ⟨g, 0, none⟩ n cp hcp
  refine wpIn_value (v := .pointer (some ⟨g, 0, none⟩)) (by rw [ho]; intro c e; cases e) ?_ ⟨_, H, Z, h, hr, by rw [hdst]; exact hf.putO (.ptr g 0), .refl hr⟩
  simp only [execOp, ho, resolve, List.map_toArray, List.map_cons, List.map_nil, invoke, builtin, Sem.run_bind, Sem.run_pure, Result.andThen_ok, hA', hrun]

theorem ST.sdata_nil {t : Nat} {tys : Array TypeId} {dst : Option Nat} {K : Fr → Hp → Prop} {Q : EX → Fr → Hp → Prop} {fr : Fr} (hx' : fr t = .nils)
    (h : K (fr.put dst .nilp) H) : ST P G r N (.oth (.call ⟨.builtin .unsafeSliceData, #[.tmp t], tys⟩)) dst K Q fr H := by
  intro n0 base w Z a o hc hx hdst hr hf
  have ho := cOp_oth hc
  have ht := oth_slot (t := t) hx (x := [.tmp t]) (by simp [Op.operands, Call.operands]) (by simp)
  have hv := hf.vals t ht
  rw [hx'] at hv
  have hA' : a.eval (.tmp t) = .slice none 0 0 := by
    show a.tmps.getD t undef = _
    generalize a.tmps.getD t undef = q at hv
    cases hv; rfl
  have hrun := Lib.run_unsafeSliceData_nil (P := P) w tys o.type 0 0
  refine wpIn_value (v := .pointer none) (by rw [ho]; intro c e; cases e) ?_ ⟨_, H, Z, h, hr, by rw [hdst]; exact hf.putO .nilp, .refl hr⟩
  simp only [execOp, ho, resolve, List.map_toArray, List.map_cons, List.map_nil, invoke, builtin, Sem.run_bind, Sem.run_pure, Result.andThen_ok, hA', hrun]

theorem ST.ustr_nil {t u : Nat} {pt it : TypeId} {dst : Option Nat} {K : Fr → Hp → Prop} {Q : EX → Fr → Hp → Prop} {fr : Fr} (hx' : fr t = .nilp) (hy' : fr u = .int .i64 0)
    (h : K (fr.put dst (.str [])) H) : ST P G r N (.oth (.call ⟨.builtin .unsafeString, #[.tmp t, .tmp u], #[pt, it]⟩)) dst K Q fr H := by
  intro n0 base w Z a o hc hx hdst hr hf
  have ho := cOp_oth hc
  have ht := oth_slot (t := t) hx (x := [.tmp t, .tmp u]) (by simp [Op.operands, Call.operands]) (List.mem_cons_self ..)
  have hu := oth_slot (t := u) hx (x := [.tmp t, .tmp u]) (by simp [Op.operands, Call.operands]) (by simp)
  have hv := hf.vals t ht
  have hv2 := hf.vals u hu
  rw [hx'] at hv
  rw [hy'] at hv2
  have hA' : a.eval (.tmp t) = .pointer none := by
    show a.tmps.getD t undef = _
    generalize a.tmps.getD t undef = q at hv
    cases hv; rfl
  have hB' : a.eval (.tmp u) = .int .i64 0 := hv2.int_inv
  have hrun := Lib.run_unsafeString_none (P := P) w pt it o.type none
  refine wpIn_value (v := .string .empty) (by rw [ho]; intro c e; cases e) ?_ ⟨_, H, Z, h, hr, by rw [hdst]; exact hf.putO (.str _ _ rfl), .refl hr⟩
  simp only [execOp, ho, resolve, List.map_toArray, List.map_cons, List.map_nil, invoke, builtin, Sem.run_bind, Sem.run_pure, Result.andThen_ok, hA', hB', hrun]

/-- A builder's bytes as a text: its row is let go of. -/
theorem ST.ustr {t u g b k : Nat} {pt it ty ty' : TypeId} {s : List UInt8} {cs : List DV} {dst : Option Nat} {K : Fr → Hp → Prop} {Q : EX → Fr → Hp → Prop} {fr : Fr} (hpt : P.underlying pt = some (.pointer ty)) (hce : P.cellsOf ty = 1) (hs : s ≠ []) (h63 : s.length ≤ 9223372036854775807)
    (hx' : fr t = .ptr g 0) (hy' : fr u = .int .i64 s.length) (hg : H g = some (.front s.length 1 ty)) (hb : H b = some (.cells cs ty')) (hk : cs[k]? = some (.lst (s.map B8) s.length 1 (some (g, 0))))
    (h : K (fr.put dst (.str s)) (H.upd g none)) : ST P G r N (.oth (.call ⟨.builtin .unsafeString, #[.tmp t, .tmp u], #[pt, it]⟩)) dst K Q fr H := by
  intro n0 base w Z a o hc hx hdst hr hf
  have ho := cOp_oth hc
  have ht := oth_slot (t := t) hx (x := [.tmp t, .tmp u]) (by simp [Op.operands, Call.operands]) (List.mem_cons_self ..)
  have hu := oth_slot (t := u) hx (x := [.tmp t, .tmp u]) (by simp [Op.operands, Call.operands]) (by simp)
  have hv := hf.vals t ht
  have hv2 := hf.vals u hu
  rw [hx'] at hv
  rw [hy'] at hv2
  have hA' : a.eval (.tmp t) = .pointer (some ⟨g, 0, none⟩) := hv.ptr_inv
  have hB' : a.eval (.tmp u) = .int .i64 s.length := hv2.int_inv
  obtain ⟨arrb, fzb, q1, q2, q3, q4, q5⟩ := hr.obj b _ hb
  have hkl : k < arrb.size := by rw [q3]; exact (List.getElem?_eq_some_iff.1 hk).1
  have hl := q5 k _ _ (Array.getElem?_eq_getElem hkl) hk
  obtain ⟨A, cp, vs, hA, k1, k2, k4, kt, kA⟩ := hl.lst_inv
  obtain ⟨_, kt2⟩ := kt g 0 rfl
  obtain ⟨_, kt3⟩ := kt2 s.length 1 ty hg
  obtain ⟨_, rfl, arr, fz, kw, ksz⟩ := kt3 (by omega)
  obtain ⟨A', e1, hcp⟩ := kA (by simpa using hs)
  cases e1
  have hcell : ∀ (j : Nat) (x : UInt8), s[j]? = some x → w.cell? ((⟨g, 0, none⟩ : Addr).add j) = some (.int .u8 x.toNat) := by
    intro j x hj
    have hj' := (List.getElem?_eq_some_iff.1 hj).1
    obtain ⟨c1, _⟩ := hcp.cell j (by simpa using hj')
    have c2 := hcp.val j (B8 x) (by simp [hj])
    have c3 : vs j = .int .u8 (x.toNat : Int) := by unfold B8 at c2; exact c2.int_inv
    rw [← c3, ← c1, add_off rfl]
  have hrun := Lib.run_unsafeString_row (P := P) w pt it o.type ty hpt hce g arr.size (shape_of kw) s hs (by rw [ksz]; omega) h63 hcell
  have hn0 : s.length ≠ 0 := by simpa using hs
  have hw' : ∃ fz', (w.freeze ⟨g, 0, none⟩ s.length).heap[g]? = some (.cells arr ty fz') := by
    simp only [World.freeze, if_neg hn0, Array.getElem?_modify, kw, Option.map_some, if_true]
    exact ⟨_, rfl⟩
  obtain ⟨fz', hw'⟩ := hw'
  obtain ⟨m1, m2⟩ := retire hr hg kw (w' := w.freeze ⟨g, 0, none⟩ s.length) (fz' := fz') (by simp [World.freeze, hs]) (by simp [World.freeze, hs]) (by simp [World.freeze, hs]) (by simp [World.freeze, hs])
    (fun k hk => by simp only [World.freeze, if_neg hn0, Array.getElem?_modify]; rw [if_neg (fun e => hk e.symm)]) hw'
  refine wpIn_value (v := .string ⟨s.toArray⟩) (by rw [ho]; intro c e; cases e) ?_ ⟨_, H.upd g none, _, h, m1, by rw [hdst]; exact (hf.ext hr m2).putO (.str _ _ (by simp)), m2⟩
  simp only [execOp, ho, resolve, List.map_toArray, List.map_cons, List.map_nil, invoke, builtin, Sem.run_bind, Sem.run_pure, Result.andThen_ok, hA', hB', hrun]
end
end Go.Run
/- A range over a function. -/
namespace Go.Run
open Go Go.RowKit

section
variable {P : Program} {G : Gl} {r : Option Nat} {N : Nat} {w : World} {H : Hp} {Z : Zn}

def putAll : Fr → List Nat → List DV → Fr
  | fr, p :: ps, d :: ds => putAll (fr.set p d) ps ds
  | fr, _, _ => fr

variable (P G) in
/-- What a call of a loop's 'yield' answers. -/
def YLD (l : Nat) (ds : List DV) (H : Hp) (Kr Kp : DV → Hp → Prop) : Prop :=
  ∀ (r : Option Nat) (n : Nat) (w : World) (Z : Zn) (vs : Array Value), HR G w H Z → vs.size = ds.length → (∀ (j : Nat) (v : Value) (d : DV), vs[j]? = some v → ds[j]? = some d → VR w H Z v d) →
    ∃ f tmps as bd, (Instr.yield l vs).run P w = .ok (.round l f tmps as bd) w ∧ RoundIn (Wd r) n P l f tmps as bd w (CPost G Kr Kp w H Z)

theorem putAll_sound {base : Nat} : ∀ (ps : List Nat) (ds : List DV) (vs : List Value) (fr : Fr) (tmps : Array Value), vs.length = ds.length → tmps.size = N → (∀ t, t < N → VR w H Z (tmps.getD t undef) (fr t)) →
    (∀ (j : Nat) (v : Value) (d : DV), vs[j]? = some v → ds[j]? = some d → VR w H Z v d) → base ≤ w.heap.size →
    FR w H Z (base, []) N { tmps := (ps.zip vs).foldl (fun tmps (t, a) => tmps.setIfInBounds t a) tmps, defers := [] } (putAll fr ps ds)
  | [], ds, vs, fr, tmps, _, hs, hf, _, hb => ⟨hs, hf, MarksB.nil, hb⟩
  | p :: ps, [], [], fr, tmps, _, hs, hf, _, hb => ⟨hs, hf, MarksB.nil, hb⟩
  | p :: ps, d :: ds, v :: vs, fr, tmps, hl, hs, hf, hv, hb => by
    have h0 : FR w H Z (base, []) N { tmps := tmps, defers := [] } fr := ⟨hs, hf, MarksB.nil, hb⟩
    have h1 := h0.put (t := p) (hv 0 v d rfl rfl)
    exact putAll_sound ps ds vs _ _ (by simpa using hl) h1.size h1.vals (fun j v' d' h1 h2 => hv (j + 1) v' d' (by simpa using h1) (by simpa using h2)) hb
  | _ :: _, [], _ :: _, _, _, hl, _, _, _, _ => by simp at hl
  | _ :: _, _ :: _, [], _, _, hl, _, _, _, _ => by simp at hl

/-- A loop's record is turned. -/
theorem set_loop (hr : HR G w H Z) {l : Nat} {ps : List Nat} {as bd : Code} {fr : Fr} {st st' : LoopState} {pend pend' : Option Code} (hl : H l = some (.loop N ps as bd fr st pend)) {L : Loop} (hw : w.heap[l]? = some (.loop L)) :
    HR G (w.putObj l (.loop { L with state := st', pending := pend' })) (H.upd l (some (.loop N ps as bd fr st' pend'))) Z ∧ Ext w H Z (w.putObj l (.loop { L with state := st', pending := pend' })) (H.upd l (some (.loop N ps as bd fr st' pend'))) Z := by
  have hd := hr.dom l _ hl
  have hne : ∀ k, k ≠ l → (w.putObj l (.loop { L with state := st', pending := pend' })).heap[k]? = w.heap[k]? := fun k hk => World.putObj_heap_other hk
  have hx : Ext w H Z (w.putObj l (.loop { L with state := st', pending := pend' })) (H.upd l (some (.loop N ps as bd fr st' pend'))) Z := {
    size := by simp
    os := rfl
    tape := rfl
    output := rfl
    imm := fun k hk => by
      have hkl : k ≠ l := fun e => hd.2 (e ▸ hk)
      exact ⟨hk, by rw [Hp.upd_ne hkl]; exact hr.apart hk, hne k hkl⟩
    priv := fun k hk hz hh => by
      have hkl : k ≠ l := fun e => by rw [e, hl] at hh; cases hh
      exact ⟨hz, by rw [Hp.upd_ne hkl]; exact hh, hne k hkl⟩
    frt := fun k f' s' ty' hk _ => by
      have hkl : k ≠ l := fun e => by rw [e, Hp.upd_same] at hk; cases hk
      rw [Hp.upd_ne hkl] at hk
      exact ⟨f', hk, Nat.le_refl _⟩
    pre := fun k f' s' ty' hk => by
      have hkl : k ≠ l := fun e => by rw [e, hl] at hk; cases hk
      exact ⟨.inr ⟨f', Nat.le_refl _, by rw [Hp.upd_ne hkl]; exact hk⟩, fun a z ha => ⟨a, z, (hne k hkl).trans ha, rfl, fun _ _ => rfl⟩⟩ }
  refine ⟨⟨fun k o e => ?_, fun k hk => by simpa using hr.zlt k hk, fun k o e => ?_, fun g cs e => (hr.glob g cs e).ext hr hx⟩, hx⟩
  · by_cases h : k = l
    · subst h; exact ⟨by simpa using hd.1, hd.2⟩
    · rw [Hp.upd_ne h] at e
      have := hr.dom k o e
      exact ⟨by simpa using this.1, this.2⟩
  · by_cases h : k = l
    · subst h
      rw [Hp.upd_same] at e
      cases e
      obtain ⟨L0, h1, h2, h3, h4, h5, h6, h7, h8⟩ := hr.obj k _ hl
      rw [hw] at h1
      cases h1
      exact ⟨_, World.putObj_heap_same hd.1, rfl, rfl, h4, h5, h6, h7, fun t ht => (h8 t ht).ext hr hx⟩
    · rw [Hp.upd_ne h] at e
      exact (hr.obj k o e).ext hr hx (hne k h)

/-- What is asked where a round's body leaves off. -/
def Rnd (l : Nat) (N : Nat) (ps : List Nat) (as bd : Code) (fr : Fr) (Kr : DV → Hp → Prop) : EX → Fr → Hp → Prop
  | .normal, _, He => He l = some (.loop N ps as bd fr .busy none) ∧ ∃ H', SubH H' (He.upd l (some (.loop N ps as bd fr .ready none))) ∧ Kr (.bool true) H'
  | .exit id, _, He => He l = some (.loop N ps as bd fr .busy none) ∧ ∃ H', SubH H' (He.upd l (some (.loop N ps as bd fr .done (some (.exit id))))) ∧ Kr (.bool false) H'
  | .ret, _, He => He l = some (.loop N ps as bd fr .busy none) ∧ ∃ H', SubH H' (He.upd l (some (.loop N ps as bd fr .done (some .ret)))) ∧ Kr (.bool false) H'
  | .panic _, _, _ => False

/-- A round, out of its body. -/
theorem YLD.of {l : Nat} {ps : List Nat} {as bd : Code} {cas cbd : CC} {fr : Fr} {ds : List DV} {Kr Kp : DV → Hp → Prop} (hl : H l = some (.loop N ps as bd fr .ready none)) (hlen : ds.length = ps.length)
    (ha : cCode P N as = some cas) (hb : cCode P N bd = some cbd)
    (h : AC P G (some l) N cas (fun e fr1 H1 => e = .normal ∧ H1 l = some (.loop N ps as bd fr .ready none) ∧ AC P G (some l) N cbd (Rnd l N ps as bd fr Kr) fr1 (H1.upd l (some (.loop N ps as bd fr .busy none)))) (putAll fr ps ds) H) :
    YLD P G l ds H Kr Kp := by
  intro r0 n w Z vs hr hs hv
  obtain ⟨L, h1, h2, h3, h4, h5, h6, h7, h8⟩ := hr.obj l _ hl
  have hps : vs.size = L.params.size := by rw [hs, hlen, ← h4]; simp
  refine ⟨L.fn, _, L.assign, L.body, run_yield h1 hps, ?_⟩
  refine roundIn_of_wpIn (F := Wd r0) trivial ?_
  rw [h5, h6]
  have hfold : (L.params.zip vs).foldl (fun tmps (t, a) => tmps.setIfInBounds t a) L.tmps = (ps.zip vs.toList).foldl (fun tmps (t, a) => tmps.setIfInBounds t a) L.tmps := by
    rw [← Array.foldl_toList, Array.toList_zip, h4]
  have hfr := putAll_sound (N := N) (base := w.heap.size) ps ds vs.toList fr L.tmps (by simpa using hs) h7 h8 (fun j v d e1 e2 => hv j v d (by simpa using e1) e2) (Nat.le_refl _)
  rw [hfold]
  have hin : (Wd r0).inRound l = Wd (some l) := rfl
  rw [hin]
  refine wpIn_mono (h as ha n (w.heap.size, []) w Z _ hr hfr) fun e a' w' hp => ?_
  obtain ⟨ex, fr', He, Ze, q, k1, k2, k3, k4⟩ := hp
  obtain ⟨rfl, q1, q2⟩ := q
  cases e <;> first | (exact k1.elim; done) | skip
  -- begin the round
  obtain ⟨L1, g1, g2, g3, g4, g5, g6, g7, g8⟩ := k2.obj l _ q1
  have hbeg := run_beginRound (P := P) g1 g2
  have e1 : { L1 with state := LoopState.busy } = { L1 with state := LoopState.busy, pending := none } := by rw [← g3]
  obtain ⟨m1, m2⟩ := set_loop k2 (st' := .busy) (pend' := none) q1 g1
  refine ⟨_, hbeg, ?_⟩
  rw [e1]
  refine wpIn_mono (q2 bd hb n (w.heap.size, []) _ Ze a' m1 (k3.ext k2 m2)) fun e a2 w2 hp => ?_
  obtain ⟨ex, fr2, He2, Ze2, q, p1, p2, p3, p4⟩ := hp
  have hx2 := (k4.trans m2).trans p4
  have fin : ∀ (jump : Option Code) (b : Bool), jump.isNone = b → He2 l = some (.loop N ps as bd fr .busy none) → (∃ H', SubH H' (He2.upd l (some (.loop N ps as bd fr (if jump.isNone then .ready else .done) jump))) ∧ Kr (.bool b) H') →
      ∃ v w', (Instr.endRound l jump).run P w2 = .ok v w' ∧ CPost G Kr Kp w H Z (.returned v) w' := by
    rintro jump b rfl hl2 ⟨H', hsub, hK⟩
    obtain ⟨L2, f1, f2, f3, f4, f5, f6, f7, f8⟩ := p2.obj l _ hl2
    obtain ⟨n1, n2⟩ := set_loop p2 (st' := if jump.isNone then .ready else .done) (pend' := jump) hl2 f1
    exact ⟨_, _, run_endRound jump f1, .bool jump.isNone, H', _, hK, .bool _, n1.drop hsub, (hx2.trans n2).drop hsub⟩
  cases e <;> cases ex <;> try exact p1.elim
  · exact fin none true rfl q.1 q.2
  · rename_i i j
    have : i = j := p1
    subst this
    exact fin (some (.exit i)) false rfl q.1 q.2
  · exact fin (some .ret) false rfl q.1 q.2
  · exact q.elim

/-- A value that is called: a function, or a loop's 'yield'. -/
def CALV (P : Program) (G : Gl) (fv : DV) (ds : List DV) (H : Hp) (Kr Kp : DV → Hp → Prop) : Prop :=
  (∃ f df dc, fv = .func (.func f) df dc ∧ CALL P G f (df ++ ds ++ dc) H Kr Kp) ∨ (∃ l, fv = .func (.yield l) [] [] ∧ YLD P G l ds H Kr Kp)

theorem YLD.mono {l : Nat} {ds : List DV} {Kr Kp Kr' Kp' : DV → Hp → Prop} (h : YLD P G l ds H Kr Kp) (h1 : ∀ d H', Kr d H' → Kr' d H') (h2 : ∀ d H', Kp d H' → Kp' d H') : YLD P G l ds H Kr' Kp' := by
  intro r n w Z vs hr hs hv
  obtain ⟨f, tmps, as, bd, k1, k2⟩ := h r n w Z vs hr hs hv
  refine ⟨f, tmps, as, bd, k1, k2.mono fun e w' he => ?_⟩
  cases e with
  | returned v => obtain ⟨d, H', Z', k, rest⟩ := he; exact ⟨d, H', Z', h1 _ _ k, rest⟩
  | panicked ch => obtain ⟨v, d, H', Z', e1, k, rest⟩ := he; exact ⟨v, d, H', Z', e1, h2 _ _ k, rest⟩
  | outgrown => exact he

theorem CALV.mono {fv : DV} {ds : List DV} {Kr Kp Kr' Kp' : DV → Hp → Prop} (h : CALV P G fv ds H Kr Kp) (h1 : ∀ d H', Kr d H' → Kr' d H') (h2 : ∀ d H', Kp d H' → Kp' d H') : CALV P G fv ds H Kr' Kp' := by
  rcases h with ⟨f, df, dc, e, h⟩ | ⟨l, e, h⟩
  · exact .inl ⟨f, df, dc, e, h.mono h1 h2⟩
  · exact .inr ⟨l, e, h.mono h1 h2⟩

theorem ST.yld {l : Nat} {x : X} {xs : List X} {dst : Option Nat} {K : Fr → Hp → Prop} {Q : EX → Fr → Hp → Prop} {fr : Fr} (hx' : XV G fr x = .func (.yield l) [] [])
    (h : YLD P G l (xs.map (XV G fr)) H (fun d H' => K (fr.put dst d) H') (fun d H' => Q (.panic d) fr H')) : ST P G r N (.calv x xs) dst K Q fr H := by
  intro n base w Z a o hc hx hd hr hf
  obtain ⟨c, y, ho, hcal, rfl, rfl⟩ := cOp_calv hc
  simp only [opX, List.all_cons, Bool.and_eq_true] at hx
  have hy := cX_sound hr hf hx.1
  rw [hx'] at hy
  obtain ⟨h1, h2⟩ := vr_map hr hf c.args hx.2
  obtain ⟨f, tmps, as, bd, k1, k2⟩ := h r (n - 1) w Z (c.args.map a.eval) hr (by simp) (by simpa [List.map_map, Function.comp_def] using h2)
  have hv : a.eval y = .func (.yield l) #[] #[] := by
    generalize a.eval y = q at hy
    cases hy with
    | func fn first cap df dc e1 e2 _ _ =>
      have : first = #[] := by simpa using e1
      have : cap = #[] := by simpa using e2
      subst first; subst cap; rfl
  refine ⟨about_wide o w _, ?_⟩
  rw [Oper.semAt_eq _ _ _ (by rw [ho]; intro c e; cases e)]
  have hrun : (execOp a.eval o).run P w = .ok (.round l f tmps as bd) w := by
    simp only [execOp, ho, resolve, hcal, hv, Deferred.ofValue, Sem.run_bind, Sem.run_pure, Result.andThen_ok, invoke, Array.empty_append, Array.append_empty]
    exact k1
  rw [hrun]
  refine ⟨fun h => by simp [Wd, Fence.wide] at h, k2.mono fun e w' he => ?_⟩
  cases e with
  | returned v =>
    obtain ⟨d, H', Z', k, hvd, hr', hx⟩ := he
    exact ⟨_, H', Z', k, hr', by rw [hd]; exact (hf.ext hr hx).putO hvd, hx⟩
  | panicked ch =>
    obtain ⟨v, d, H', Z', e1, k, hvd, hr', hx⟩ := he
    exact ⟨.panic d, fr, H', Z', k, ⟨v, e1, hvd⟩, hr', hf.ext hr hx, hx⟩
  | outgrown => exact he.elim

/-- A call of a value. -/
theorem ST.calV {x : X} {xs : List X} {dst : Option Nat} {K : Fr → Hp → Prop} {Q : EX → Fr → Hp → Prop} {fr : Fr} (h : CALV P G (XV G fr x) (xs.map (XV G fr)) H (fun d H' => K (fr.put dst d) H') (fun d H' => Q (.panic d) fr H')) : ST P G r N (.calv x xs) dst K Q fr H := by
  rcases h with ⟨f, df, dc, e, h⟩ | ⟨l, e, h⟩
  · exact ST.calv e h
  · exact ST.yld e h


/-- A new block that nobody tracks. -/
theorem alloc_priv (hr : HR G w H Z) (ob : Obj) : HR G (w.alloc ob) H Z ∧ Ext w H Z (w.alloc ob) H Z := by
  have hold : ∀ k, k < w.heap.size → (w.alloc ob).heap[k]? = w.heap[k]? := fun k hk => Below.heap_alloc w ob k hk
  have hx : Ext w H Z (w.alloc ob) H Z := {
    size := by simp
    os := rfl
    tape := rfl
    output := rfl
    imm := fun b hb => ⟨hb, hr.apart hb, hold b (hr.zlt b hb)⟩
    priv := fun b hlt hz hh => ⟨hz, hh, hold b hlt⟩
    frt := fun b f sz ty hb _ => ⟨f, hb, Nat.le_refl _⟩
    pre := fun b f sz ty hb => ⟨.inr ⟨f, Nat.le_refl _, hb⟩, fun arr fz ha => ⟨arr, fz, (hold b (hr.dom b _ hb).1).trans ha, rfl, fun _ _ => rfl⟩⟩ }
  exact ⟨⟨fun b o' e => ⟨by have := (hr.dom b o' e).1; simp; omega, (hr.dom b o' e).2⟩, fun b hb => by have := hr.zlt b hb; simp; omega, fun b o' e => (hr.obj b o' e).ext hr hx (hold b (hr.dom b o' e).1), fun g cs e => (hr.glob g cs e).ext hr hx⟩, hx⟩

theorem cCode_rng {code : Code} {x : X} {ps : List Nat} {c d : CC} (hc : cCode P N code = some (.rng x ps c d)) : ∃ y pa a b, code = .rangeFunc y pa a b ∧ x = cX y ∧ XOk N x = true ∧ ps = pa.toList ∧ cCode P N a = some c ∧ cCode P N b = some d := by
  cases code
  case rangeFunc y pa a b =>
    simp only [cCode] at hc
    split at hc
    · rename_i hx
      rw [Bool.and_eq_true] at hx
      obtain ⟨x', h1, hc⟩ := bindS hc
      obtain ⟨y', h2, hc⟩ := bindS hc
      cases hc
      exact ⟨y, pa, a, b, rfl, rfl, hx.1, rfl, h1, h2⟩
    · cases hc
  all_goals (first | (cases hc; done) | skip)
  all_goals exfalso
  all_goals simp only [cCode] at hc
  all_goals repeat' (first | (rw [Option.bind_eq_some_iff] at hc; obtain ⟨_, _, hc⟩ := hc) | split at hc)
  all_goals cases hc

def Pend (Q : EX → Fr → Hp → Prop) (fr : Fr) (H : Hp) : Option Code → Prop
  | none => Q .normal fr H
  | some (.exit id) => Q (.exit id) fr H
  | some .ret => Q .ret fr H
  | _ => False

/-- The loop: the function that is ranged over is called, with a 'yield'. -/
theorem AC.rng {f : FuncId} {x : X} {ps : List Nat} {cas cbd : CC} {df dc : List DV} {Q : EX → Fr → Hp → Prop} {fr : Fr} (hx' : XV G fr x = .func (.func f) df dc)
    (h : ∀ l as bd, cCode P N as = some cas → cCode P N bd = some cbd → H l = none → CALL P G f (df ++ [.func (.yield l) [] []] ++ dc) (H.upd l (some (.loop N ps as bd fr .ready none)))
      (fun _ H' => ∃ st pend, H' l = some (.loop N ps as bd fr st pend) ∧ st ≠ .busy ∧ Pend Q fr (H'.upd l none) pend) (fun d H' => Q (.panic d) fr H')) : AC P G none N (.rng x ps cas cbd) Q fr H := by
  intro code hc n base w Z a hr hf
  obtain ⟨y, pa, as, bd, rfl, rfl, hok, rfl, h1, h2⟩ := cCode_rng hc
  have hy := cX_sound hr hf hok
  rw [hx'] at hy
  obtain ⟨r1, x1⟩ := alloc_priv hr (.deferred (some []))
  have key : ∀ fnid : FuncId, ∃ (L : Loop), L.state = .ready ∧ L.pending = none ∧ L.params = pa ∧ L.assign = as ∧ L.body = bd ∧ L.tmps = a.tmps ∧
      (Instr.enterLoop fnid a.tmps pa as bd none).run P w = .ok (w.heap.size + 1, [{ target := .collected w.heap.size, args := #[] }]) ((w.alloc (.deferred (some []))).alloc (.loop L)) := fun fnid =>
    ⟨_, rfl, rfl, rfl, rfl, rfl, rfl, run_enterLoop_outer (P := P) (w := w) fnid a.tmps pa as bd⟩
  refine wpIn_rangeFunc (F := Wd none) fun fnid _ => ?_
  obtain ⟨L, l1, l2, l3, l4, l5, l6, hent⟩ := key fnid
  have hsz : (w.alloc (.deferred (some []))).heap.size = w.heap.size + 1 := by simp
  obtain ⟨r2, x2⟩ := alloc_tracked r1 (.loop L) (.loop N pa.toList as bd fr .ready none) fun hx =>
    ⟨L, heap_alloc_new _ _, l1, l2, by rw [l3], l4, l5, by rw [l6]; exact hf.size, fun t ht => by rw [l6]; exact ((hf.vals t ht).ext hr x1).ext r1 hx⟩
  rw [hsz] at r2 x2
  have hfree : H (w.heap.size + 1) = none := hr.free (by omega)
  have hcall := h (w.heap.size + 1) as bd h1 h2 hfree
  generalize hev : a.eval y = q at hy
  cases hy with
  | func fn first cap df dc e1 e2 hd1 hd2 =>
    have hx12 := x1.trans x2
    have hres : ∃ dd, (resolve a.eval (rangeCall y (w.heap.size + 1)) 0).run P ((w.alloc (.deferred (some []))).alloc (.loop L)) = .ok dd ((w.alloc (.deferred (some []))).alloc (.loop L)) ∧ dd.target = .fn (.func f) cap ∧ dd.args = first ++ #[.func (.yield (w.heap.size + 1)) #[] #[]] := by
      refine ⟨_, by simp only [resolve, rangeCall, hev, Deferred.ofValue, Sem.run_bind, Sem.run_pure, Result.andThen_ok]; rfl, rfl, ?_⟩
      simp [Act.eval]
    obtain ⟨dd, g1, g2, g3⟩ := hres
    obtain ⟨fnn, f1, f2, f3⟩ := hcall.1
    have hvs : ∀ (j : Nat) (v : Value) (d : DV), (first ++ #[.func (.yield (w.heap.size + 1)) #[] #[]] ++ cap)[j]? = some v → (df ++ [.func (.yield (w.heap.size + 1)) [] []] ++ dc)[j]? = some d →
        VR ((w.alloc (.deferred (some []))).alloc (.loop L)) (H.upd (w.heap.size + 1) (some (.loop N pa.toList as bd fr .ready none))) Z v d := by
      intro j v d hv hd
      rw [Array.getElem?_append, Array.getElem?_append] at hv
      rw [List.getElem?_append, List.getElem?_append] at hd
      simp only [Array.size_append, List.length_append, e1, Array.size_singleton, List.length_singleton] at hv hd
      split at hv
      · rename_i c1
        rw [if_pos c1] at hd
        split at hv
        · rename_i c2; rw [if_pos c2] at hd; exact (hd1 j v d hv hd).ext hr hx12
        · rename_i c2
          rw [if_neg c2] at hd
          have : j - df.length = 0 := by omega
          rw [this] at hv hd
          simp at hv hd
          subst hv; subst hd
          exact .func _ #[] #[] [] [] rfl rfl (fun j v d h => by simp at h) (fun j v d h => by simp at h)
      · rename_i c1
        rw [if_neg c1] at hd
        exact (hd2 _ v d hv hd).ext hr hx12
    refine ⟨_, _, _, dd, _, f, first ++ #[.func (.yield (w.heap.size + 1)) #[] #[]] ++ cap, (w.alloc (.deferred (some []))).alloc (.loop L), hent, g1, fun _ _ => trivial, ?_, fun h => by simp [Wd, Fence.wide] at h, ?_⟩
    · rw [g2, g3]
      simp only [invoke]
      exact run_enter f1 f2 f3 _ _
    · refine (hcall.in (r := none) (n := n - 1) r2 (by simp [e1, e2]; omega) hvs).mono fun e w' he => ?_
      obtain ⟨ms0, hde, hmm⟩ := hf.marks
      have hmk : MarksB ((w.alloc (.deferred (some []))).alloc (.loop L)) (H.upd (w.heap.size + 1) (some (.loop N pa.toList as bd fr .ready none))) Z base ([{ target := .collected w.heap.size, args := #[] }] ++ a.defers) := by
        have hm0 := hmm.ext hx12
        refine ⟨[{ target := .collected w.heap.size, args := #[] }] ++ ms0, by rw [hde, List.append_assoc], fun d hd => ?_, ?_⟩
        · rcases List.mem_append.1 hd with hd | hd
          · simp only [List.mem_singleton] at hd
            subst hd
            refine ⟨w.heap.size, rfl, hf.low, by simp; omega, fun hz => absurd (hr.zlt _ hz) (by omega), by rw [Hp.upd_ne (by omega)]; exact hr.free (Nat.le_refl _), ?_⟩
            rw [Below.heap_alloc _ _ _ (by simp)]
            exact heap_alloc_new w _
          · exact hm0.1 d hd
        · rw [List.map_append, List.map_singleton, List.singleton_append, List.nodup_cons]
          refine ⟨fun hm => ?_, hmm.2⟩
          rw [List.mem_map] at hm
          obtain ⟨d, hd, he⟩ := hm
          obtain ⟨b, e0, _, hlt, _⟩ := hmm.1 d hd
          rw [e0] at he
          simp only at he
          omega
      have hfr2 : FR ((w.alloc (.deferred (some []))).alloc (.loop L)) (H.upd (w.heap.size + 1) (some (.loop N pa.toList as bd fr .ready none))) Z base N { a with defers := [{ target := .collected w.heap.size, args := #[] }] ++ a.defers } fr :=
        ⟨hf.size, fun t ht => (hf.vals t ht).ext hr hx12, hmk, by have := hf.low; simp; omega⟩
      cases e with
      | outgrown => exact he.elim
      | panicked ch =>
        obtain ⟨v, d, H', Z', e1, k, hvd, hr', hx⟩ := he
        exact ⟨.panic d, fr, H', Z', k, ⟨v, e1, hvd⟩, hr', hfr2.ext r2 hx, hx12.trans hx⟩
      | returned v =>
        obtain ⟨d, H', Z', ⟨st, pend, q1, q2, q3⟩, hvd, hr', hx⟩ := he
        obtain ⟨L1, s1, s2, s3, s4, s5, s6, s7, s8⟩ := hr'.obj _ _ q1
        have hend := run_endLoop (P := P) s1 (by rw [s2]; exact q2)
        obtain ⟨m1, m2⟩ := set_loop hr' (st' := .exhausted) (pend' := pend) q1 s1
        have e3 : { L1 with state := LoopState.exhausted } = { L1 with state := LoopState.exhausted, pending := pend } := by rw [← s3]
        refine ⟨L1.pending, _, hend, ?_⟩
        rw [e3, s3]
        have hsub : SubH (H'.upd (w.heap.size + 1) none) (H'.upd (w.heap.size + 1) (some (.loop N pa.toList as bd fr .exhausted pend))) := by
          intro k o hk
          have hne : k ≠ w.heap.size + 1 := fun e => by rw [e, Hp.upd_same] at hk; cases hk
          rw [Hp.upd_ne hne] at hk ⊢
          exact hk
        have hfr3 := ((hfr2.ext r2 hx).ext hr' m2)
        have hd1 := m1.drop hsub
        have hx3 : Ext w H Z _ _ _ := (hx12.trans hx).trans (m2.drop hsub)
        have hfr4 : FR _ (H'.upd (w.heap.size + 1) none) _ base N { a with defers := [{ target := .collected w.heap.size, args := #[] }] ++ a.defers } fr := (hfr2.ext r2 hx).ext hr' (m2.drop hsub)
        cases pend with
        | none => exact ⟨.normal, fr, _, _, q3, trivial, hd1, hfr4, hx3⟩
        | some c =>
          cases c with
          | exit id => exact wpIn_exit ⟨.exit id, fr, _, _, q3, rfl, hd1, hfr4, hx3⟩
          | ret => exact wpIn_ret ⟨.ret, fr, _, _, q3, trivial, hd1, hfr4, hx3⟩
          | _ => exact q3.elim
end
end Go.Run
/- What a call does not know of stays: a frame rule. -/
namespace Go.Run
open Go Go.RowKit

section
variable {P : Program} {G : Gl} {w w' : World} {H A : Hp} {Z : Zn}

/-- The same rows are gone on with. -/
def SameF (H A : Hp) : Prop := ∀ b f sz ty, H b = some (.front f sz ty) ↔ A b = some (.front f sz ty)

theorem Safe.congr (h : SameF H A) {b i : Nat} (hs : Safe H Z b i) : Safe A Z b i := by
  rcases hs with hs | ⟨f, sz, ty, h1, h2⟩
  · exact .inl hs
  · exact .inr ⟨f, sz, ty, (h b f sz ty).1 h1, h2⟩

theorem TagOK.congr (h : SameF H A) {B : Option Addr} {n c sz : Nat} {tag : Option (Nat × Nat)} (ht : TagOK w H B n c sz tag) : TagOK w A B n c sz tag :=
  fun b off e => ⟨(ht b off e).1, fun f sz' ty hf => (ht b off e).2 f sz' ty ((h b f sz' ty).2 hf)⟩

theorem VR.congr (h : SameF H A) {v : Value} {d : DV} (hv : VR w H Z v d) : VR w A Z v d := by
  induction hv with
  | junk v => exact .junk v
  | bool b => exact .bool b
  | int k n => exact .int k n
  | str s l e => exact .str s l e
  | ptr b off => exact .ptr b off
  | nilp => exact .nilp
  | cptr a cs vs h1 hc ho _ ih => exact .cptr a cs vs h1 (fun j hj => ⟨(hc j hj).1, (hc j hj).2.congr h⟩) ho ih
  | lst B n c sz cs tag vs h1 h2 hc ho _ ht ih =>
    exact .lst B n c sz cs tag vs h1 h2 (fun j hj => let ⟨a, e1, e2, c1, c2⟩ := hc j hj; ⟨a, e1, e2, c1, c2.congr h⟩) ho ih (ht.congr h)
  | nils => exact .nils
  | zc B => exact .zc B
  | win b off n cap h => exact .win b off n cap h
  | func fn first cap df dc e1 e2 _ _ ih1 ih2 => exact .func fn first cap df dc e1 e2 ih1 ih2
  | nilfn => exact .nilfn
  | iface t v d _ ih => exact .iface t v d ih
  | nilif => exact .nilif
  | agg vs cs e ho _ ih => exact .agg vs cs e ho ih
  | tup vs cs e _ ih => exact .tup vs cs e ih
  | mapr b => exact .mapr b
  | nilmap => exact .nilmap

theorem OR.congr (h : SameF H A) {b : Nat} {o : DO} (ho : OR w H Z b o) : OR w A Z b o := by
  cases o with
  | cells cs ty =>
    obtain ⟨arr, fz, h1, h2, h3, h4, h5⟩ := ho
    exact ⟨arr, fz, h1, h2, h3, h4, fun j v d e1 e2 => (h5 j v d e1 e2).congr h⟩
  | front f sz ty => exact ho
  | mapo es =>
    obtain ⟨ms, cl, h1, h2, h3⟩ := ho
    exact ⟨ms, cl, h1, h2, fun j m e e1 e2 => ⟨(h3 j m e e1 e2).1.congr h, (h3 j m e e1 e2).2.congr h⟩⟩
  | raw o => exact ho
  | loop N ps as bd fr st pend =>
    obtain ⟨L, h1, h2, h3, h4, h5, h6, h7, h8⟩ := ho
    exact ⟨L, h1, h2, h3, h4, h5, h6, h7, fun t ht => (h8 t ht).congr h⟩

def notF (o : DO) : Prop := ∀ f sz ty, o ≠ .front f sz ty

theorem sameF_upd {b : Nat} {o : DO} (hb : A b = none) (ho : notF o) : SameF (A.upd b (some o)) A := by
  intro k f sz ty
  by_cases e : k = b
  · subst e
    rw [Hp.upd_same, hb]
    exact ⟨fun h => absurd (Option.some.inj h) (ho f sz ty), fun h => by cases h⟩
  · rw [Hp.upd_ne e]

theorem SameF.symm (h : SameF H A) : SameF A H := fun b f sz ty => (h b f sz ty).symm

theorem HR.frame {b : Nat} {o : DO} (hb : A b = none) (ho : notF o) (hr : HR G w (A.upd b (some o)) Z) : HR G w A Z := by
  have hs := sameF_upd hb ho
  have hup : ∀ k o', A k = some o' → (A.upd b (some o)) k = some o' := fun k o' e => by
    have : k ≠ b := fun e' => by rw [e', hb] at e; cases e
    rw [Hp.upd_ne this]; exact e
  exact ⟨fun k o' e => hr.dom k o' (hup k o' e), hr.zlt, fun k o' e => (hr.obj k o' (hup k o' e)).congr hs, fun g cs e => (hr.glob g cs e).congr hs⟩

theorem frame_back {b : Nat} {o : DO} (hb : A b = none) (ho : notF o) (hr : HR G w (A.upd b (some o)) Z) {A' : Hp} {Z' : Zn} (hr' : HR G w' A' Z') (hx : Ext w A Z w' A' Z') :
    A' b = none ∧ HR G w' (A'.upd b (some o)) Z' ∧ Ext w (A.upd b (some o)) Z w' (A'.upd b (some o)) Z' := by
  obtain ⟨hlt, hz⟩ := hr.dom b o Hp.upd_same
  obtain ⟨hz', hb', hw⟩ := hx.priv b hlt hz hb
  have hx2 : Ext w (A.upd b (some o)) Z w' (A'.upd b (some o)) Z' := {
    size := hx.size
    os := hx.os
    tape := hx.tape
    output := hx.output
    imm := fun k hk => by
      have hne : k ≠ b := fun e => hz (e ▸ hk)
      obtain ⟨h1, h2, h3⟩ := hx.imm k hk
      exact ⟨h1, by rw [Hp.upd_ne hne]; exact h2, h3⟩
    priv := fun k hk h1 h2 => by
      have hne : k ≠ b := fun e => by rw [e, Hp.upd_same] at h2; cases h2
      rw [Hp.upd_ne hne] at h2
      obtain ⟨g1, g2, g3⟩ := hx.priv k hk h1 h2
      exact ⟨g1, by rw [Hp.upd_ne hne]; exact g2, g3⟩
    frt := fun k f sz ty hk hlt' => by
      have hk' := (sameF_upd hb' ho k f sz ty).1 hk
      obtain ⟨f0, h1, h2⟩ := hx.frt k f sz ty hk' hlt'
      exact ⟨f0, (sameF_upd hb ho k f0 sz ty).2 h1, h2⟩
    pre := fun k f sz ty hk => by
      obtain ⟨h1, h2⟩ := hx.pre k f sz ty ((sameF_upd hb ho k f sz ty).1 hk)
      refine ⟨?_, h2⟩
      rcases h1 with h1 | ⟨f', h3, h4⟩
      · exact .inl h1
      · exact .inr ⟨f', h3, (sameF_upd hb' ho k f' sz ty).2 h4⟩ }
  refine ⟨hb', ⟨fun k o' e => ?_, hr'.zlt, fun k o' e => ?_, fun g cs e => (hr'.glob g cs e).congr (sameF_upd hb' ho).symm⟩, hx2⟩
  · by_cases h : k = b
    · subst h
      exact ⟨Nat.lt_of_lt_of_le hlt hx.size, hz'⟩
    · rw [Hp.upd_ne h] at e; exact hr'.dom k o' e
  · by_cases h : k = b
    · subst h
      rw [Hp.upd_same] at e
      cases e
      exact (hr.obj k o Hp.upd_same).ext hr hx2 hw
    · rw [Hp.upd_ne h] at e
      exact (hr'.obj k o' e).congr (sameF_upd hb' ho).symm

theorem CPost.frame {b : Nat} {o : DO} (hb : A b = none) (ho : notF o) {Kr Kp : DV → Hp → Prop} (hr : HR G w (A.upd b (some o)) Z) {e : Ending} (h : CPost G Kr Kp w A Z e w') :
    CPost G (fun d H' => ∃ A', Kr d A' ∧ A' b = none ∧ H' = A'.upd b (some o)) (fun d H' => ∃ A', Kp d A' ∧ A' b = none ∧ H' = A'.upd b (some o)) w (A.upd b (some o)) Z e w' := by
  cases e with
  | returned v =>
    obtain ⟨d, H', Z', k, hv, hr', hx⟩ := h
    obtain ⟨h1, h2, h3⟩ := frame_back hb ho hr hr' hx
    exact ⟨d, _, Z', ⟨H', k, h1, rfl⟩, hv.congr (sameF_upd h1 ho).symm, h2, h3⟩
  | panicked ch =>
    obtain ⟨v, d, H', Z', e1, k, hv, hr', hx⟩ := h
    obtain ⟨h1, h2, h3⟩ := frame_back hb ho hr hr' hx
    exact ⟨v, d, _, Z', e1, ⟨H', k, h1, rfl⟩, hv.congr (sameF_upd h1 ho).symm, h2, h3⟩
  | outgrown => exact h

/-- A block that the callee does not know of stays as it is. -/
theorem CALL.frame {f : FuncId} {ds : List DV} {Kr Kp : DV → Hp → Prop} {b : Nat} {o : DO} (hb : A b = none) (ho : notF o) (h : CALL P G f ds A Kr Kp) :
    CALL P G f ds (A.upd b (some o)) (fun d H' => ∃ A', Kr d A' ∧ A' b = none ∧ H' = A'.upd b (some o)) (fun d H' => ∃ A', Kp d A' ∧ A' b = none ∧ H' = A'.upd b (some o)) :=
  ⟨h.1, fun w Z vs hr hs hv => (h.2 w Z vs (hr.frame hb ho) hs (fun j v d h1 h2 => (hv j v d h1 h2).congr (sameF_upd hb ho))).mono fun _ _ he => he.frame hb ho hr⟩

theorem YLD.frame {l : Nat} {ds : List DV} {Kr Kp : DV → Hp → Prop} {b : Nat} {o : DO} (hb : A b = none) (ho : notF o) (h : YLD P G l ds A Kr Kp) :
    YLD P G l ds (A.upd b (some o)) (fun d H' => ∃ A', Kr d A' ∧ A' b = none ∧ H' = A'.upd b (some o)) (fun d H' => ∃ A', Kp d A' ∧ A' b = none ∧ H' = A'.upd b (some o)) := by
  intro r n w Z vs hr hs hv
  obtain ⟨f, tmps, as, bd, k1, k2⟩ := h r n w Z vs (hr.frame hb ho) hs (fun j v d h1 h2 => (hv j v d h1 h2).congr (sameF_upd hb ho))
  exact ⟨f, tmps, as, bd, k1, k2.mono fun _ _ he => he.frame hb ho hr⟩

theorem CALV.frame {fv : DV} {ds : List DV} {Kr Kp : DV → Hp → Prop} {b : Nat} {o : DO} (hb : A b = none) (ho : notF o) (h : CALV P G fv ds A Kr Kp) :
    CALV P G fv ds (A.upd b (some o)) (fun d H' => ∃ A', Kr d A' ∧ A' b = none ∧ H' = A'.upd b (some o)) (fun d H' => ∃ A', Kp d A' ∧ A' b = none ∧ H' = A'.upd b (some o)) := by
  rcases h with ⟨f, df, dc, e, h⟩ | ⟨l, e, h⟩
  · exact .inl ⟨f, df, dc, e, h.frame hb ho⟩
  · exact .inr ⟨l, e, h.frame hb ho⟩

theorem notF_cells {cs : List DV} {ty : TypeId} : notF (.cells cs ty) := fun _ _ _ h => by cases h
theorem notF_loop {N : Nat} {ps : List Nat} {as bd : Code} {fr : Fr} {st : LoopState} {pend : Option Code} : notF (.loop N ps as bd fr st pend) := fun _ _ _ h => by cases h

theorem RG.calV {r : Option Nat} {N : Nat} {dst : Option Nat} {g : Option (Nat × Bool)} {l : List Ins} {Q : EX → Fr → Hp → Prop} {fr : Fr} {x : X} {xs : List X} {fv : DV} {ds : List DV} {Kr Kp : DV → Hp → Prop} (hg : GOk g fr) (hx : XV G fr x = fv) (hds : xs.map (XV G fr) = ds) (h : CALV P G fv ds H Kr Kp)
    (kr : ∀ d H', Kr d H' → RG P G r N l Q (fr.put dst d) H') (kp : ∀ d H', Kp d H' → Q (.panic d) fr H') : RG P G r N (⟨dst, g, .calv x xs⟩ :: l) Q fr H := by
  subst hx; subst hds
  exact RG.s hg (ST.calV (h.mono kr kp))

/-! Some blocks are no longer told. -/
theorem Marks.drop {H' : Hp} (hs : SubH H' H) {base : Nat} {ds : List Deferred} (hm : Marks w H Z base ds) : Marks w H' (Gone H H' Z) base ds := by
  refine ⟨fun d hd => ?_, hm.2⟩
  obtain ⟨b, e, h0, h1, h2, h3, h4⟩ := hm.1 d hd
  refine ⟨b, e, h0, h1, fun h => h.elim h2 (fun ⟨⟨o, ho⟩, _⟩ => by rw [h3] at ho; cases ho), ?_, h4⟩
  cases e' : H' b with
  | none => rfl
  | some o => rw [hs b o e'] at h3; cases h3

theorem MarksB.drop {H' : Hp} (hs : SubH H' H) {base : BS} {ds : List Deferred} (hm : MarksB w H Z base ds) : MarksB w H' (Gone H H' Z) base ds :=
  let ⟨ms, e, m⟩ := hm; ⟨ms, e, m.drop hs⟩

theorem FR.drop {H' : Hp} (hs : SubH H' H) {base : BS} {N : Nat} {a : Act} {fr : Fr} (hf : FR w H Z base N a fr) : FR w H' (Gone H H' Z) base N a fr :=
  ⟨hf.size, fun t ht => (hf.vals t ht).drop hs, hf.marks.drop hs, hf.low⟩

theorem RG.drop {r : Option Nat} {N : Nat} {l : List Ins} {Q : EX → Fr → Hp → Prop} {fr : Fr} {H' : Hp} (hs : SubH H' H) (h : RG P G r N l Q fr H') : RG P G r N l Q fr H := by
  intro n base w Z a ops is hl hr hf
  have hx : Ext w H Z w H' (Gone H H' Z) := (Ext.refl hr).drop hs
  exact wpOpsIn_mono (fun _ _ _ hp => hp.before hx) _ _ _ (h n base w _ a ops is hl (hr.drop hs) (hf.drop hs))

theorem AC.drop {r : Option Nat} {N : Nat} {c : CC} {Q : EX → Fr → Hp → Prop} {fr : Fr} {H' : Hp} (hs : SubH H' H) (h : AC P G r N c Q fr H') : AC P G r N c Q fr H := by
  intro code hc n base w Z a hr hf
  have hx : Ext w H Z w H' (Gone H H' Z) := (Ext.refl hr).drop hs
  exact wpIn_mono (h code hc n base w _ a (hr.drop hs) (hf.drop hs)) fun _ _ _ hp => hp.before hx

/-! Frames by a list of slots; loops. -/
def frOf : List (Nat × DV) → Fr
  | [] => fun _ => .junk
  | (t, d) :: l => fun x => bif Nat.beq x t then d else frOf l x

def Agrees (fr : Fr) : List (Nat × DV) → Prop
  | [] => True
  | (t, d) :: l => fr t = d ∧ Agrees fr l

theorem Agrees.weak {fr : Fr} : ∀ (l : List (Nat × DV)), Agrees fr l → ∀ t, frOf l t = fr t ∨ frOf l t = .junk
  | [], _, t => .inr rfl
  | (u, d) :: l, h, t => by
    simp only [frOf]
    cases e : Nat.beq t u with
    | true =>
      have := Nat.eq_of_beq_eq_true e
      subst this
      exact .inl h.1.symm
    | false => exact h.2.weak l t

theorem AC.to {r : Option Nat} {N : Nat} {c : CC} {Q : EX → Fr → Hp → Prop} {fr : Fr} (l : List (Nat × DV)) (h : Agrees fr l) (k : AC P G r N c Q (frOf l) H) : AC P G r N c Q fr H := AC.weak (h.weak l) k

/-- A loop, by a measure. -/
theorem AC.loopI {α : Type} {r : Option Nat} {N : Nat} {c : CC} {Q : EX → Fr → Hp → Prop} (μ : α → Nat) (L : α → List (Nat × DV)) (h : α → Hp) (inv : α → Prop)
    (step : ∀ a, inv a → (∀ a', inv a' → μ a' < μ a → ∀ fr, Agrees fr (L a') → AC P G r N (.loop c) Q fr (h a')) → AC P G r N c (Sq P G r N (.loop c) Q) (frOf (L a)) (h a)) :
    ∀ (a : α), inv a → ∀ fr, Agrees fr (L a) → AC P G r N (.loop c) Q fr (h a) := by
  have key : ∀ n a, μ a = n → inv a → ∀ fr, Agrees fr (L a) → AC P G r N (.loop c) Q fr (h a) := by
    intro n
    induction n using Nat.strongRecOn with
    | _ n ih =>
      intro a hn hi fr hf
      refine AC.to (L a) hf (AC.loop (step a hi fun a' hi' hlt fr' hf' => ih (μ a') (by omega) a' rfl hi' fr' hf'))
  exact fun a => key (μ a) a rfl

/-- .. over heap views that are not a function of the state. -/
theorem AC.loopH {α : Type} {r : Option Nat} {N : Nat} {c : CC} {Q : EX → Fr → Hp → Prop} (μ : α → Nat) (L : α → List (Nat × DV)) (inv : α → Hp → Prop)
    (step : ∀ a H, inv a H → (∀ a' H', inv a' H' → μ a' < μ a → ∀ fr, Agrees fr (L a') → AC P G r N (.loop c) Q fr H') → AC P G r N c (Sq P G r N (.loop c) Q) (frOf (L a)) H) :
    ∀ (a : α) (H : Hp), inv a H → ∀ fr, Agrees fr (L a) → AC P G r N (.loop c) Q fr H := by
  have key : ∀ n a H, μ a = n → inv a H → ∀ fr, Agrees fr (L a) → AC P G r N (.loop c) Q fr H := by
    intro n
    induction n using Nat.strongRecOn with
    | _ n ih =>
      intro a H hn hi fr hf
      refine AC.to (L a) hf (AC.loop (step a H hi fun a' H' hi' hlt fr' hf' => ih (μ a') (by omega) a' H' rfl hi' fr' hf'))
  exact fun a H => key (μ a) a H rfl

/-- A loop in its block: how it goes on, and how it is left. -/
theorem AC.bloop {α : Type} {r : Option Nat} {N id : Nat} {c : CC} {Q : EX → Fr → Hp → Prop} (μ : α → Nat) (L : α → List (Nat × DV)) (h : α → Hp) (inv : α → Prop) (E : List (Nat × DV)) (He : Hp)
    (after : ∀ fr, Agrees fr E → Q .normal fr He)
    (step : ∀ a, inv a → (∀ a', inv a' → μ a' < μ a → ∀ fr, Agrees fr (L a') → AC P G r N (.loop c) (Bk id Q) fr (h a')) → (∀ fr, Agrees fr E → Bk id Q (.exit id) fr He) → AC P G r N c (Sq P G r N (.loop c) (Bk id Q)) (frOf (L a)) (h a))
    (a : α) (ha : inv a) {fr : Fr} (hf : Agrees fr (L a)) : AC P G r N (.block id (.loop c)) Q fr (h a) :=
  AC.block (AC.loopI μ L h inv (fun a hi ih => step a hi ih fun fr hfr => by simp only [Bk, if_true]; exact after fr hfr) a ha fr hf)

/-- .. the heap views as they come. -/
theorem AC.bloopH {α β : Type} {r : Option Nat} {N id : Nat} {c : CC} {Q : EX → Fr → Hp → Prop} (μ : α → Nat) (L : α → List (Nat × DV)) (inv : α → Hp → Prop) (E : β → List (Nat × DV)) (Ei : β → Hp → Prop)
    (after : ∀ b He fr, Ei b He → Agrees fr (E b) → Q .normal fr He)
    (step : ∀ a H, inv a H → (∀ a' H', inv a' H' → μ a' < μ a → ∀ fr, Agrees fr (L a') → AC P G r N (.loop c) (Bk id Q) fr H') → (∀ b He fr, Ei b He → Agrees fr (E b) → Bk id Q (.exit id) fr He) → AC P G r N c (Sq P G r N (.loop c) (Bk id Q)) (frOf (L a)) H)
    (a : α) (H : Hp) (ha : inv a H) {fr : Fr} (hf : Agrees fr (L a)) : AC P G r N (.block id (.loop c)) Q fr H :=
  AC.block (AC.loopH μ L inv (fun a H hi ih => step a H hi ih fun b He fr hE hfr => by simp only [Bk, if_true]; exact after b He fr hE hfr) a H ha fr hf)

/-! Contracts of the kit's, as pure functions. -/
theorem below_ext (hr : HR G w H Z) (hb : Below w.heap.size w w') : HR G w' H Z ∧ Ext w H Z w' H Z := by
  have hx : Ext w H Z w' H Z := {
    size := hb.size
    os := hb.os
    tape := hb.tape
    output := hb.output
    imm := fun k hk => ⟨hk, hr.apart hk, hb.block k (hr.zlt k hk)⟩
    priv := fun k hk hz hh => ⟨hz, hh, hb.block k hk⟩
    frt := fun k f sz ty hk _ => ⟨f, hk, Nat.le_refl _⟩
    pre := fun k f sz ty hk => ⟨.inr ⟨f, Nat.le_refl _, hk⟩, fun arr fz ha => ⟨arr, fz, (hb.block k (hr.dom k _ hk).1).trans ha, rfl, fun _ _ => rfl⟩⟩ }
  exact ⟨hr.of_ext hx fun k o hk => hb.block k (hr.dom k o hk).1, hx⟩

theorem PF.ofBelow {f : FuncId} {fn : Func} {ds : List DV} {d : DV} (hf : P.funcs[f]? = some fn) (hb : fn.body.isNone = false) (hn : (fn.name == "runtime.NumGoroutine") = false)
    (h : ∀ (w : World) (H : Hp) (Z : Zn) (vs : Array Value), HR G w H Z → vs.size = ds.length → (∀ (j : Nat) (v : Value) (d : DV), vs[j]? = some v → ds[j]? = some d → VR w H Z v d) →
      Calls P f vs w fun e w' => ∃ v, e = .returned v ∧ (∀ w H Z, VR w H Z v d) ∧ Below w.heap.size w w') : PF P G f ds d := by
  intro H
  refine ⟨⟨fn, hf, hb, hn⟩, fun w Z vs hr hs hv => (h w H Z vs hr hs hv).mono fun e w' he => ?_⟩
  obtain ⟨v, rfl, h1, h2⟩ := he
  obtain ⟨m1, m2⟩ := below_ext hr h2
  exact ⟨d, H, Z, ⟨rfl, rfl⟩, h1 _ _ _, m1, m2⟩

theorem below_drewN (w : World) (n : Nat) : Below w.heap.size w (w.drewN n) := ⟨rfl, rfl, rfl, Nat.le_refl _, fun _ _ => rfl⟩

theorem args1 {vs : Array Value} {d : DV} (hs : vs.size = [d].length) (hv : ∀ (j : Nat) (v : Value) (e : DV), vs[j]? = some v → [d][j]? = some e → VR w H Z v e) : ∃ v, vs = #[v] ∧ VR w H Z v d := by
  have hs' : vs.size = 1 := by simpa using hs
  refine ⟨vs[0], ?_, hv 0 _ d (Array.getElem?_eq_getElem (by omega)) rfl⟩
  apply Array.ext
  · simpa using hs'
  · intro i h1 h2
    have : i = 0 := by omega
    subst this; rfl

theorem args2 {vs : Array Value} {d d2 : DV} (hs : vs.size = [d, d2].length) (hv : ∀ (j : Nat) (v : Value) (e : DV), vs[j]? = some v → [d, d2][j]? = some e → VR w H Z v e) : ∃ v v2, vs = #[v, v2] ∧ VR w H Z v d ∧ VR w H Z v2 d2 := by
  have hs' : vs.size = 2 := by simpa using hs
  refine ⟨vs[0], vs[1], ?_, hv 0 _ d (Array.getElem?_eq_getElem (by omega)) rfl, hv 1 _ d2 (Array.getElem?_eq_getElem (by omega)) rfl⟩
  apply Array.ext
  · simpa using hs'
  · intro i h1 h2
    have : i = 0 ∨ i = 1 := by omega
    rcases this with rfl | rfl <;> rfl

theorem tup_any {ds : List DV} {vs : Array Value} (h1 : vs.size = ds.length) (h : ∀ (j : Nat) (v : Value) (d : DV), vs[j]? = some v → ds[j]? = some d → ∀ w H Z, VR w H Z v d) : ∀ w H Z, VR w H Z (.tuple vs) (.tup ds) :=
  fun w H Z => .tup vs ds h1 fun j v d e1 e2 => h j v d e1 e2 w H Z

theorem glob1 {g : Nat} {d : DV} (hr : HR G w H Z) (hg : G g = some [d]) : ∃ v, w.cell? ⟨g, 0, none⟩ = some v ∧ VR w H Z v d := by
  obtain ⟨a, vs, e, hcp⟩ := (hr.glob g [d] hg).cptr_inv
  cases e
  obtain ⟨h1, _⟩ := hcp.cell 0 (by simp)
  exact ⟨vs 0, by simpa using h1, hcp.val 0 d rfl⟩
end
end Go.Run
/- Steps whose side conditions are looked for by themselves. -/
namespace Go.Run
open Go Go.RowKit
section
variable {P : Program} {G : Gl} {r : Option Nat} {N : Nat} {dst : Option Nat} {l : List Ins} {Q : EX → Fr → Hp → Prop} {fr : Fr} {H : Hp} {x y : X} {g : Option (Nat × Bool)}

theorem RG.z0 {c a b : X} {d : DV} (k : RG P G r N l Q (fr.put dst d) H) (hg : GOk g fr := by first | exact trivial | exact rfl) (hc : XV G fr c = .bool true := by exact rfl) (h : XV G fr a = d := by conv => lhs; whnf) : RG P G r N (⟨dst, g, .pick c a b⟩ :: l) Q fr H := RG.pkT hg hc h k
theorem RG.z1 {c a b : X} {d : DV} (k : RG P G r N l Q (fr.put dst d) H) (hg : GOk g fr := by first | exact trivial | exact rfl) (hc : XV G fr c = .bool false := by exact rfl) (h : XV G fr b = d := by conv => lhs; whnf) : RG P G r N (⟨dst, g, .pick c a b⟩ :: l) Q fr H := RG.pkF hg hc h k
theorem RG.z2 {d : DV} (k : RG P G r N l Q (fr.put dst d) H) (hg : GOk g fr := by first | exact trivial | exact rfl) (h : XV G fr x = d := by conv => lhs; whnf) : RG P G r N (⟨dst, g, .mv x⟩ :: l) Q fr H := RG.m hg h k
theorem RG.z3 {b off sz : Nat} {agg : Bool} {cs : List DV} {ty : TypeId} {d : DV} (k : RG P G r N l Q (fr.put dst d) H) (hg : GOk g fr := by first | exact trivial | exact rfl) (hx : XV G fr x = .ptr b off := by conv => lhs; whnf)
    (hb : H b = some (.cells cs ty) := by first | assumption | exact Hp.upd_same | (rw [Hp.upd_ne (by first | assumption | omega)]; first | assumption | exact Hp.upd_same | (rw [Hp.upd_ne (by first | assumption | omega)]; first | assumption | exact Hp.upd_same))) (hd : partD agg off sz cs = some d := by conv => lhs; whnf) :
    RG P G r N (⟨dst, g, .ld agg sz x⟩ :: l) Q fr H := RG.ld hg hx hb hd k
theorem RG.z4 {sz b off : Nat} {d : DV} {cs ys : List DV} {ty : TypeId} (k : RG P G r N l Q (fr.put dst .junk) (H.upd b (some (.cells (spliceL off ys cs) ty)))) (hg : GOk g fr := by first | exact trivial | exact rfl) (hx : XV G fr x = .ptr b off := by conv => lhs; whnf)
    (hb : H b = some (.cells cs ty) := by first | assumption | exact Hp.upd_same | (rw [Hp.upd_ne (by first | assumption | omega)]; first | assumption | exact Hp.upd_same | (rw [Hp.upd_ne (by first | assumption | omega)]; first | assumption | exact Hp.upd_same)))
    (hy : XV G fr y = d := by conv => lhs; whnf) (hc : cellsD d = some ys := by exact rfl) (hl : ys.length = sz := by exact rfl) (hle : off + sz ≤ cs.length := by first | decide | (simp; done)) : RG P G r N (⟨dst, g, .st sz x y⟩ :: l) Q fr H := RG.sto hg hx hb hy hc hl hle k
theorem RG.z5 {a b : Int} (k : RG P G r N l Q (fr.put dst (.int .i64 (a + b))) H) (hg : GOk g fr := by first | exact trivial | exact rfl) (hx : XV G fr x = .int .i64 a := by conv => lhs; whnf) (hy : XV G fr y = .int .i64 b := by conv => lhs; whnf) (hr : -9223372036854775808 ≤ a + b ∧ a + b ≤ 9223372036854775807 := by omega) :
    RG P G r N (⟨dst, g, .bin .add x y⟩ :: l) Q fr H := RG.addI hg hx hy hr k
theorem RG.z6 {a b : Int} (k : RG P G r N l Q (fr.put dst (.int .i64 (a - b))) H) (hg : GOk g fr := by first | exact trivial | exact rfl) (hx : XV G fr x = .int .i64 a := by conv => lhs; whnf) (hy : XV G fr y = .int .i64 b := by conv => lhs; whnf) (hr : -9223372036854775808 ≤ a - b ∧ a - b ≤ 9223372036854775807 := by omega) :
    RG P G r N (⟨dst, g, .bin .sub x y⟩ :: l) Q fr H := RG.subI hg hx hy hr k
theorem RG.z7 {a b : List UInt8} (k : RG P G r N l Q (fr.put dst (.str (a ++ b))) H) (hg : GOk g fr := by first | exact trivial | exact rfl) (hx : XV G fr x = .str a := by conv => lhs; whnf) (hy : XV G fr y = .str b := by conv => lhs; whnf) (hr : a.length + b.length ≤ 9223372036854775807 := by first | assumption | omega) :
    RG P G r N (⟨dst, g, .bin .add x y⟩ :: l) Q fr H := RG.addS hg hx hy hr k
theorem RG.z8 {s : List UInt8} {i : Int} {lo : X} (k : RG P G r N l Q (fr.put dst (.str (s.drop i.toNat))) H) (hg : GOk g fr := by first | exact trivial | exact rfl) (hx : XV G fr x = .str s := by conv => lhs; whnf) (hl : XV G fr lo = .int .i64 i := by conv => lhs; whnf) (hr : 0 ≤ i ∧ i ≤ s.length := by first | omega | (simp; done) | (simp; omega)) :
    RG P G r N (⟨dst, g, .slcS x (some lo) none⟩ :: l) Q fr H := RG.from hg hx hl hr k
theorem RG.z9 {s : List UInt8} {i : Int} {hi : X} (k : RG P G r N l Q (fr.put dst (.str (s.take i.toNat))) H) (hg : GOk g fr := by first | exact trivial | exact rfl) (hx : XV G fr x = .str s := by conv => lhs; whnf) (hl : XV G fr hi = .int .i64 i := by conv => lhs; whnf) (hr : 0 ≤ i ∧ i ≤ s.length := by first | omega | (simp; done) | (simp; omega)) :
    RG P G r N (⟨dst, g, .slcS x none (some hi)⟩ :: l) Q fr H := RG.upto hg hx hl hr k
theorem RG.zA {op : OP} {d : DV} (k : RG P G r N l Q (fr.put dst d) H) (hg : GOk g fr := by first | exact trivial | exact rfl) (h : evP G fr H op = some d := by conv => lhs; whnf) : RG P G r N (⟨dst, g, op⟩ :: l) Q fr H := RG.p hg h k
theorem RG.zB {op : OP} {t : Nat} {b : Bool} (k : RG P G r N l Q (fr.put dst (.tup [])) H) (hg : fr t = .bool (!b) := by exact rfl) : RG P G r N (⟨dst, some (t, b), op⟩ :: l) Q fr H := RG.gn hg k
theorem RG.zC {op : OP} {t : Nat} {b : Bool} {ds : List DV} (k : RG P G r N l Q (fr.put dst (.tup [])) H) (hg : fr t = .tup ds := by exact rfl) : RG P G r N (⟨dst, some (t, b), op⟩ :: l) Q fr H := RG.gu hg k

section
variable {is : List Ins} {dep : Nat → List Nat} {eff V pend : List Nat}
theorem VD.z0 {d : DV} (i : Nat) (k : VD P G r N is dep eff Q (i :: V) (i :: pend) (fr.put dst d) H) (hx : is[i]? = some ⟨dst, none, .mv x⟩ := by exact rfl) (hok : vdOk dep eff V i = true := by exact rfl) (hs : XV G fr x = d := by conv => lhs; whnf) : VD P G r N is dep eff Q V pend fr H := VD.pm i hx hok hs k
theorem VD.z1 {b off sz : Nat} {agg : Bool} {cs : List DV} {ty : TypeId} {d : DV} (i : Nat) (k : VD P G r N is dep eff Q (i :: V) (i :: pend) (fr.put dst d) H) (hx' : is[i]? = some ⟨dst, none, .ld agg sz x⟩ := by exact rfl) (hok : vdOk dep eff V i = true := by exact rfl) (hx : XV G fr x = .ptr b off := by conv => lhs; whnf)
    (hb : H b = some (.cells cs ty) := by first | assumption | exact Hp.upd_same | (rw [Hp.upd_ne (by first | assumption | omega)]; first | assumption | exact Hp.upd_same | (rw [Hp.upd_ne (by first | assumption | omega)]; first | assumption | exact Hp.upd_same))) (hd : partD agg off sz cs = some d := by conv => lhs; whnf) : VD P G r N is dep eff Q V pend fr H := VD.pv i hx' hok (evP_ld hx hb hd) k
theorem VD.z2 {s : List UInt8} {n : Int} {lo : X} (i : Nat) (k : VD P G r N is dep eff Q (i :: V) (i :: pend) (fr.put dst (.str (s.drop n.toNat))) H) (hx' : is[i]? = some ⟨dst, none, .slcS x (some lo) none⟩ := by exact rfl) (hok : vdOk dep eff V i = true := by exact rfl) (hx : XV G fr x = .str s := by conv => lhs; whnf) (hl : XV G fr lo = .int .i64 n := by conv => lhs; whnf) (hr : 0 ≤ n ∧ n ≤ s.length := by omega) : VD P G r N is dep eff Q V pend fr H := VD.pv i hx' hok (evP_from hx hl hr) k
theorem VD.z3 {s : List UInt8} {n : Int} {hi : X} (i : Nat) (k : VD P G r N is dep eff Q (i :: V) (i :: pend) (fr.put dst (.str (s.take n.toNat))) H) (hx' : is[i]? = some ⟨dst, none, .slcS x none (some hi)⟩ := by exact rfl) (hok : vdOk dep eff V i = true := by exact rfl) (hx : XV G fr x = .str s := by conv => lhs; whnf) (hl : XV G fr hi = .int .i64 n := by conv => lhs; whnf) (hr : 0 ≤ n ∧ n ≤ s.length := by omega) : VD P G r N is dep eff Q V pend fr H := VD.pv i hx' hok (evP_upto hx hl hr) k
theorem VD.z4 {a b : Int} (i : Nat) (k : VD P G r N is dep eff Q (i :: V) (i :: pend) (fr.put dst (.int .i64 (a + b))) H) (hx' : is[i]? = some ⟨dst, none, .bin .add x y⟩ := by exact rfl) (hok : vdOk dep eff V i = true := by exact rfl) (hx : XV G fr x = .int .i64 a := by conv => lhs; whnf) (hy : XV G fr y = .int .i64 b := by conv => lhs; whnf) (hr : -9223372036854775808 ≤ a + b ∧ a + b ≤ 9223372036854775807 := by omega) : VD P G r N is dep eff Q V pend fr H := VD.pv i hx' hok (evP_addI hx hy hr) k
theorem VD.z5 {op : OP} {d : DV} (i : Nat) (k : VD P G r N is dep eff Q (i :: V) (i :: pend) (fr.put dst d) H) (hx' : is[i]? = some ⟨dst, none, op⟩ := by exact rfl) (hok : vdOk dep eff V i = true := by exact rfl) (hs : evP G fr H op = some d := by conv => lhs; whnf) : VD P G r N is dep eff Q V pend fr H := VD.pv i hx' hok hs k
end
end
end Go.Run
