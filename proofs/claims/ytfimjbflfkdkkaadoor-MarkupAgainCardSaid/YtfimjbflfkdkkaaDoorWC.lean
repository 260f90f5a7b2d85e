/- Code, functions, regions that draw their order, steps. -/
import Derived.Test.YtfimjbflfkdkkaaDoorWB
import Derived.RangeFuncRecord
import Derived.OrdersIn
import Derived.IntWalk
/- Code, in the abstract form; a function from its body. -/
namespace Go.Run
open Go Go.RowKit

inductive CC where
  | skip
  | reg (l : List Ins)
  | draw (l : List Ins) (after : List (List Nat))
  | seq (a b : CC)
  | cond (x : X) (a b : CC)
  | block (id : Nat) (c : CC)
  | loop (c : CC)
  | rng (x : X) (ps : List Nat) (assign body : CC)
  | exit (id : Nat)
  | ret
  | scp (c : CC)
  | stuck

inductive RV where
  | tmp (t : Nat)
  | cell (t : Nat) (agg : Bool) (sz : Nat)

theorem stepR_scope {P : Program} {b : Frame} {a : Act} {k : List Item} {cs : List Frame} {w : World} {c : Code} : step P (lone (b.atR a (.code (.scope c) :: k)) cs w) = .next (lone (b.atR a (.code c :: .inScope c :: k)) cs w) :=
  step_lone_go (by simp [stepG, stepG.exec, Frame.atR])
theorem stepR_inScope {P : Program} {b : Frame} {a : Act} {k : List Item} {cs : List Frame} {w : World} {c : Code} : step P (lone (b.atR a (.inScope c :: k)) cs w) = .next (lone (b.atR a k) cs w) :=
  step_lone_go (by simp [stepG, stepG.exec, Frame.atR])

theorem wpIn_scope {F : Fence} {n : Nat} {P : Program} {c : Code} {Q : Exit → Act → World → Prop} {a : Act} {w : World} (h : c.wpIn F n P (Exit.noGoto Q) a w) : (Code.scope c).wpIn F n P Q a w := by
  intro b k cs hro hb hr
  have h0 : (lone (b.atR a (.code (.scope c) :: k)) cs w).fenced P F := fenced_calm hb hr rfl
  obtain ⟨e, a₁, w₁, hq, harr⟩ := h b (.inScope c :: k) cs hro hb hr
  cases e with
  | normal => exact ⟨.normal, a₁, w₁, hq, .head h0 stepR_scope (StepsIn.trans harr (.one (fenced_calm hb hr rfl) stepR_inScope))⟩
  | exit id' =>
    have hx : exitTo id' (.inScope c :: k) = exitTo id' k := by simp [exitTo]
    exact ⟨.exit id', a₁, w₁, hq, fun k' hk => .head h0 stepR_scope (harr.1 k' (by rw [hx]; exact hk)),
      fun hr' hk => let ⟨k₁, h1, h2⟩ := harr.2 hr' (by rw [hx]; exact hk); ⟨k₁, h1, .head h0 stepR_scope h2⟩⟩
  | goto l => exact hq.elim
  | ret => exact ⟨_, a₁, w₁, hq, .of_steps (.one h0 stepR_scope) harr⟩
  | panic ch => exact ⟨_, a₁, w₁, hq, .of_steps (.one h0 stepR_scope) harr⟩
  | outgrown => exact ⟨_, a₁, w₁, hq, .of_steps (.one h0 stepR_scope) harr⟩

section
variable {P : Program} {G : Gl} {r : Option Nat} {N : Nat}
theorem AW.label {l : Nat} {Q : EX → Fr → Hp → Prop} {fr : Fr} {H : Hp} (h : Q .normal fr H) : AW P G r N (.label l) Q fr H :=
  fun _ _ _ Z _ hr hf => wpIn_label ⟨.normal, fr, H, Z, h, trivial, hr, hf, .refl hr⟩
theorem AW.scope {c : Code} {Q : EX → Fr → Hp → Prop} {fr : Fr} {H : Hp} (h : AW P G r N c Q fr H) : AW P G r N (.scope c) Q fr H := by
  intro n base w Z a hr hf
  refine wpIn_scope (wpIn_mono (h n base w Z a hr hf) fun e a' w' hp => ?_)
  cases e with
  | goto l => obtain ⟨ex, _, _, _, _, hk, _⟩ := hp; cases ex <;> exact hk.elim
  | _ => exact hp
end

def cAll (P : Program) (N : Nat) (ops : Array Oper) : List Oper → Option (List Ins)
  | [] => some []
  | o :: os => (cIns P N ops o).bind fun i => (cAll P N ops os).bind fun r => some (i :: r)

def depsOf (o : Oper) : List Nat := (o.after.toList.filter (fun e => Region.binds .any e)).map (·.on)

def edgesBack : List Oper → Nat → Bool
  | [], _ => true
  | o :: os, i => o.after.toList.all (fun e => !(Region.binds .any e) || Nat.blt e.on i) && edgesBack os (i + 1)

def cCode (P : Program) (N : Nat) : Code → Option CC
  | .skip => some .skip
  | .region _ ops draw => (cAll P N ops ops.toList).bind fun l => if draw then (if P.follows .mixedOrders && edgesBack ops.toList 0 then some (.draw l (ops.toList.map depsOf)) else none) else some (.reg l)
  | .seq a b => (cCode P N a).bind fun x => (cCode P N b).bind fun y => some (.seq x y)
  | .cond c a b => if XOk N (cX c) then (cCode P N a).bind fun x => (cCode P N b).bind fun y => some (.cond (cX c) x y) else none
  | .block id c => (cCode P N c).bind fun x => some (.block id x)
  | .loop c => (cCode P N c).bind fun x => some (.loop x)
  | .rangeFunc f ps a b => if XOk N (cX f) && ps.all (· < N) then (cCode P N a).bind fun x => (cCode P N b).bind fun y => some (.rng (cX f) ps.toList x y) else none
  | .exit id => some (.exit id)
  | .ret => some .ret
  | .label _ => some .skip
  | .scope c => (cCode P N c).bind fun x => some (.scp x)
  | .goto _ => some .stuck
  | .refuse _ => some .stuck

def cRes (P : Program) (N : Nat) : List ResultVar → Option (List RV)
  | [] => some []
  | .tmp t :: rs => if t < N then (cRes P N rs).bind fun l => some (.tmp t :: l) else none
  | .cell t ty :: rs => if t < N then (P.info? ty).bind fun i => (P.underlying ty).bind fun _ => (cRes P N rs).bind fun l => some (.cell t (isAggT P ty) (if isAggT P ty then i.size else 1) :: l) else none

/-- A function, in the abstract form. -/
structure FN where
  N : Nat
  c : CC
  rs : List RV

def cFn (P : Program) (f : FuncId) : Option FN :=
  (P.funcs[f]?).bind fun fn => fn.body.bind fun c => if fn.name == "runtime.NumGoroutine" then none else
    (cCode P fn.ntmps c).bind fun cc => (cRes P fn.ntmps fn.results.toList).bind fun rs => some ⟨fn.ntmps, cc, rs⟩

def evRes (H : Hp) (fr : Fr) : List RV → Option (List DV)
  | [] => some []
  | .tmp t :: rs => (evRes H fr rs).bind fun l => some (fr t :: l)
  | .cell t agg sz :: rs => (ldD H agg sz (fr t)).bind fun d => (evRes H fr rs).bind fun l => some (d :: l)

def tupD : List DV → DV
  | [d] => d
  | ds => .tup ds

/-- Less is told. -/
def DLe (d d' : DV) : Prop := ∀ (w : World) (H : Hp) (Z : Zn) (v : Value), VR w H Z v d → VR w H Z v d'

theorem DLe.refl (d : DV) : DLe d d := fun _ _ _ _ h => h

/-- The same world, told otherwise: 'H' for 'H', a value 'd' as 'd''. -/
def Cv (H H' : Hp) (d d' : DV) : Prop := ∀ (G : Gl) (w : World) (Z : Zn), HR G w H Z → ∃ Z', HR G w H' Z' ∧ Ext w H Z w H' Z' ∧ ∀ v, VR w H Z v d → VR w H' Z' v d'
theorem Cv.of {H H' : Hp} {d d' : DV} (h : DLe d d') (hs : SubH H' H) : Cv H H' d d' := fun _ _ _ hr => ⟨_, hr.drop hs, (Ext.refl hr).drop hs, fun _ hv => (h _ _ _ _ hv).drop hs⟩

def argFr (ds : List DV) : Fr := fun t => (ds[t]?).getD .junk

/-- What is asked where a function's body leaves off. -/
def Fin (rs : List RV) (Kr Kp : DV → Hp → Prop) : EX → Fr → Hp → Prop
  | .normal, fr, He => ∃ l d H', evRes He fr rs = some l ∧ Cv He H' (tupD l) d ∧ Kr d H'
  | .ret, fr, He => ∃ l d H', evRes He fr rs = some l ∧ Cv He H' (tupD l) d ∧ Kr d H'
  | .panic d, _, He => ∃ H', SubH H' He ∧ Kp d H'
  | .exit _, _, _ => False

section
variable (P : Program) (G : Gl) (r : Option Nat) (N : Nat)

def AC (c : CC) (Q : EX → Fr → Hp → Prop) (fr : Fr) (H : Hp) : Prop := ∀ code, cCode P N code = some c → AW P G r N code Q fr H

/-- 'c', and then Q. -/
def Sq (c : CC) (Q : EX → Fr → Hp → Prop) : EX → Fr → Hp → Prop
  | .normal, fr, H => AC P G r N c Q fr H
  | e, fr, H => Q e fr H

/-- A pure function: from values to a value; nothing tracked turns. -/
def PF (f : FuncId) (ds : List DV) (d : DV) : Prop := ∀ H, CALL P G f ds H (fun d' H' => d' = d ∧ H' = H) (fun _ _ => False)

variable {P G r N}

theorem bindS {α β : Type} {x : Option α} {f : α → Option β} {y : β} (h : x.bind f = some y) : ∃ i, x = some i ∧ f i = some y := bindP' h

theorem cAll_sound {ops : Array Oper} : ∀ (os : List Oper) (l : List Ins), cAll P N ops os = some l → os.map (cIns P N ops) = l.map some
  | [], l, h => by cases h; rfl
  | o :: os, l, h => by
    simp only [cAll] at h
    obtain ⟨i, h1, h⟩ := bindS h
    obtain ⟨r, h2, h⟩ := bindS h
    cases h
    simp [h1, cAll_sound os r h2]

theorem cAll_range {ops : Array Oper} {l : List Ins} (h : cAll P N ops ops.toList = some l) : (List.range ops.size).map (fun i => (ops[i]?).bind (cIns P N ops)) = l.map some := by
  rw [← cAll_sound _ _ h]
  apply List.ext_getElem?
  intro j
  rw [List.getElem?_map, List.getElem?_map]
  have e3 : ops.toList[j]? = ops[j]? := Array.getElem?_toList
  rw [e3]
  by_cases hj : j < ops.size
  · have : (List.range ops.size)[j]? = some j := by simp [hj]
    rw [this]
    cases e : ops[j]? with
    | none => simp [hj] at e
    | some o => simp [e]
  · have h1 : (List.range ops.size)[j]? = none := by simp; omega
    have h2 : ops[j]? = none := by simp; omega
    rw [h1, h2]; rfl

theorem AC.mono {c : CC} {Q Q' : EX → Fr → Hp → Prop} {fr : Fr} {H : Hp} (h : AC P G r N c Q fr H) (hq : ∀ e fr H, Q e fr H → Q' e fr H) : AC P G r N c Q' fr H := fun code hc => (h code hc).mono hq


theorem AC.skip {Q : EX → Fr → Hp → Prop} {fr : Fr} {H : Hp} (h : Q .normal fr H) : AC P G r N .skip Q fr H := by
  intro code hc
  cases code
  case skip => exact AW.skip h
  case label l => exact AW.label h
  case region id ops d =>
    simp only [cCode] at hc
    obtain ⟨_, _, hc⟩ := bindS hc
    split at hc <;> first | (cases hc; done) | (split at hc <;> cases hc)
  all_goals (first | (cases hc; done) | skip)
  all_goals simp only [cCode] at hc
  all_goals repeat' (first | (rw [Option.bind_eq_some_iff] at hc; obtain ⟨_, _, hc⟩ := hc) | split at hc)
  all_goals cases hc

theorem cCode_reg {code : Code} {l : List Ins} (hc : cCode P N code = some (.reg l)) : ∃ id ops, code = .region id ops false ∧ cAll P N ops ops.toList = some l := by
  cases code
  case region id ops d =>
    simp only [cCode] at hc
    obtain ⟨l', h1, hc⟩ := bindS hc
    split at hc
    · split at hc <;> cases hc
    · rename_i hd; cases hc; exact ⟨id, ops, by simp at hd; rw [hd], h1⟩
  all_goals (first | (cases hc; done) | skip)
  all_goals exfalso
  all_goals simp only [cCode] at hc
  all_goals repeat' (first | (rw [Option.bind_eq_some_iff] at hc; obtain ⟨_, _, hc⟩ := hc) | split at hc)
  all_goals cases hc

theorem AC.reg {l : List Ins} {Q : EX → Fr → Hp → Prop} {fr : Fr} {H : Hp} (h : RG P G r N l Q fr H) : AC P G r N (.reg l) Q fr H := by
  intro code hc
  obtain ⟨id, ops, rfl, h1⟩ := cCode_reg hc
  intro n base w Z a hr hf
  exact wpIn_region (h n base w Z a ops _ (cAll_range h1) hr hf)

theorem cCode_seq {code : Code} {x y : CC} (hc : cCode P N code = some (.seq x y)) : ∃ a b, code = .seq a b ∧ cCode P N a = some x ∧ cCode P N b = some y := by
  cases code
  case seq a b =>
    simp only [cCode] at hc
    obtain ⟨x', h1, hc⟩ := bindS hc
    obtain ⟨y', h2, hc⟩ := bindS hc
    cases hc
    exact ⟨a, b, rfl, h1, h2⟩
  all_goals (first | (cases hc; done) | skip)
  all_goals exfalso
  all_goals simp only [cCode] at hc
  all_goals repeat' (first | (rw [Option.bind_eq_some_iff] at hc; obtain ⟨_, _, hc⟩ := hc) | split at hc)
  all_goals cases hc

theorem AC.seq {x y : CC} {Q : EX → Fr → Hp → Prop} {fr : Fr} {H : Hp} (h : AC P G r N x (Sq P G r N y Q) fr H) : AC P G r N (.seq x y) Q fr H := by
  intro code hc
  obtain ⟨a, b, rfl, h1, h2⟩ := cCode_seq hc
  refine AW.seq ((h a h1).mono fun e fr H hq => ?_)
  cases e with
  | normal => exact hq b h2
  | exit id => exact hq
  | ret => exact hq
  | panic d => exact hq

theorem cCode_cond {code : Code} {x : X} {c d : CC} (hc : cCode P N code = some (.cond x c d)) : ∃ y a b, code = .cond y a b ∧ x = cX y ∧ XOk N x = true ∧ cCode P N a = some c ∧ cCode P N b = some d := by
  cases code
  case cond y a b =>
    simp only [cCode] at hc
    split at hc
    · rename_i hx
      obtain ⟨x', h1, hc⟩ := bindS hc
      obtain ⟨y', h2, hc⟩ := bindS hc
      cases hc
      exact ⟨y, a, b, rfl, rfl, hx, h1, h2⟩
    · cases hc
  all_goals (first | (cases hc; done) | skip)
  all_goals exfalso
  all_goals simp only [cCode] at hc
  all_goals repeat' (first | (rw [Option.bind_eq_some_iff] at hc; obtain ⟨_, _, hc⟩ := hc) | split at hc)
  all_goals cases hc

theorem AC.cond {x : X} {c d : CC} {b : Bool} {Q : EX → Fr → Hp → Prop} {fr : Fr} {H : Hp} (hx : XV G fr x = .bool b) (h : AC P G r N (if b then c else d) Q fr H) : AC P G r N (.cond x c d) Q fr H := by
  intro code hc n base w Z a hr hf
  obtain ⟨y, p, q, rfl, rfl, hok, h1, h2⟩ := cCode_cond hc
  have hv := cX_sound hr hf hok
  rw [hx] at hv
  refine wpIn_cond hv.bool_inv ?_
  cases b with
  | true => exact h p h1 n base w Z a hr hf
  | false => exact h q h2 n base w Z a hr hf

theorem AC.cond_t {x : X} {c d : CC} {Q : EX → Fr → Hp → Prop} {fr : Fr} {H : Hp} (hx : XV G fr x = .bool true) (h : AC P G r N c Q fr H) : AC P G r N (.cond x c d) Q fr H := AC.cond hx h
theorem AC.cond_f {x : X} {c d : CC} {Q : EX → Fr → Hp → Prop} {fr : Fr} {H : Hp} (hx : XV G fr x = .bool false) (h : AC P G r N d Q fr H) : AC P G r N (.cond x c d) Q fr H := AC.cond hx h
theorem AC.cond_s {x : X} {c d : CC} {b : Bool} {Q : EX → Fr → Hp → Prop} {fr : Fr} {H : Hp} (hx : XV G fr x = .bool b) (ht : b = true → AC P G r N c Q fr H) (hf : b = false → AC P G r N d Q fr H) : AC P G r N (.cond x c d) Q fr H := by
  cases b with
  | true => exact AC.cond hx (ht rfl)
  | false => exact AC.cond hx (hf rfl)

theorem cCode_block {code : Code} {id : Nat} {c : CC} (hc : cCode P N code = some (.block id c)) : ∃ a, code = .block id a ∧ cCode P N a = some c := by
  cases code
  case block id' a =>
    simp only [cCode] at hc
    obtain ⟨x', h1, hc⟩ := bindS hc
    cases hc
    exact ⟨a, rfl, h1⟩
  all_goals (first | (cases hc; done) | skip)
  all_goals exfalso
  all_goals simp only [cCode] at hc
  all_goals repeat' (first | (rw [Option.bind_eq_some_iff] at hc; obtain ⟨_, _, hc⟩ := hc) | split at hc)
  all_goals cases hc

theorem AC.block {id : Nat} {c : CC} {Q : EX → Fr → Hp → Prop} {fr : Fr} {H : Hp} (h : AC P G r N c (Bk id Q) fr H) : AC P G r N (.block id c) Q fr H := by
  intro code hc
  obtain ⟨a, rfl, h1⟩ := cCode_block hc
  exact AW.block (h a h1)

theorem cCode_loop {code : Code} {c : CC} (hc : cCode P N code = some (.loop c)) : ∃ a, code = .loop a ∧ cCode P N a = some c := by
  cases code
  case loop a =>
    simp only [cCode] at hc
    obtain ⟨x', h1, hc⟩ := bindS hc
    cases hc
    exact ⟨a, rfl, h1⟩
  all_goals (first | (cases hc; done) | skip)
  all_goals exfalso
  all_goals simp only [cCode] at hc
  all_goals repeat' (first | (rw [Option.bind_eq_some_iff] at hc; obtain ⟨_, _, hc⟩ := hc) | split at hc)
  all_goals cases hc

theorem AC.loop {c : CC} {Q : EX → Fr → Hp → Prop} {fr : Fr} {H : Hp} (h : AC P G r N c (Sq P G r N (.loop c) Q) fr H) : AC P G r N (.loop c) Q fr H := by
  intro code hc
  obtain ⟨a, rfl, h1⟩ := cCode_loop hc
  refine AW.loop ((h a h1).mono fun e fr H hq => ?_)
  cases e with
  | normal => exact hq _ hc
  | exit id => exact hq
  | ret => exact hq
  | panic d => exact hq

theorem AC.exit {id : Nat} {Q : EX → Fr → Hp → Prop} {fr : Fr} {H : Hp} (h : Q (.exit id) fr H) : AC P G r N (.exit id) Q fr H := by
  intro code hc
  cases code
  case exit i => cases hc; exact AW.exit h
  all_goals (first | (cases hc; done) | skip)
  all_goals exfalso
  all_goals simp only [cCode] at hc
  all_goals repeat' (first | (rw [Option.bind_eq_some_iff] at hc; obtain ⟨_, _, hc⟩ := hc) | split at hc)
  all_goals cases hc

theorem AC.scp {c : CC} {Q : EX → Fr → Hp → Prop} {fr : Fr} {H : Hp} (h : AC P G r N c Q fr H) : AC P G r N (.scp c) Q fr H := by
  intro code hc
  cases code
  case scope a =>
    simp only [cCode] at hc
    obtain ⟨x', h1, hc⟩ := bindS hc
    cases hc
    exact AW.scope (h a h1)
  all_goals (first | (cases hc; done) | skip)
  all_goals exfalso
  all_goals simp only [cCode] at hc
  all_goals repeat' (first | (rw [Option.bind_eq_some_iff] at hc; obtain ⟨_, _, hc⟩ := hc) | split at hc)
  all_goals cases hc

theorem AC.ret {Q : EX → Fr → Hp → Prop} {fr : Fr} {H : Hp} (h : Q .ret fr H) : AC P G r N .ret Q fr H := by
  intro code hc
  cases code
  case ret => exact AW.ret h
  all_goals (first | (cases hc; done) | skip)
  all_goals exfalso
  all_goals simp only [cCode] at hc
  all_goals repeat' (first | (rw [Option.bind_eq_some_iff] at hc; obtain ⟨_, _, hc⟩ := hc) | split at hc)
  all_goals cases hc


theorem RG.nilS {c : CC} {Q : EX → Fr → Hp → Prop} {fr : Fr} {H : Hp} (h : AC P G r N c Q fr H) : RG P G r N [] (Sq P G r N c Q) fr H := RG.nil h

theorem RG.pure {dst : Option Nat} {op : OP} {l : List Ins} {d : DV} {Q : EX → Fr → Hp → Prop} {fr : Fr} {H : Hp} (h : evP G fr H op = some d) (k : RG P G r N l Q (fr.put dst d) H) : RG P G r N (⟨dst, none, op⟩ :: l) Q fr H :=
  RG.step (.inl rfl) (ST.pure h k)

theorem RG.mv {dst : Option Nat} {x : X} {l : List Ins} {d : DV} {Q : EX → Fr → Hp → Prop} {fr : Fr} {H : Hp} (h : XV G fr x = d) (k : RG P G r N l Q (fr.put dst d) H) : RG P G r N (⟨dst, none, .mv x⟩ :: l) Q fr H :=
  RG.step (.inl rfl) (ST.pure (by simp only [evP, h]) k)

/-- A guard that is so: the operation as if it had none. -/
theorem RG.gyes {dst : Option Nat} {op : OP} {t : Nat} {b : Bool} {l : List Ins} {Q : EX → Fr → Hp → Prop} {fr : Fr} {H : Hp} (hg : fr t = .bool b)
    (h : ST P G r N op dst (RG P G r N l Q) Q fr H) : RG P G r N (⟨dst, some (t, b), op⟩ :: l) Q fr H := RG.step (.inr ⟨t, b, rfl, hg⟩) h

theorem RG.gno' {dst : Option Nat} {op : OP} {t : Nat} {b : Bool} {l : List Ins} {Q : EX → Fr → Hp → Prop} {fr : Fr} {H : Hp} (hg : fr t = .bool (!b))
    (h : RG P G r N l Q (fr.put dst (.tup [])) H) : RG P G r N (⟨dst, some (t, b), op⟩ :: l) Q fr H := RG.gno rfl hg h

theorem RG.gsplit' {dst : Option Nat} {op : OP} {t : Nat} {b x : Bool} {l : List Ins} {Q : EX → Fr → Hp → Prop} {fr : Fr} {H : Hp} (hg : fr t = .bool x)
    (hy : x = b → ST P G r N op dst (RG P G r N l Q) Q fr H) (hn : x = (!b) → RG P G r N l Q (fr.put dst (.tup [])) H) : RG P G r N (⟨dst, some (t, b), op⟩ :: l) Q fr H := RG.gsplit rfl hg hy hn

theorem RG.st {dst : Option Nat} {op : OP} {l : List Ins} {Q : EX → Fr → Hp → Prop} {fr : Fr} {H : Hp} (h : ST P G r N op dst (RG P G r N l Q) Q fr H) : RG P G r N (⟨dst, none, op⟩ :: l) Q fr H := RG.step (.inl rfl) h

/-- A pure call. -/
theorem ST.callF {f : FuncId} {xs : List X} {d : DV} {dst : Option Nat} {K : Fr → Hp → Prop} {Q : EX → Fr → Hp → Prop} {fr : Fr} {H : Hp} (h : PF P G f (xs.map (XV G fr)) d) (k : K (fr.put dst d) H) :
    ST P G r N (.call f xs) dst K Q fr H :=
  ST.call ((h H).mono (fun d' H' ⟨e1, e2⟩ => by subst e1; subst e2; exact k) (fun _ _ h => h.elim))

theorem RG.keep {l : List Ins} {Q : EX → Fr → Hp → Prop} {fr fr' : Fr} {H : Hp} (h : ∀ t, fr' t = fr t ∨ fr' t = .junk) (k : RG P G r N l Q fr' H) : RG P G r N l Q fr H :=
  fun n base w Z a ops is hl hr hf => k n base w Z a ops is hl hr (hf.weak h)

theorem AC.weak {c : CC} {Q : EX → Fr → Hp → Prop} {fr fr' : Fr} {H : Hp} (h : ∀ t, fr' t = fr t ∨ fr' t = .junk) (k : AC P G r N c Q fr' H) : AC P G r N c Q fr H :=
  fun code hc n base w Z a hr hf => k code hc n base w Z a hr (hf.weak h)

/-- Only these slots are told any more. -/
def keepFr (ts : List Nat) (fr : Fr) : Fr := fun t => bif ts.elem t then fr t else .junk

theorem AC.keep (ts : List Nat) {c : CC} {Q : EX → Fr → Hp → Prop} {fr : Fr} {H : Hp} (k : AC P G r N c Q (keepFr ts fr) H) : AC P G r N c Q fr H :=
  AC.weak (fun t => by unfold keepFr; cases ts.elem t <;> simp) k

/-! A function. -/
theorem ldD_addr {w : World} {H : Hp} {Z : Zn} {agg : Bool} {sz : Nat} {x : Value} {dx d : DV} (h : ldD H agg sz dx = some d) (hx : VR w H Z x dx) : ∃ a, x = .pointer (some a) := by
  unfold ldD at h
  split at h
  · exact ⟨_, hx.ptr_inv⟩
  · obtain ⟨a, _, e, _⟩ := hx.cptr_inv; exact ⟨a, e⟩
  · cases h

theorem evRes_sound {w : World} {H : Hp} {Z : Zn} {tmps : Array Value} {fr : Fr} (hr : HR G w H Z) (hf : ∀ t, t < N → VR w H Z (tmps.getD t undef) (fr t)) : ∀ (l : List ResultVar) (rs : List RV) (ds : List DV), cRes P N l = some rs → evRes H fr rs = some ds →
    ∃ vs : List Value, (l.mapM (fun | .tmp t => pure (tmps.getD t undef) | .cell a t => do loadVar t (← asAddr (tmps.getD a undef)) : ResultVar → Sem Value)).run P w = .ok vs w ∧ vs.length = ds.length ∧
      ∀ (j : Nat) (v : Value) (d : DV), vs[j]? = some v → ds[j]? = some d → VR w H Z v d
  | [], rs, ds, hc, he => by cases hc; cases he; exact ⟨[], rfl, rfl, fun j v d h => by simp at h⟩
  | .tmp t :: l, rs, ds, hc, he => by
    simp only [cRes] at hc
    split at hc <;> first | (cases hc; done) | skip
    rename_i ht
    obtain ⟨r', h1, hc⟩ := bindS hc
    cases hc
    simp only [evRes] at he
    obtain ⟨ds', h2, he⟩ := bindS he
    cases he
    obtain ⟨vs, k1, k2, k3⟩ := evRes_sound hr hf l r' ds' h1 h2
    refine ⟨tmps.getD t undef :: vs, ?_, by simp [k2], fun j v d hj hd => ?_⟩
    · rw [List.mapM_cons]; simp only [Sem.run_bind, Sem.run_pure, Result.andThen_ok, k1]
    · rcases j with _ | j
      · simp only [List.getElem?_cons_zero, Option.some.injEq] at hj hd; subst hj; subst hd; exact hf t ht
      · exact k3 j v d (by simpa using hj) (by simpa using hd)
  | .cell t ty :: l, rs, ds, hc, he => by
    simp only [cRes] at hc
    split at hc <;> first | (cases hc; done) | skip
    rename_i ht
    obtain ⟨i, hi, hc⟩ := bindS hc
    obtain ⟨d0, hu, hc⟩ := bindS hc
    obtain ⟨r', h1, hc⟩ := bindS hc
    cases hc
    simp only [evRes] at he
    obtain ⟨d, hd0, he⟩ := bindS he
    obtain ⟨ds', h2, he⟩ := bindS he
    cases he
    obtain ⟨vs, k1, k2, k3⟩ := evRes_sound hr hf l r' ds' h1 h2
    have hv := hf t ht
    obtain ⟨v, g1, g2⟩ := ldD_sound (P := P) hr hu hi hd0 hv
    obtain ⟨a, ha⟩ := ldD_addr hd0 hv
    have g1' : (loadVar ty a).run P w = .ok v w := by
      rw [ha] at g1
      simpa only [Instr.loadAt, Instr.sureAddr, Sem.run_bind, Sem.run_pure, Result.andThen_ok] using g1
    refine ⟨v :: vs, ?_, by simp [k2], fun j u d hj hd => ?_⟩
    · rw [List.mapM_cons]
      have e1 : (asAddr (tmps.getD t undef)).run P w = .ok a w := by rw [ha]; rfl
      simp only [Sem.run_bind, Sem.run_pure, Result.andThen_ok, e1, g1', k1]
    · rcases j with _ | j
      · simp only [List.getElem?_cons_zero, Option.some.injEq] at hj hd; subst hj; subst hd; exact g2
      · exact k3 j u d (by simpa using hj) (by simpa using hd)


theorem results_sound {w : World} {H : Hp} {Z : Zn} {tmps : Array Value} {fr : Fr} {fn : Func} {rs : List RV} {ds : List DV} (hr : HR G w H Z) (hf : ∀ t, t < N → VR w H Z (tmps.getD t undef) (fr t))
    (hc : cRes P N fn.results.toList = some rs) (he : evRes H fr rs = some ds) : ∃ v, (results fn tmps).run P w = .ok v w ∧ VR w H Z v (tupD ds) := by
  obtain ⟨vs, k1, k2, k3⟩ := evRes_sound hr hf _ _ _ hc he
  have hm : (fn.results.mapM (fun | .tmp t => pure (tmps.getD t undef) | .cell a t => do loadVar t (← asAddr (tmps.getD a undef)) : ResultVar → Sem Value)).run P w = .ok vs.toArray w := by
    rw [Array.mapM_eq_mapM_toList]
    simp only [Sem.run_map, k1, Result.andThen_ok]
  refine ⟨if h : vs.toArray.size = 1 then vs.toArray[0] else .tuple vs.toArray, ?_, ?_⟩
  · unfold results
    rw [Sem.run_bind]
    exact congrArg (fun r => Result.andThen r _) hm
  · match vs, ds, k2, k3 with
    | [], [], _, _ => exact .tup _ _ rfl (fun j v d h => by simp at h)
    | [v], [d], _, k3 => exact k3 0 v d rfl rfl
    | v :: v' :: vs, d :: d' :: ds, k2, k3 =>
      have e : (if h : (v :: v' :: vs).toArray.size = 1 then (v :: v' :: vs).toArray[0] else Value.tuple (v :: v' :: vs).toArray) = .tuple (v :: v' :: vs).toArray := by simp
      rw [e]
      exact .tup _ _ (by simpa using k2) (fun j u e h1 h2 => k3 j u e (by simpa using h1) h2)

theorem leavesM {w0 : World} {fn : Func} {tmps : Array Value} {R : Ending → World → Prop} {He : Hp} {Ze : Zn} {n : Nat} {u : FrameMode} (hu : u ≠ .run) (I : World → Prop)
    (hI : ∀ (w' : World) (b : Nat), I w' → w0.heap.size ≤ b → b < w'.heap.size → ¬ Ze b → He b = none → w'.heap[b]? = some (.deferred (some [])) → I { w' with heap := w'.heap.setIfInBounds b (.deferred none) })
    (hend : ∀ w', I w' → LeavesInM (Wd none) n P fn tmps R [] u w') : ∀ (ds : List Deferred) (w' : World), I w' → Marks w' He Ze w0.heap.size ds → LeavesInM (Wd none) n P fn tmps R ds u w'
  | [], w', hi, _ => hend w' hi
  | d :: ds, w', hi, hm => by
    obtain ⟨b, e, h0, h1, h2, h3, h4⟩ := hm.1 d (by simp)
    refine ⟨hu, .inl ⟨b, { w' with heap := w'.heap.setIfInBounds b (.deferred none) }, e, run_takeDeferred h4, ?_⟩⟩
    refine leavesM hu I hI hend ds _ (hI w' b hi h0 h1 h2 h3 h4) ⟨fun d' hd' => ?_, (List.nodup_cons.1 hm.2).2⟩
    obtain ⟨b', e', g0, g1, g2, g3, g4⟩ := hm.1 d' (by simp [hd'])
    have hne : b ≠ b' := by
      intro heq
      have hnd := (List.nodup_cons.1 hm.2).1
      apply hnd
      rw [List.mem_map]
      exact ⟨d', hd', by simp only [e, e', heq]⟩
    exact ⟨b', e', g0, by simpa using g1, g2, g3, by simp [Array.getElem?_setIfInBounds, hne, g4]⟩


/-- A block that nobody tracks, new since the call began, is turned. -/
theorem private_set {w0 w : World} {H0 H : Hp} {Z0 Z : Zn} (hr : HR G w H Z) (hx : Ext w0 H0 Z0 w H Z) {b : Nat} (hb : w0.heap.size ≤ b) (hz : ¬ Z b) (hh : H b = none) (o : Obj) :
    HR G { w with heap := w.heap.setIfInBounds b o } H Z ∧ Ext w0 H0 Z0 { w with heap := w.heap.setIfInBounds b o } H Z ∧ (∀ v d, VR w H Z v d → VR { w with heap := w.heap.setIfInBounds b o } H Z v d) := by
  have hne : ∀ k, k ≠ b → ({ w with heap := w.heap.setIfInBounds b o } : World).heap[k]? = w.heap[k]? := fun k hk => by simp [Ne.symm hk]
  -- what is told does not speak of b
  have hloc : ∀ v d, VR w H Z v d → VR { w with heap := w.heap.setIfInBounds b o } H Z v d := by
    have hcell : ∀ {c i : Nat} {v : Value}, Safe H Z c i → w.cell? ⟨c, i, none⟩ = some v → ({ w with heap := w.heap.setIfInBounds b o } : World).cell? ⟨c, i, none⟩ = some v := by
      intro c i v hs hc
      have : c ≠ b := by
        rintro rfl
        rcases hs with hs | ⟨f, sz, ty, hs, _⟩
        · exact hz hs
        · rw [hh] at hs; cases hs
      exact (World.cell?_of_block (a := ⟨c, i, none⟩) (hne c this)).trans hc
    intro v d hv
    induction hv with
    | junk v => exact .junk v
    | bool b => exact .bool b
    | int k n => exact .int k n
    | str s l e => exact .str s l e
    | ptr b off => exact .ptr b off
    | nilp => exact .nilp
    | cptr a cs vs h1 hc ho _ ih => exact .cptr a cs vs h1 (fun j hj => ⟨hcell (hc j hj).2 (hc j hj).1, (hc j hj).2⟩) ho ih
    | lst A n c sz cs tag vs h1 h2 hc ho _ ht ih =>
      refine .lst A n c sz cs tag vs h1 h2 (fun j hj => ?_) ho ih (fun b' off e => ?_)
      · obtain ⟨a, e1, e2, c1, c2⟩ := hc j hj
        exact ⟨a, e1, e2, hcell c2 c1, c2⟩
      · obtain ⟨t1, t2⟩ := ht b' off e
        refine ⟨by simpa using t1, fun f sz' ty hf => ?_⟩
        obtain ⟨u1, u2⟩ := t2 f sz' ty hf
        refine ⟨u1, fun e => ?_⟩
        obtain ⟨v1, v2, arr, fz, v3, v4⟩ := u2 e
        have : b' ≠ b := by rintro rfl; rw [hh] at hf; cases hf
        exact ⟨v1, v2, arr, fz, (hne b' this).trans v3, v4⟩
    | nils => exact .nils
    | zc A => exact .zc A
    | win b off n cap h => exact .win b off n cap h
    | func fn first cap df dc e1 e2 _ _ ih1 ih2 => exact .func fn first cap df dc e1 e2 ih1 ih2
    | nilfn => exact .nilfn
    | iface t v d _ ih => exact .iface t v d ih
    | nilif => exact .nilif
    | agg vs cs e ho _ ih => exact .agg vs cs e ho ih
    | tup vs cs e _ ih => exact .tup vs cs e ih
    | mapr b => exact .mapr b
    | nilmap => exact .nilmap
  have hkb : ∀ k o', H k = some o' → k ≠ b := fun k o' e h => by subst h; rw [hh] at e; cases e
  refine ⟨?_, ?_, hloc⟩
  refine ⟨fun k o' e => ⟨by simpa using (hr.dom k o' e).1, (hr.dom k o' e).2⟩, fun k hk => by simpa using hr.zlt k hk, fun k o' e => ?_, fun g cs e => hloc _ _ (hr.glob g cs e)⟩
  · have hob := hr.obj k o' e
    have hk := hne k (hkb k o' e)
    cases o' with
    | cells cs ty =>
      obtain ⟨arr, fz, h1, h2, h3, h4, h5⟩ := hob
      exact ⟨arr, fz, hk.trans h1, h2, h3, h4, fun j v d e1 e2 => hloc _ _ (h5 j v d e1 e2)⟩
    | front f sz ty =>
      obtain ⟨arr, fz, cap, h1, h2⟩ := hob
      exact ⟨arr, fz, cap, hk.trans h1, h2⟩
    | mapo es =>
      obtain ⟨ms, cl, h1, h2, h3⟩ := hob
      exact ⟨ms, cl, hk.trans h1, h2, fun j m e e1 e2 => ⟨hloc _ _ (h3 j m e e1 e2).1, hloc _ _ (h3 j m e e1 e2).2⟩⟩
    | raw o => exact ⟨hk.trans hob.1, hob.2⟩
    | loop N ps as bd fr st pend =>
      obtain ⟨L, h1, h2, h3, h4, h5, h6, h7, h8⟩ := hob
      exact ⟨L, hk.trans h1, h2, h3, h4, h5, h6, h7, fun t ht => hloc _ _ (h8 t ht)⟩
  · exact {
      size := by simpa using hx.size
      os := hx.os
      tape := hx.tape
      output := hx.output
      imm := fun k hk => by
        obtain ⟨h1, h2, h3⟩ := hx.imm k hk
        exact ⟨h1, h2, (hne k (fun e => hz (e ▸ h1))).trans h3⟩
      priv := fun k hk h1 h2 => by
        obtain ⟨g1, g2, g3⟩ := hx.priv k hk h1 h2
        exact ⟨g1, g2, (hne k (by omega)).trans g3⟩
      frt := hx.frt
      pre := fun k f sz ty hk => by
        obtain ⟨g1, g2⟩ := hx.pre k f sz ty hk
        refine ⟨g1, fun arr fz ha => ?_⟩
        obtain ⟨arr', fz', e1, e2, e3⟩ := g2 arr fz ha
        have : k ≠ b := by
          rintro rfl
          rcases g1 with g1 | ⟨f', _, g1⟩
          · exact hz g1
          · rw [hh] at g1; cases g1
        exact ⟨arr', fz', (hne k this).trans e1, e2, e3⟩ }


theorem cFn_sound {f : FuncId} {F : FN} (h : cFn P f = some F) : ∃ fn c, P.funcs[f]? = some fn ∧ fn.body = some c ∧ (fn.name == "runtime.NumGoroutine") = false ∧ cCode P F.N c = some F.c ∧ cRes P F.N fn.results.toList = some F.rs ∧ fn.ntmps = F.N := by
  unfold cFn at h
  obtain ⟨fn, h1, h⟩ := bindS h
  obtain ⟨c, h2, h⟩ := bindS h
  split at h
  · cases h
  · rename_i hn
    obtain ⟨cc, h3, h⟩ := bindS h
    obtain ⟨rs, h4, h⟩ := bindS h
    cases h
    exact ⟨fn, c, h1, h2, by simpa using hn, h3, h4, rfl⟩

theorem Ext.fwd {w w' : World} {H H' : Hp} {Z Z' : Zn} (h : Ext w H Z w' H' Z') : w.heap.size ≤ w'.heap.size := h.size

/-- A function's contract from its body. -/
theorem CALL.of {f : FuncId} {F : FN} {ds : List DV} {H : Hp} {Kr Kp : DV → Hp → Prop} (hf : cFn P f = some F) (hl : ds.length ≤ F.N) (h : AC P G none F.N F.c (Fin F.rs Kr Kp) (argFr ds) H) : CALL P G f ds H Kr Kp := by
  obtain ⟨fn, c, h1, h2, h3, h4, h5, h6⟩ := cFn_sound hf
  refine ⟨⟨fn, h1, by simp [h2], h3⟩, fun w Z vs hr hs hv => ?_⟩
  refine (callsIn_wide (n := 0)).1 (callsIn_of_wp_marks (F := Fence.wide) h1 h2 trivial ?_ rfl)
  have hfr : FR w H Z (w.heap.size, []) F.N { tmps := vs ++ Array.replicate (fn.ntmps - vs.size) undef, defers := [] } (argFr ds) := by
    refine ⟨by simp; omega, fun t ht => ?_, MarksB.nil, Nat.le_refl _⟩
    unfold argFr
    cases e : ds[t]? with
    | none => exact .junk _
    | some d =>
      have hlt : t < vs.size := by rw [hs]; exact (List.getElem?_eq_some_iff.1 e).1
      have hg : (vs ++ Array.replicate (fn.ntmps - vs.size) undef).getD t undef = vs[t] := by
        simp [Array.getD, hlt, Array.getElem_append]
        intro h; omega
      show VR w H Z ((vs ++ Array.replicate (fn.ntmps - vs.size) undef).getD t undef) d
      rw [hg]
      exact hv t _ d (Array.getElem?_eq_getElem hlt) e
  refine wpIn_mono (h c h4 0 (w.heap.size, []) w Z _ hr hfr) fun e a' w' hp => ?_
  obtain ⟨ex, fr', He, Ze, q, k1, k2, k3, k4⟩ := hp
  have hmk : Marks w' He Ze w.heap.size a'.defers := by
    obtain ⟨ms, e, m⟩ := k3.marks
    rw [List.append_nil] at e
    rw [e]; exact m
  have fin : (∃ l d H', evRes He fr' F.rs = some l ∧ Cv He H' (tupD l) d ∧ Kr d H') → LeavesInM Fence.wide 0 P fn a'.tmps (CPost G Kr Kp w H Z) a'.defers .returning w' := by
    rintro ⟨l, d, H', q1, q2, q4⟩
    refine leavesM (w0 := w) (He := He) (Ze := Ze) (by simp) (fun w'' => HR G w'' He Ze ∧ Ext w H Z w'' He Ze ∧ FR w'' He Ze (w.heap.size, []) F.N { tmps := a'.tmps, defers := [] } fr') ?_ ?_ a'.defers w' ⟨k2, k4, k3.size, k3.vals, MarksB.nil, k3.low⟩ hmk
    · rintro w'' b ⟨g1, g2, g3⟩ b1 b2 b3 b4 b5
      obtain ⟨m1, m2, m4⟩ := private_set g1 g2 b1 b3 b4 (.deferred none)
      exact ⟨m1, m2, g3.size, fun t ht => m4 _ _ (g3.vals t ht), MarksB.nil, by simpa using g3.low⟩
    · rintro w'' ⟨g1, g2, g3⟩
      obtain ⟨v, m1, m2⟩ := results_sound (P := P) (fn := fn) g1 g3.vals h5 q1
      obtain ⟨Z', c1, c2, c3⟩ := q2 _ _ _ g1
      exact ⟨v, m1, d, H', Z', q4, c3 v m2, c1, g2.trans c2⟩
  cases e <;> cases ex <;> try exact k1.elim
  · exact fin q
  · exact q.elim
  · exact fin q
  · rename_i ch d
    obtain ⟨v, rfl, hvd⟩ := k1
    obtain ⟨H', q1, q2⟩ := q
    refine leavesM (w0 := w) (He := He) (Ze := Ze) (by simp) (fun w'' => HR G w'' He Ze ∧ Ext w H Z w'' He Ze ∧ VR w'' He Ze v d) ?_ ?_ a'.defers w' ⟨k2, k4, hvd⟩ hmk
    · rintro w'' b ⟨g1, g2, g3⟩ b1 b2 b3 b4 b5
      obtain ⟨m1, m2, m4⟩ := private_set g1 g2 b1 b3 b4 (.deferred none)
      exact ⟨m1, m2, m4 _ _ g3⟩
    · rintro w'' ⟨g1, g2, g3⟩
      exact ⟨v, d, H', _, rfl, q2, g3.drop q1, g1.drop q1, g2.drop q1⟩

end
end Go.Run
/- A region that draws its order. -/
namespace Go.Run
open Go Go.RowKit

/-- Every order that goes with the dependencies. -/
def Lin (n : Nat) (dep : Nat → List Nat) : List Nat → List Nat → Prop
  | R, [] => ∀ i, i < n → i ∈ R
  | R, j :: π => j < n ∧ j ∉ R ∧ (∀ d ∈ dep j, d ∈ R) ∧ Lin n dep (j :: R) π

def depO (ops : Array Oper) (i : Nat) : List Nat := ((ops[i]?).map depsOf).getD []

theorem edgesBack_spec : ∀ (os : List Oper) (k i : Nat) (o : Oper), edgesBack os k = true → os[i]? = some o → ∀ e ∈ o.after, Region.binds .any e = true → e.on < k + i
  | [], k, i, o, h, ho => by simp at ho
  | o' :: os, k, i, o, h, ho => by
    simp only [edgesBack, Bool.and_eq_true] at h
    intro e he hbd
    cases i with
    | zero =>
      simp only [List.getElem?_cons_zero, Option.some.injEq] at ho
      subst ho
      have := List.all_eq_true.1 h.1 e (by simpa using he)
      rw [hbd] at this
      simpa [Nat.blt_eq] using this
    | succ i =>
      have := edgesBack_spec os (k + 1) i o h.2 (by simpa using ho) e he hbd
      omega

def unl (listed : Array Bool) (n : Nat) : Nat := ((List.range n).filter fun i => !listed.getD i true).length

theorem unl_set {listed : Array Bool} {n i : Nat} (hs : listed.size = n) (hi : i < n) (h : listed.getD i true = false) : unl (listed.setIfInBounds i true) n + 1 = unl listed n := by
  unfold unl
  have : ∀ (l : List Nat), l.Nodup → i ∈ l → (l.filter fun j => !(listed.setIfInBounds i true).getD j true).length + 1 = (l.filter fun j => !listed.getD j true).length := by
    intro l
    induction l with
    | nil => intro _ h; simp at h
    | cons x xs ih =>
      intro hnd hm
      rw [List.nodup_cons] at hnd
      by_cases hx : x = i
      · subst hx
        have hrest : (xs.filter fun j => !(listed.setIfInBounds x true).getD j true) = xs.filter fun j => !listed.getD j true := by
          apply List.filter_congr
          intro j hj
          have : x ≠ j := fun e => hnd.1 (e ▸ hj)
          simp only [Array.getD_eq_getD_getElem?, Array.getElem?_setIfInBounds, this, if_false]
        have e1 : (!(listed.setIfInBounds x true).getD x true) = false := by
          simp [Array.getD_eq_getD_getElem?, Array.getElem?_setIfInBounds, hs, hi]
        rw [List.filter_cons, List.filter_cons, hrest]
        simp [e1, h]
      · have hm' : i ∈ xs := by simpa [Ne.symm hx] using hm
        have e1 : (listed.setIfInBounds i true).getD x true = listed.getD x true := by
          simp only [Array.getD_eq_getD_getElem?, Array.getElem?_setIfInBounds, Ne.symm hx, if_false]
        rw [List.filter_cons, List.filter_cons, e1]
        have := ih hnd.2 hm'
        split
        · simp only [List.length_cons]; omega
        · exact this
  exact this _ List.nodup_range (by simpa using hi)

theorem lin_go {ops : Array Oper} (hb : ∀ (i : Nat) (o : Oper), ops[i]? = some o → ∀ e ∈ o.after, Region.binds .any e = true → e.on < i) : ∀ (fuel t : Nat) (listed : Array Bool) (R : List Nat),
    listed.size = ops.size → (∀ i, i < ops.size → (listed.getD i true = true ↔ i ∈ R)) → unl listed ops.size ≤ fuel → Lin ops.size (depO ops) R (Region.linearise.go .any ops fuel t listed []) := by
  intro fuel
  induction fuel with
  | zero =>
    intro t listed R hs hR hu
    simp only [Region.linearise.go, List.reverse_nil]
    intro i hi
    rw [← hR i hi]
    have h0 : (List.range ops.size).filter (fun i => !listed.getD i true) = [] := by
      apply List.length_eq_zero_iff.1; unfold unl at hu; omega
    have := (List.filter_eq_nil_iff.1 h0) i (by simpa using hi)
    simpa using this
  | succ fuel ih =>
    intro t listed R hs hR hu
    simp only [Region.linearise.go]
    generalize hrs : ((List.range ops.size).filter fun i => !listed.getD i true && ((ops[i]?).map (·.after.all fun e => !Region.binds .any e || listed.getD e.on false)).getD false) = rs
    cases hi : rs[t % rs.length]? with
    | none =>
      have hnil : rs = [] := by
        cases rs with
        | nil => rfl
        | cons x xs =>
          have hlt : t % (x :: xs).length < (x :: xs).length := Nat.mod_lt _ (by simp)
          simp at hi
          simp at hlt
          omega
      simp only [List.reverse_nil]
      intro i
      induction i using Nat.strongRecOn with
      | _ i ihi =>
        intro hlt
        by_cases hm : i ∈ R
        · exact hm
        · exfalso
          rw [hnil] at hrs
          have := (List.filter_eq_nil_iff.1 hrs) i (by simpa using hlt)
          apply this
          have hl : listed.getD i true = false := by
            cases e : listed.getD i true with
            | false => rfl
            | true => exact absurd ((hR i hlt).1 e) hm
          rw [hl]
          have ho : ops[i]? = some ops[i] := Array.getElem?_eq_getElem hlt
          rw [ho]
          simp only [Bool.not_false, Bool.true_and, Option.map_some, Option.getD_some]
          rw [Array.all_eq_true_iff_forall_mem]
          intro e he
          cases hbe : Region.binds .any e with
          | false => rfl
          | true =>
          have hlt' := hb i _ ho e he hbe
          have hin := ihi e.on hlt' (by omega)
          have hl' := (hR e.on (by omega)).2 hin
          have : listed.getD e.on false = true := by
            have hs' : e.on < listed.size := by omega
            simp only [Array.getD, hs', dif_pos] at hl' ⊢
            exact hl'
          simp [this]
    | some i =>
      simp only []
      rw [linearise_go_acc, List.reverse_singleton, List.singleton_append]
      have hmem : i ∈ rs := List.mem_of_getElem? hi
      rw [← hrs, List.mem_filter] at hmem
      obtain ⟨h1, h2⟩ := hmem
      have hlt : i < ops.size := by simpa using h1
      simp only [Bool.and_eq_true, Bool.not_eq_true'] at h2
      have ho : ops[i]? = some ops[i] := Array.getElem?_eq_getElem hlt
      refine ⟨hlt, fun hm => ?_, ?_, ?_⟩
      · rw [(hR i hlt).2 hm] at h2; exact absurd h2.1 (by simp)
      · intro d hd
        unfold depO at hd
        rw [ho] at hd
        simp only [Option.map_some, Option.getD_some, depsOf, List.mem_map, List.mem_filter] at hd
        obtain ⟨e, ⟨he, hbd⟩, rfl⟩ := hd
        have h3 := h2.2
        rw [ho] at h3
        simp only [Option.map_some, Option.getD_some, Array.all_eq_true_iff_forall_mem] at h3
        have h4 := h3 e (by simpa using he)
        have hbm : Region.binds .any e = true := hbd
        have hlt' := hb i _ ho e (by simpa using he) hbm
        rw [← hR e.on (by omega)]
        have hs' : e.on < listed.size := by omega
        have h5 : listed.getD e.on false = true := by simpa [hbm] using h4
        simp only [Array.getD, hs', dif_pos] at h5 ⊢
        exact h5
      · refine ih _ _ (i :: R) (by simpa using hs) (fun j hj => ?_) ?_
        · by_cases hji : j = i
          · subst hji
            simp [Array.getD_eq_getD_getElem?, Array.getElem?_setIfInBounds, hs, hj]
          · have e1 : (listed.setIfInBounds i true).getD j true = listed.getD j true := by
              simp only [Array.getD_eq_getD_getElem?, Array.getElem?_setIfInBounds, Ne.symm hji, if_false]
            rw [e1, hR j hj]; simp [hji]
        · have := unl_set hs hlt h2.1
          omega

theorem lin_schedule {ops : Array Oper} {mixed : Bool} (hm : mixed = true) (hb : edgesBack ops.toList 0 = true) (t : Nat) : Lin ops.size (depO ops) [] (Region.schedule mixed ops t) := by
  have hb' : ∀ (i : Nat) (o : Oper), ops[i]? = some o → ∀ e ∈ o.after, Region.binds .any e = true → e.on < i := fun i o ho e he hbd => by
    have := edgesBack_spec ops.toList 0 i o hb (by rw [Array.getElem?_toList]; exact ho) e he hbd
    omega
  have key : ∀ t, Lin ops.size (depO ops) [] (Region.linearise .any ops t) := fun t => by
    refine lin_go hb' _ _ _ _ (by simp) (fun i hi => ?_) ?_
    · simp [Array.getD_eq_getD_getElem?, hi]
    · unfold unl
      exact Nat.le_trans (List.length_filter_le _ _) (by simp)
  unfold Region.schedule
  subst hm
  simp only [Bool.true_or, if_true]
  exact key _

section
variable {P : Program} {G : Gl} {r : Option Nat} {N : Nat}

theorem cCode_draw {code : Code} {l : List Ins} {aft : List (List Nat)} (hc : cCode P N code = some (.draw l aft)) : ∃ id ops, code = .region id ops true ∧ cAll P N ops ops.toList = some l ∧ P.follows .mixedOrders = true ∧ edgesBack ops.toList 0 = true ∧ aft = ops.toList.map depsOf := by
  cases code
  case region id ops d =>
    simp only [cCode] at hc
    obtain ⟨l', h1, hc⟩ := bindS hc
    split at hc
    · rename_i hd
      split at hc
      · rename_i he; cases hc; rw [Bool.and_eq_true] at he; exact ⟨id, ops, by rw [hd], h1, he.1, he.2, rfl⟩
      · cases hc
    · cases hc
  all_goals (first | (cases hc; done) | skip)
  all_goals exfalso
  all_goals simp only [cCode] at hc
  all_goals repeat' (first | (rw [Option.bind_eq_some_iff] at hc; obtain ⟨_, _, hc⟩ := hc) | split at hc)
  all_goals cases hc

def depL (aft : List (List Nat)) (i : Nat) : List Nat := (aft[i]?).getD []

/-- Whatever order it draws. -/
theorem AC.draw {l : List Ins} {aft : List (List Nat)} {Q : EX → Fr → Hp → Prop} {fr : Fr} {H : Hp} (h : ∀ π, Lin l.length (depL aft) [] π → RG P G r N (π.filterMap (l[·]?)) Q fr H) : AC P G r N (.draw l aft) Q fr H := by
  intro code hc n base w Z a hr hf
  obtain ⟨id, ops, rfl, h1, hmix, h2, rfl⟩ := cCode_draw hc
  have hm := cAll_sound _ _ h1
  have hlen : ops.size = l.length := by simpa using congrArg List.length hm
  have hdep : depL (ops.toList.map depsOf) = depO ops := by
    funext i
    unfold depL depO
    rw [List.getElem?_map, Array.getElem?_toList]
  have hget : ∀ i : Nat, (ops[i]?).bind (cIns P N ops) = l[i]? := fun i => by
    have : (ops.toList.map (cIns P N ops))[i]? = (l.map some)[i]? := by rw [hm]
    simp only [List.getElem?_map, Array.getElem?_toList] at this
    cases e : ops[i]? with
    | none =>
      rw [e] at this
      cases e2 : l[i]? with
      | none => rfl
      | some x => rw [e2] at this; cases this
    | some o =>
      rw [e] at this
      cases e2 : l[i]? with
      | none => rw [e2] at this; cases this
      | some x =>
        rw [e2] at this
        simpa using this
  refine wpIn_region_draw fun t => ?_
  have hlin := lin_schedule (mixed := P.follows .mixedOrders) hmix h2 t
  rw [hlen] at hlin
  rw [hdep] at h
  have hlt : ∀ (π R : List Nat), Lin l.length (depO ops) R π → ∀ i ∈ π, i < l.length := by
    intro π
    induction π with
    | nil => intro R _ i hi; simp at hi
    | cons j π ih =>
      intro R hl i hi
      rcases List.mem_cons.1 hi with rfl | hi
      · exact hl.1
      · exact ih _ hl.2.2.2 i hi
  have hmap : ∀ π : List Nat, (∀ i ∈ π, i < l.length) → π.map (fun i => (ops[i]?).bind (cIns P N ops)) = (π.filterMap (l[·]?)).map some := by
    intro π
    induction π with
    | nil => intro _; rfl
    | cons j π ih =>
      intro hh
      have hj := hh j (by simp)
      rw [List.map_cons, ih (fun i hi => hh i (by simp [hi])), hget j]
      rw [List.filterMap_cons, List.getElem?_eq_getElem hj, List.map_cons]
  have hx : Ext w H Z { w with drawn := w.drawn + 1 } H Z := { Ext.refl hr with size := Nat.le_refl _, os := rfl, tape := rfl, output := rfl }
  have hr' : HR G { w with drawn := w.drawn + 1 } H Z := hr.of_ext hx fun _ _ _ => rfl
  exact wpOpsIn_mono (fun _ _ _ hp => hp.before hx) _ _ _ (h _ hlin n base _ Z a ops _ (hmap _ (hlt _ _ hlin)) hr' (hf.ext hr hx))
end
end Go.Run
/- A region that draws its order: values first, effects one by one. -/
namespace Go.Run
open Go Go.RowKit

def slotX : X → List Nat
  | .t n => [n]
  | _ => []

def slotsI (i : Ins) : List Nat := ((opX i.op).flatMap slotX) ++ (match i.g with | some (t, _) => [t] | none => [])

section
variable {P : Program} {G : Gl} {r : Option Nat} {N : Nat}

theorem XV_congr {fr fr' : Fr} {x : X} (h : ∀ t ∈ slotX x, fr t = fr' t) : XV G fr x = XV G fr' x := by
  cases x with
  | t n => exact h n (by simp [slotX])
  | c d => rfl
  | g n => rfl

theorem mapXV_congr {fr fr' : Fr} : ∀ (l : List X), (∀ x ∈ l, XV G fr x = XV G fr' x) → l.map (XV G fr) = l.map (XV G fr')
  | [], _ => rfl
  | x :: l, h => by rw [List.map_cons, List.map_cons, h x (by simp), mapXV_congr l (fun y hy => h y (by simp [hy]))]

theorem optXV_congr {fr fr' : Fr} (l : Option X) (h : ∀ x ∈ l.toList, XV G fr x = XV G fr' x) : l.map (XV G fr) = l.map (XV G fr') := by
  cases l with
  | none => rfl
  | some x => simp only [Option.map_some]; rw [h x (by simp)]

theorem bldD_congr {f f' : X → DV} : ∀ (ps : List (Nat × Nat × X)) (z : List DV), (∀ p ∈ ps, f p.2.2 = f' p.2.2) → bldD f ps z = bldD f' ps z
  | [], z, _ => rfl
  | (a, b, x) :: ps, z, h => by
    have h1 := h (a, b, x) (by simp)
    simp only at h1
    have h2 := fun z' => bldD_congr (f := f) (f' := f') ps z' (fun p hp => h p (by simp [hp]))
    unfold bldD
    simp only [h1, h2]

theorem evP_congr {fr fr' : Fr} {H : Hp} {op : OP} (h : ∀ x ∈ opX op, XV G fr x = XV G fr' x) : evP G fr H op = evP G fr' H op := by
  cases op
  case mkfn fn f c =>
    simp only [opX, List.mem_append] at h
    simp only [evP, mapXV_congr f (fun x hx => h x (.inl hx)), mapXV_congr c (fun x hx => h x (.inr hx))]
  case bld z ps =>
    simp only [evP]
    rw [bldD_congr ps z (fun p hp => h p.2.2 (by simp only [opX]; exact List.mem_map.2 ⟨p, hp, rfl⟩))]
  case slcS x lo hi =>
    simp only [opX, List.mem_append, List.mem_singleton] at h
    simp only [evP, optXV_congr lo (fun y hy => h y (.inl (.inr hy))), optXV_congr hi (fun y hy => h y (.inr hy)), h x (.inl (.inl rfl))]
  case slcA n s x lo hi =>
    simp only [opX, List.mem_append, List.mem_singleton] at h
    simp only [evP, optXV_congr lo (fun y hy => h y (.inl (.inr hy))), optXV_congr hi (fun y hy => h y (.inr hy)), h x (.inl (.inl rfl))]
  case slc s x lo hi mx =>
    simp only [opX, List.mem_append, List.mem_singleton] at h
    simp only [evP, optXV_congr lo (fun y hy => h y (.inl (.inl (.inr hy)))), optXV_congr hi (fun y hy => h y (.inl (.inr hy))), optXV_congr mx (fun y hy => h y (.inr hy)), h x (.inl (.inl (.inl rfl)))]
  all_goals simp only [opX, List.mem_cons, List.not_mem_nil, or_false, forall_eq_or_imp, forall_eq] at h
  all_goals simp only [evP, h]

/-- What an operation yields that is only a value, its guard heeded. -/
def evI (G : Gl) (fr : Fr) (H : Hp) (i : Ins) : Option DV :=
  match i.g with
  | none => evP G fr H i.op
  | some (t, b) => match fr t with
    | .bool x => if x = b then evP G fr H i.op else some (.tup [])
    | .tup _ => some (.tup [])
    | _ => none

theorem evI_congr {fr fr' : Fr} {H : Hp} {i : Ins} (h : ∀ t ∈ slotsI i, fr t = fr' t) : evI G fr H i = evI G fr' H i := by
  have h1 : evP G fr H i.op = evP G fr' H i.op := evP_congr fun x hx => XV_congr fun t ht => h t (by
    unfold slotsI; exact List.mem_append_left _ (List.mem_flatMap.2 ⟨x, hx, ht⟩))
  unfold evI
  cases hg : i.g with
  | none => exact h1
  | some p =>
    obtain ⟨t, b⟩ := p
    have h2 := h t (by unfold slotsI; rw [hg]; simp)
    simp only [h1, h2]

theorem RG.ev {i : Ins} {l : List Ins} {d : DV} {Q : EX → Fr → Hp → Prop} {fr : Fr} {H : Hp} (h : evI G fr H i = some d) (k : RG P G r N l Q (fr.put i.dst d) H) : RG P G r N (i :: l) Q fr H := by
  unfold evI at h
  cases hg : i.g with
  | none => rw [hg] at h; exact RG.step (.inl hg) (ST.pure h k)
  | some p =>
    obtain ⟨t, b⟩ := p
    rw [hg] at h
    simp only at h
    split at h
    · rename_i x hx
      split at h
      · rename_i e; subst e; exact RG.step (.inr ⟨t, x, hg, hx⟩) (ST.pure h k)
      · rename_i e
        cases h
        have : x = !b := by cases x <;> cases b <;> simp_all
        exact RG.gno hg (this ▸ hx) k
    · rename_i hx; cases h; exact RG.gun hg hx k
    · cases h

variable (P G r N) in
/-- What an effect does, wherever it comes. -/
def EF (i : Ins) (K : DV → Hp → Prop) (Kp : DV → Hp → Prop) (fr : Fr) (H : Hp) : Prop :=
  ∀ (fr1 : Fr) (l : List Ins) (Q : EX → Fr → Hp → Prop), (∀ t ∈ slotsI i, fr1 t = fr t) → (∀ d H', K d H' → RG P G r N l Q (fr1.put i.dst d) H') → (∀ d fr' H', Kp d H' → Q (.panic d) fr' H') → RG P G r N (i :: l) Q fr1 H

def Stab (G : Gl) (fr : Fr) (H : Hp) (i : Ins) : Prop := ∃ d, evI G fr H i = some d ∧ ∀ t, i.dst = some t → fr t = d

/-- Slots that the operations write and read. -/
def okD (l : List Ins) (dep : Nat → List Nat) (eff : List Nat) : Prop :=
  (∀ (i j : Nat) (x y : Ins) (t : Nat), l[i]? = some x → l[j]? = some y → x.dst = some t → y.dst = some t → i = j) ∧
  (∀ (i j : Nat) (x y : Ins) (t : Nat), l[i]? = some x → l[j]? = some y → x.dst = some t → t ∈ slotsI y → i ∈ dep j ∨ (j ∈ dep i ∧ i ∈ eff))

variable (P G r N) in
inductive VD (l : List Ins) (dep : Nat → List Nat) (eff : List Nat) (Q : EX → Fr → Hp → Prop) : List Nat → List Nat → Fr → Hp → Prop
  | val {V pend : List Nat} {fr : Fr} {H : Hp} (i : Nat) (x : Ins) {d : DV} (hx : l[i]? = some x) (he : i ∉ eff) (hv : i ∉ V) (hd : ∀ j ∈ dep i, j ∈ V) (hs : evI G fr H x = some d)
      (k : VD l dep eff Q (i :: V) (i :: pend) (fr.put x.dst d) H) : VD l dep eff Q V pend fr H
  | effs {V pend : List Nat} {fr : Fr} {H : Hp} (A : List Nat) (X : Nat → Ins) (K Kp : Nat → DV → Hp → Prop) (hA : A ≠ []) (hx : ∀ i ∈ A, l[i]? = some (X i) ∧ i ∈ eff ∧ i ∉ V ∧ ∀ j ∈ dep i, j ∈ V)
      (ho : ∀ j, j < l.length → j ∉ V → (∀ k ∈ dep j, k ∈ V) → j ∈ A)
      (hs : ∀ i ∈ A, EF P G r N (X i) (K i) (Kp i) fr H) (hp : ∀ i ∈ A, ∀ d fr' H', Kp i d H' → Q (.panic d) fr' H')
      (hst : ∀ i ∈ A, ∀ d H', K i d H' → ∀ j ∈ pend, j ∉ dep i → ∀ y, l[j]? = some y → Stab G (fr.put (X i).dst d) H' y)
      (k : ∀ i ∈ A, ∀ d H', K i d H' → VD l dep eff Q (i :: V) (pend.filter fun j => !(dep i).contains j) (fr.put (X i).dst d) H') : VD l dep eff Q V pend fr H
  | done {V pend : List Nat} {fr : Fr} {H : Hp} (ha : ∀ j, j < l.length → j ∈ V) (hq : Q .normal fr H) : VD l dep eff Q V pend fr H

/-- Where a real order stands against what is already reckoned. -/
structure Beh (l : List Ins) (dep : Nat → List Nat) (eff V pend R : List Nat) (fr fr1 : Fr) (H : Hp) (G : Gl) : Prop where
  sub : ∀ i ∈ R, i ∈ V
  pnd : ∀ i ∈ V, i ∉ R → i ∈ pend
  pe : ∀ i ∈ pend, i ∉ eff
  vd : ∀ i ∈ V, ∀ j ∈ dep i, j ∈ V
  vl : ∀ i ∈ V, i < l.length
  mask : ∀ t, fr1 t = fr t ∨ ∃ (i : Nat) (x : Ins), i ∈ V ∧ i ∉ R ∧ l[i]? = some x ∧ x.dst = some t
  st : ∀ i ∈ V, i ∉ R → ∀ x, l[i]? = some x → Stab G fr H x

theorem Fr.put_ne {fr : Fr} {dst : Option Nat} {d : DV} {t : Nat} (h : dst ≠ some t) : fr.put dst d t = fr t := by
  cases dst with
  | none => rfl
  | some u =>
    have : t ≠ u := fun e => h (by rw [e])
    simp only [Fr.put, Fr.set]
    have : Nat.beq t u = false := by
      cases e : Nat.beq t u with
      | false => rfl
      | true => exact absurd (Nat.eq_of_beq_eq_true e) this
    simp [this]

theorem Fr.put_eq {fr : Fr} {d : DV} {t : Nat} : fr.put (some t) d t = d := by
  simp only [Fr.put, Fr.set]
  simp

section
variable {l : List Ins} {dep : Nat → List Nat} {eff V pend R : List Nat} {fr fr1 : Fr} {H : Hp}

/-- A slot that an operation reads which is about to come up is as reckoned. -/
theorem Beh.slot (hok : okD l dep eff) (hb : Beh l dep eff V pend R fr fr1 H G) {j : Nat} {y : Ins} (hy : l[j]? = some y) (hd : ∀ k ∈ dep j, k ∈ R) : ∀ t ∈ slotsI y, fr1 t = fr t := by
  intro t ht
  rcases hb.mask t with h | ⟨i, x, h1, h2, h3, h4⟩
  · exact h
  · rcases hok.2 i j x y t h3 hy h4 ht with h | ⟨_, h⟩
    · exact absurd (hd i h) h2
    · exact absurd h (hb.pe i (hb.pnd i h1 h2))

theorem Beh.pending (hok : okD l dep eff) (hb : Beh l dep eff V pend R fr fr1 H G) {j : Nat} (hj : j ∈ V) (hjR : j ∉ R) {y : Ins} (hy : l[j]? = some y) (hd : ∀ k ∈ dep j, k ∈ R) :
    ∃ d, evI G fr1 H y = some d ∧ Beh l dep eff V pend (j :: R) fr (fr1.put y.dst d) H G := by
  obtain ⟨d, h1, h2⟩ := hb.st j hj hjR y hy
  refine ⟨d, (evI_congr (hb.slot hok hy hd)).trans h1, ?_⟩
  refine ⟨fun i hi => ?_, fun i hi hr => hb.pnd i hi (fun h => hr (by simp [h])), hb.pe, hb.vd, hb.vl, fun t => ?_, fun i hi hr x hx => hb.st i hi (fun h => hr (by simp [h])) x hx⟩
  · rcases List.mem_cons.1 hi with rfl | hi
    · exact hj
    · exact hb.sub i hi
  · by_cases ht : y.dst = some t
    · left; rw [ht, Fr.put_eq, h2 t ht]
    · rw [Fr.put_ne ht]
      rcases hb.mask t with h | ⟨i, x, k1, k2, k3, k4⟩
      · exact .inl h
      · right
        refine ⟨i, x, k1, fun h => ?_, k3, k4⟩
        rcases List.mem_cons.1 h with rfl | h
        · rw [hy] at k3; cases k3; exact ht k4
        · exact k2 h

theorem VD.sound {Q : EX → Fr → Hp → Prop} (hok : okD l dep eff) (h : VD P G r N l dep eff Q V pend fr H) : ∀ (π R : List Nat) (fr1 : Fr), Lin l.length dep R π → Beh l dep eff V pend R fr fr1 H G →
    RG P G r N (π.filterMap (l[·]?)) Q fr1 H := by
  induction h with
  | @val V pend fr H i x d hx he hv hd hs k ih =>
    intro π R fr1 hl hb
    have hself : ∀ (j : Nat) (y : Ins), l[j]? = some y → j ∈ V ∨ j = i → ∀ t ∈ slotsI y, x.dst ≠ some t := by
      intro j y hy hj t ht e
      rcases hok.2 i j x y t hx hy e ht with h | ⟨_, h⟩
      · rcases hj with hj | hj
        · exact hv (hb.vd j hj i h)
        · subst hj; exact hv (hd j h)
      · exact he h
    refine ih π R fr1 hl ⟨fun j hj => by simp [hb.sub j hj], fun j hj hr => ?_, fun j hj => ?_, fun j hj k' hk => ?_, fun j hj => ?_, fun t => ?_, fun j hj hr y hy => ?_⟩
    · rcases List.mem_cons.1 hj with rfl | hj
      · simp
      · simp [hb.pnd j hj hr]
    · rcases List.mem_cons.1 hj with rfl | hj
      · exact he
      · exact hb.pe j hj
    · rcases List.mem_cons.1 hj with rfl | hj
      · simp [hd _ hk]
      · simp [hb.vd j hj _ hk]
    · rcases List.mem_cons.1 hj with rfl | hj
      · exact (List.getElem?_eq_some_iff.1 hx).1
      · exact hb.vl j hj
    · by_cases ht : x.dst = some t
      · right; exact ⟨i, x, by simp, fun h => hv (hb.sub i h), hx, ht⟩
      · rw [Fr.put_ne ht]
        rcases hb.mask t with h | ⟨j, y, k1, k2, k3, k4⟩
        · exact .inl h
        · exact .inr ⟨j, y, by simp [k1], k2, k3, k4⟩
    · rcases List.mem_cons.1 hj with rfl | hj
      · rw [hx] at hy
        cases hy
        refine ⟨d, ?_, fun t ht => by rw [ht, Fr.put_eq]⟩
        rw [← hs]
        exact evI_congr fun t ht => Fr.put_ne (hself j x hx (.inr rfl) t ht)
      · obtain ⟨d', h1, h2⟩ := hb.st j hj hr y hy
        refine ⟨d', ?_, fun t ht => ?_⟩
        · rw [← h1]
          exact evI_congr fun t ht => Fr.put_ne (hself j y hy (.inl hj) t ht)
        · rw [← h2 t ht]
          refine Fr.put_ne fun e => ?_
          have := hok.1 i j x y t hx hy e ht
          exact hv (this ▸ hj)
  | @effs V pend fr H A X K Kp hA hxa ho hs hp hst k ih =>
    intro π
    induction π with
    | nil =>
      intro R fr1 hl hb
      obtain ⟨i, hi⟩ := List.exists_mem_of_ne_nil A hA
      obtain ⟨hx, _, hv, _⟩ := hxa i hi
      exact absurd (hb.sub i (hl i (List.getElem?_eq_some_iff.1 hx).1)) hv
    | cons j π ihπ =>
      intro R fr1 hl hb
      obtain ⟨hj, hjR, hjd, hl'⟩ := hl
      have hy : l[j]? = some l[j] := List.getElem?_eq_getElem hj
      rw [List.filterMap_cons, hy]
      by_cases hjV : j ∈ V
      · obtain ⟨d, h1, h2⟩ := hb.pending hok hjV hjR hy hjd
        exact RG.ev h1 (ihπ _ _ hl' h2)
      · have hji := ho j hj hjV (fun k hk => hb.sub k (hjd k hk))
        obtain ⟨hx, he, hv, hd⟩ := hxa j hji
        rw [hx] at hy
        have hy := Option.some.inj hy
        rw [← hy]
        refine hs j hji fr1 _ Q (hb.slot hok hx hjd) (fun d H' hK => ?_) (hp j hji)
        refine ih j hji d H' hK π _ _ hl' ⟨fun k hk => ?_, fun k hk hr => ?_, fun k hk => ?_, fun a ha b hb' => ?_, fun a ha => ?_, fun t => ?_, fun a ha hr y hy => ?_⟩
        · rcases List.mem_cons.1 hk with rfl | hk
          · simp
          · simp [hb.sub k hk]
        · have hkR : k ∉ R := fun h => hr (by simp [h])
          rcases List.mem_cons.1 hk with rfl | hk
          · exact absurd (by simp) hr
          · rw [List.mem_filter]
            refine ⟨hb.pnd k hk hkR, ?_⟩
            have : k ∉ dep j := fun h => hkR (hjd k h)
            simpa using this
        · exact hb.pe k (List.mem_filter.1 hk).1
        · rcases List.mem_cons.1 ha with rfl | ha
          · simp [hd b hb']
          · simp [hb.vd a ha b hb']
        · rcases List.mem_cons.1 ha with rfl | ha
          · exact hj
          · exact hb.vl a ha
        · by_cases ht : (X j).dst = some t
          · left; rw [ht, Fr.put_eq, Fr.put_eq]
          · rw [Fr.put_ne ht, Fr.put_ne ht]
            rcases hb.mask t with h | ⟨a, y, k1, k2, k3, k4⟩
            · exact .inl h
            · refine .inr ⟨a, y, by simp [k1], fun h => ?_, k3, k4⟩
              rcases List.mem_cons.1 h with rfl | h
              · exact hv k1
              · exact k2 h
        · have haR : a ∉ R := fun h => hr (by simp [h])
          rcases List.mem_cons.1 ha with rfl | ha
          · exact absurd (by simp) hr
          · exact hst j hji d H' hK a (hb.pnd a ha haR) (fun h => haR (hjd a h)) y hy
  | @done V pend fr H ha hq =>
    intro π
    induction π with
    | nil =>
      intro R fr1 hl hb
      refine RG.nil ?_
      have : fr1 = fr := by
        funext t
        rcases hb.mask t with h | ⟨i, x, h1, h2, h3, h4⟩
        · exact h
        · exact absurd (hl i (List.getElem?_eq_some_iff.1 h3).1) h2
      rw [this]; exact hq
    | cons j π ihπ =>
      intro R fr1 hl hb
      obtain ⟨hj, hjR, hjd, hl'⟩ := hl
      have hy : l[j]? = some l[j] := List.getElem?_eq_getElem hj
      rw [List.filterMap_cons, hy]
      obtain ⟨d, h1, h2⟩ := hb.pending hok (ha j hj) hjR hy hjd
      exact RG.ev h1 (ihπ _ _ hl' h2)
end

def okDb (l : List Ins) (aft : List (List Nat)) (eff : List Nat) : Bool :=
  (List.range l.length).all fun i => (List.range l.length).all fun j => match l[i]?, l[j]? with
    | some x, some y => match x.dst with
      | none => true
      | some t => (!(y.dst == some t) || i == j) && (!((slotsI y).contains t) || (depL aft j).contains i || ((depL aft i).contains j && eff.contains i))
    | _, _ => true

theorem okDb_sound {l : List Ins} {aft : List (List Nat)} {eff : List Nat} (h : okDb l aft eff = true) : okD l (depL aft) eff := by
  unfold okDb at h
  have key : ∀ (i j : Nat) (x y : Ins) (t : Nat), l[i]? = some x → l[j]? = some y → x.dst = some t →
      ((!(y.dst == some t) || i == j) && (!((slotsI y).contains t) || (depL aft j).contains i || ((depL aft i).contains j && eff.contains i))) = true := by
    intro i j x y t h1 h2 h3
    have hi := (List.getElem?_eq_some_iff.1 h1).1
    have hj := (List.getElem?_eq_some_iff.1 h2).1
    have := List.all_eq_true.1 (List.all_eq_true.1 h i (by simpa using hi)) j (by simpa using hj)
    rw [h1, h2] at this
    simp only [h3] at this
    exact this
  refine ⟨fun i j x y t h1 h2 h3 h4 => ?_, fun i j x y t h1 h2 h3 h4 => ?_⟩
  · have := key i j x y t h1 h2 h3
    rw [Bool.and_eq_true] at this
    have := this.1
    rw [h4] at this
    simpa using this
  · have := key i j x y t h1 h2 h3
    rw [Bool.and_eq_true] at this
    have h5 := this.2
    have h6 : (slotsI y).contains t = true := by simpa using h4
    rw [h6] at h5
    simpa using h5

theorem AC.drawV {l : List Ins} {aft : List (List Nat)} (eff : List Nat) {Q : EX → Fr → Hp → Prop} {fr : Fr} {H : Hp} (hok : okDb l aft eff = true) (h : VD P G r N l (depL aft) eff Q [] [] fr H) :
    AC P G r N (.draw l aft) Q fr H :=
  AC.draw fun π hl => h.sound (okDb_sound hok) π [] fr hl ⟨fun i hi => by simp at hi, fun i hi => by simp at hi, fun i hi => by simp at hi, fun i hi => by simp at hi, fun i hi => by simp at hi, fun t => .inl rfl, fun i hi => by simp at hi⟩
end
end Go.Run
/- Steps, as a proof takes them. -/
namespace Go.Run
open Go Go.RowKit

section
variable {P : Program} {G : Gl} {r : Option Nat} {N : Nat} {dst : Option Nat} {l : List Ins} {Q : EX → Fr → Hp → Prop} {fr : Fr} {H : Hp} {x y : X}

/-- What guards an operation is so. -/
def GOk (g : Option (Nat × Bool)) (fr : Fr) : Prop := match g with
  | none => True
  | some (t, b) => fr t = .bool b

variable {g : Option (Nat × Bool)}

theorem GOk.or {fr : Fr} (h : GOk g fr) : g = none ∨ ∃ t b, g = some (t, b) ∧ fr t = .bool b := by
  cases g with
  | none => exact .inl rfl
  | some p => exact .inr ⟨p.1, p.2, rfl, h⟩

theorem RG.p {op : OP} {d : DV} (hg : GOk g fr) (h : evP G fr H op = some d) (k : RG P G r N l Q (fr.put dst d) H) : RG P G r N (⟨dst, g, op⟩ :: l) Q fr H := RG.step hg.or (ST.pure h k)
theorem RG.s {op : OP} (hg : GOk g fr) (h : ST P G r N op dst (RG P G r N l Q) Q fr H) : RG P G r N (⟨dst, g, op⟩ :: l) Q fr H := RG.step hg.or h
theorem RG.m {d : DV} (hg : GOk g fr) (h : XV G fr x = d) (k : RG P G r N l Q (fr.put dst d) H) : RG P G r N (⟨dst, g, .mv x⟩ :: l) Q fr H := RG.p hg (by simp only [evP, h]) k
theorem RG.pkT {c a b : X} {d : DV} (hg : GOk g fr) (hc : XV G fr c = .bool true) (h : XV G fr a = d) (k : RG P G r N l Q (fr.put dst d) H) : RG P G r N (⟨dst, g, .pick c a b⟩ :: l) Q fr H := RG.p hg (by simp only [evP, hc, h]) k
theorem RG.pkF {c a b : X} {d : DV} (hg : GOk g fr) (hc : XV G fr c = .bool false) (h : XV G fr b = d) (k : RG P G r N l Q (fr.put dst d) H) : RG P G r N (⟨dst, g, .pick c a b⟩ :: l) Q fr H := RG.p hg (by simp only [evP, hc, h]) k
/-- A guard that is not so. -/
theorem RG.gn {op : OP} {t : Nat} {b : Bool} (hg : fr t = .bool (!b)) (k : RG P G r N l Q (fr.put dst (.tup [])) H) : RG P G r N (⟨dst, some (t, b), op⟩ :: l) Q fr H := RG.gno rfl hg k
/-- A guard that was itself passed over. -/
theorem RG.gu {op : OP} {t : Nat} {b : Bool} {ds : List DV} (hg : fr t = .tup ds) (k : RG P G r N l Q (fr.put dst (.tup [])) H) : RG P G r N (⟨dst, some (t, b), op⟩ :: l) Q fr H := RG.gun rfl hg k
/-- A guard that may be so or not. -/
theorem RG.gT {op : OP} {t : Nat} {v : Bool} (hg : fr t = .bool v) (hy : v = true → RG P G r N (⟨dst, some (t, true), op⟩ :: l) Q fr H) (hn : v = false → RG P G r N (⟨dst, some (t, true), op⟩ :: l) Q fr H) : RG P G r N (⟨dst, some (t, true), op⟩ :: l) Q fr H := by
  cases v with
  | true => exact hy rfl
  | false => exact hn rfl
theorem RG.gF {op : OP} {t : Nat} {v : Bool} (hg : fr t = .bool v) (hy : v = true → RG P G r N (⟨dst, some (t, false), op⟩ :: l) Q fr H) (hn : v = false → RG P G r N (⟨dst, some (t, false), op⟩ :: l) Q fr H) : RG P G r N (⟨dst, some (t, false), op⟩ :: l) Q fr H := by
  cases v with
  | true => exact hy rfl
  | false => exact hn rfl

theorem RG.addI {a b : Int} (hg : GOk g fr) (hx : XV G fr x = .int .i64 a) (hy : XV G fr y = .int .i64 b) (hr : -9223372036854775808 ≤ a + b ∧ a + b ≤ 9223372036854775807) (k : RG P G r N l Q (fr.put dst (.int .i64 (a + b))) H) :
    RG P G r N (⟨dst, g, .bin .add x y⟩ :: l) Q fr H :=
  RG.p hg (by simp only [evP, hx, hy, binD, binI, if_true, IntWalk.i64_in _ hr]) k

theorem RG.subI {a b : Int} (hg : GOk g fr) (hx : XV G fr x = .int .i64 a) (hy : XV G fr y = .int .i64 b) (hr : -9223372036854775808 ≤ a - b ∧ a - b ≤ 9223372036854775807) (k : RG P G r N l Q (fr.put dst (.int .i64 (a - b))) H) :
    RG P G r N (⟨dst, g, .bin .sub x y⟩ :: l) Q fr H :=
  RG.p hg (by simp only [evP, hx, hy, binD, binI, if_true, IntWalk.i64_in _ hr]) k

theorem RG.addS {a b : List UInt8} (hg : GOk g fr) (hx : XV G fr x = .str a) (hy : XV G fr y = .str b) (hr : a.length + b.length ≤ 9223372036854775807) (k : RG P G r N l Q (fr.put dst (.str (a ++ b))) H) :
    RG P G r N (⟨dst, g, .bin .add x y⟩ :: l) Q fr H :=
  RG.p hg (by simp only [evP, hx, hy, binD, binS, if_pos hr]) k

/-- s[i:] -/
theorem evP_from {s : List UInt8} {i : Int} {lo : X} (hx : XV G fr x = .str s) (hl : XV G fr lo = .int .i64 i) (hr : 0 ≤ i ∧ i ≤ s.length) : evP G fr H (.slcS x (some lo) none) = some (.str (s.drop i.toNat)) := by
  simp only [evP, Option.map_some, Option.map_none, hx, hl, slcSD, bndD, Option.bind_some]
  rw [if_pos ⟨hr.1, hr.2⟩]
  simp

/-- s[:i] -/
theorem evP_upto {s : List UInt8} {i : Int} {hi : X} (hx : XV G fr x = .str s) (hl : XV G fr hi = .int .i64 i) (hr : 0 ≤ i ∧ i ≤ s.length) : evP G fr H (.slcS x none (some hi)) = some (.str (s.take i.toNat)) := by
  simp only [evP, Option.map_some, Option.map_none, hx, hl, slcSD, bndD]
  rw [if_pos ⟨hr.1, hr.2⟩]
  simp

theorem evP_addI {a b : Int} (hx : XV G fr x = .int .i64 a) (hy : XV G fr y = .int .i64 b) (hr : -9223372036854775808 ≤ a + b ∧ a + b ≤ 9223372036854775807) : evP G fr H (.bin .add x y) = some (.int .i64 (a + b)) := by
  simp only [evP, hx, hy, binD, binI, if_true, IntWalk.i64_in _ hr]

theorem evP_at {s : List UInt8} {i : Int} {b : UInt8} (hx : XV G fr x = .str s) (hl : XV G fr y = .int .i64 i) (h0 : 0 ≤ i) (hb : s[i.toNat]? = some b) : evP G fr H (.idx x y) = some (.int .u8 b.toNat) := by
  simp only [evP, hx, hl, idxD, if_pos h0, hb, Option.map_some]

theorem evP_ld {b off sz : Nat} {agg : Bool} {cs : List DV} {ty : TypeId} {d : DV} (hx : XV G fr x = .ptr b off) (hb : H b = some (.cells cs ty)) (hd : partD agg off sz cs = some d) : evP G fr H (.ld agg sz x) = some d := by
  simp only [evP, hx, ldD, hb, hd]

theorem evP_eqptr {neg : Bool} {b o o' : Nat} (hx : XV G fr x = .ptr b o) (hy : XV G fr y = .ptr b o') : evP G fr H (.eqn neg .ptr x y) = some (.bool (bif neg then !(o == o') else o == o')) := by
  simp only [evP, hx, hy, eqD, if_true, Option.map_some]

theorem evP_iadrA {b off len sz : Nat} {k : IntKind} {i : Int} (hx : XV G fr x = .ptr b off) (hy : XV G fr y = .int k i) (hr : 0 ≤ i ∧ i < len) : evP G fr H (.iadrA len sz x y) = some (.ptr b (off + i.toNat * sz)) := by
  simp only [evP, hx, hy, iadrAD]; exact if_pos hr

theorem evP_iadr {cs : List DV} {n sz : Nat} {tag : Option (Nat × Nat)} {k : IntKind} {i : Int} (hx : XV G fr x = .lst cs n sz tag) (hy : XV G fr y = .int k i) (hr : 0 ≤ i ∧ i < n) : evP G fr H (.iadr sz x y) = some (.cptr (cs.drop (i.toNat * sz))) := by
  simp only [evP, hx, hy, iadrD, and_true]; exact if_pos hr

theorem evP_ldc {sz : Nat} {agg : Bool} {cs : List DV} {d : DV} (hx : XV G fr x = .cptr cs) (hd : partD agg 0 sz cs = some d) : evP G fr H (.ld agg sz x) = some d := by
  simp only [evP, hx, ldD, hd]

/-- One element of a row. -/
theorem partD_row {cs : List DV} {sz i : Nat} {ds : List DV} (h : (cs.drop (i * sz)).take sz = ds) (hl : (i + 1) * sz ≤ cs.length) : partD true 0 sz (cs.drop (i * sz)) = some (.agg ds) := by
  have e : (i + 1) * sz = i * sz + sz := by rw [Nat.add_mul, Nat.one_mul]
  simp only [partD, if_true, List.length_drop, List.drop_zero, h]
  rw [if_pos (by omega)]

theorem partD_one {cs : List DV} {i : Nat} {d : DV} (h : cs[i]? = some d) : partD false 0 1 (cs.drop (i * 1)) = some d := by
  simp only [partD, Bool.false_eq_true, if_false, Nat.mul_one, List.getElem?_drop, Nat.add_zero, h]

theorem RG.from {s : List UInt8} {i : Int} {lo : X} (hg : GOk g fr) (hx : XV G fr x = .str s) (hl : XV G fr lo = .int .i64 i) (hr : 0 ≤ i ∧ i ≤ s.length) (k : RG P G r N l Q (fr.put dst (.str (s.drop i.toNat))) H) :
    RG P G r N (⟨dst, g, .slcS x (some lo) none⟩ :: l) Q fr H := RG.p hg (evP_from hx hl hr) k

theorem RG.upto {s : List UInt8} {i : Int} {hi : X} (hg : GOk g fr) (hx : XV G fr x = .str s) (hl : XV G fr hi = .int .i64 i) (hr : 0 ≤ i ∧ i ≤ s.length) (k : RG P G r N l Q (fr.put dst (.str (s.take i.toNat))) H) :
    RG P G r N (⟨dst, g, .slcS x none (some hi)⟩ :: l) Q fr H := RG.p hg (evP_upto hx hl hr) k

theorem RG.at {s : List UInt8} {i : Int} {b : UInt8} (hg : GOk g fr) (hx : XV G fr x = .str s) (hl : XV G fr y = .int .i64 i) (h0 : 0 ≤ i) (hb : s[i.toNat]? = some b) (k : RG P G r N l Q (fr.put dst (.int .u8 b.toNat)) H) :
    RG P G r N (⟨dst, g, .idx x y⟩ :: l) Q fr H := RG.p hg (evP_at hx hl h0 hb) k

theorem RG.ld {b off sz : Nat} {agg : Bool} {cs : List DV} {ty : TypeId} {d : DV} (hg : GOk g fr) (hx : XV G fr x = .ptr b off) (hb : H b = some (.cells cs ty)) (hd : partD agg off sz cs = some d) (k : RG P G r N l Q (fr.put dst d) H) :
    RG P G r N (⟨dst, g, .ld agg sz x⟩ :: l) Q fr H := RG.p hg (evP_ld hx hb hd) k

theorem RG.sto {sz b off : Nat} {d : DV} {cs ys : List DV} {ty : TypeId} (hg : GOk g fr) (hx : XV G fr x = .ptr b off) (hb : H b = some (.cells cs ty))
    (hy : XV G fr y = d) (hc : cellsD d = some ys) (hl : ys.length = sz) (hle : off + sz ≤ cs.length) (k : RG P G r N l Q (fr.put dst .junk) (H.upd b (some (.cells (spliceL off ys cs) ty)))) : RG P G r N (⟨dst, g, .st sz x y⟩ :: l) Q fr H :=
  RG.s hg (ST.st hx hb (by rw [hy]; exact hc) hl hle k)

theorem RG.call {f : FuncId} {xs : List X} {ds : List DV} {Kr Kp : DV → Hp → Prop} (hg : GOk g fr) (hx : xs.map (XV G fr) = ds) (h : CALL P G f ds H Kr Kp) (kr : ∀ d H', Kr d H' → RG P G r N l Q (fr.put dst d) H') (kp : ∀ d H', Kp d H' → Q (.panic d) fr H') :
    RG P G r N (⟨dst, g, .call f xs⟩ :: l) Q fr H :=
  RG.s hg (ST.call ((hx ▸ h).mono kr kp))

/-- A call that returns so, and does not panic. -/
theorem RG.callR {f : FuncId} {xs : List X} {ds : List DV} {d : DV} {H' : Hp} (hg : GOk g fr) (hx : xs.map (XV G fr) = ds) (h : CALL P G f ds H (fun d' h' => d' = d ∧ h' = H') (fun _ _ => False)) (k : RG P G r N l Q (fr.put dst d) H') :
    RG P G r N (⟨dst, g, .call f xs⟩ :: l) Q fr H :=
  RG.call hg hx h (fun _ _ ⟨e1, e2⟩ => by subst e1; subst e2; exact k) (fun _ _ h => h.elim)

theorem RG.callP {f : FuncId} {xs : List X} {ds : List DV} {d : DV} (hg : GOk g fr) (hx : xs.map (XV G fr) = ds) (h : PF P G f ds d) (k : RG P G r N l Q (fr.put dst d) H) :
    RG P G r N (⟨dst, g, .call f xs⟩ :: l) Q fr H := RG.callR hg hx (h H) k

theorem RG.calv {f : FuncId} {xs : List X} {df dc ds : List DV} {Kr Kp : DV → Hp → Prop} (hg : GOk g fr) (hx : XV G fr x = .func (.func f) df dc) (hds : df ++ xs.map (XV G fr) ++ dc = ds) (h : CALL P G f ds H Kr Kp)
    (kr : ∀ d H', Kr d H' → RG P G r N l Q (fr.put dst d) H') (kp : ∀ d H', Kp d H' → Q (.panic d) fr H') : RG P G r N (⟨dst, g, .calv x xs⟩ :: l) Q fr H :=
  RG.s hg (ST.calv hx ((hds ▸ h).mono kr kp))

theorem RG.calvP {f : FuncId} {xs : List X} {df dc ds : List DV} {d : DV} (hg : GOk g fr) (hx : XV G fr x = .func (.func f) df dc) (hds : df ++ xs.map (XV G fr) ++ dc = ds) (h : PF P G f ds d) (k : RG P G r N l Q (fr.put dst d) H) :
    RG P G r N (⟨dst, g, .calv x xs⟩ :: l) Q fr H :=
  RG.calv hg hx hds (h H) (fun _ _ ⟨e1, e2⟩ => by subst e1; subst e2; exact k) (fun _ _ h => h.elim)

theorem RG.box {ty : TypeId} {d : DV} {ys : List DV} (hg : GOk g fr) (hy : XV G fr x = d) (hc : cellsD d = some ys) (k : ∀ b, H b = none → RG P G r N l Q (fr.put dst (.ptr b 0)) (H.upd b (some (.cells ys ty)))) : RG P G r N (⟨dst, g, .box ty x⟩ :: l) Q fr H := RG.s hg (ST.box (by rw [hy]; exact hc) k)

theorem RG.alloc {zs : List DV} {ty : TypeId} (hg : GOk g fr) (k : ∀ b, H b = none → RG P G r N l Q (fr.put dst (.ptr b 0)) (H.upd b (some (.cells zs ty)))) : RG P G r N (⟨dst, g, .alloc zs ty⟩ :: l) Q fr H := RG.s hg (ST.alloc k)

theorem RG.pan {t : TypeId} {dv : DV} (hg : GOk g fr) (hx : XV G fr x = .iface t dv) (h : Q (.panic (.iface t dv)) fr H) : RG P G r N (⟨dst, g, .pan x⟩ :: l) Q fr H := RG.s hg (ST.pan hx h)

theorem EF.of_evP {i : Ins} {d : DV} (h : evI G fr H i = some d) : EF P G r N i (fun d' H' => d' = d ∧ H' = H) (fun _ _ => False) fr H :=
  fun fr1 l Q hs k _ => RG.ev ((evI_congr hs).trans h) (k d H ⟨rfl, rfl⟩)

/-- A call as an effect. -/
theorem EF.call {f : FuncId} {xs : List X} {ds : List DV} {Kr Kp : DV → Hp → Prop} (hx : xs.map (XV G fr) = ds) (h : CALL P G f ds H Kr Kp) : EF P G r N ⟨dst, none, .call f xs⟩ Kr Kp fr H := by
  intro fr1 l Q hs k kp
  have e : xs.map (XV G fr1) = ds := by
    rw [← hx]
    exact mapXV_congr xs fun x hx => XV_congr fun t ht => hs t (by
      unfold slotsI; exact List.mem_append_left _ (List.mem_flatMap.2 ⟨x, hx, ht⟩))
  exact RG.call (g := none) trivial e h k (fun d H' hk => kp d _ H' hk)

def vdOk (dep : Nat → List Nat) (eff V : List Nat) (i : Nat) : Bool := !eff.contains i && !V.contains i && (dep i).all V.contains

theorem VD.pv {is : List Ins} {dep : Nat → List Nat} {eff V pend : List Nat} {op : OP} {d : DV} (i : Nat) (hx : is[i]? = some ⟨dst, none, op⟩) (hok : vdOk dep eff V i = true) (hs : evP G fr H op = some d)
    (k : VD P G r N is dep eff Q (i :: V) (i :: pend) (fr.put dst d) H) : VD P G r N is dep eff Q V pend fr H := by
  unfold vdOk at hok
  simp only [Bool.and_eq_true, Bool.not_eq_true', List.all_eq_true] at hok
  exact VD.val i _ hx (by have := hok.1.1; simpa using this) (by have := hok.1.2; simpa using this) (fun j hj => by have := hok.2 j hj; simpa using this) hs k

theorem VD.pm {is : List Ins} {dep : Nat → List Nat} {eff V pend : List Nat} {d : DV} (i : Nat) (hx : is[i]? = some ⟨dst, none, .mv x⟩) (hok : vdOk dep eff V i = true) (hs : XV G fr x = d)
    (k : VD P G r N is dep eff Q (i :: V) (i :: pend) (fr.put dst d) H) : VD P G r N is dep eff Q V pend fr H := VD.pv i hx hok (by simp only [evP, hs]) k

/-- A guarded value. -/
theorem VD.pg {is : List Ins} {dep : Nat → List Nat} {eff V pend : List Nat} {op : OP} {t : Nat} {b : Bool} {d : DV} (i : Nat) (hx : is[i]? = some ⟨dst, some (t, b), op⟩) (hok : vdOk dep eff V i = true) (hg : fr t = .bool b) (hs : evP G fr H op = some d)
    (k : VD P G r N is dep eff Q (i :: V) (i :: pend) (fr.put dst d) H) : VD P G r N is dep eff Q V pend fr H := by
  unfold vdOk at hok
  simp only [Bool.and_eq_true, Bool.not_eq_true', List.all_eq_true] at hok
  exact VD.val i _ hx (by have := hok.1.1; simpa using this) (by have := hok.1.2; simpa using this) (fun j hj => by have := hok.2 j hj; simpa using this) (by simp only [evI, hg, if_true]; exact hs) k

theorem VD.pn {is : List Ins} {dep : Nat → List Nat} {eff V pend : List Nat} {op : OP} {t : Nat} {b : Bool} (i : Nat) (hx : is[i]? = some ⟨dst, some (t, b), op⟩) (hok : vdOk dep eff V i = true) (hg : fr t = .bool (!b))
    (k : VD P G r N is dep eff Q (i :: V) (i :: pend) (fr.put dst (.tup [])) H) : VD P G r N is dep eff Q V pend fr H := by
  unfold vdOk at hok
  simp only [Bool.and_eq_true, Bool.not_eq_true', List.all_eq_true] at hok
  exact VD.val i _ hx (by have := hok.1.1; simpa using this) (by have := hok.1.2; simpa using this) (fun j hj => by have := hok.2 j hj; simpa using this) (by simp only [evI, hg]; cases b <;> rfl) k

def vdOne (n : Nat) (dep : Nat → List Nat) (eff V : List Nat) (i : Nat) : Bool :=
  eff.contains i && !V.contains i && (dep i).all V.contains && (List.range n).all fun j => j == i || V.contains j || !(dep j).all V.contains

theorem VD.pe {is : List Ins} {dep : Nat → List Nat} {eff V pend : List Nat} {op : OP} {K Kp : DV → Hp → Prop} (i : Nat) (hx : is[i]? = some ⟨dst, none, op⟩) (hok : vdOne is.length dep eff V i = true) (hs : EF P G r N ⟨dst, none, op⟩ K Kp fr H)
    (hp : ∀ d fr' H', Kp d H' → Q (.panic d) fr' H')
    (k : ∀ d H', K d H' → (∀ j ∈ pend.filter fun j => !(dep i).contains j, ∀ y, is[j]? = some y → Stab G (fr.put dst d) H' y) ∧ VD P G r N is dep eff Q (i :: V) (pend.filter fun j => !(dep i).contains j) (fr.put dst d) H') : VD P G r N is dep eff Q V pend fr H := by
  unfold vdOne at hok
  simp only [Bool.and_eq_true, Bool.not_eq_true', List.all_eq_true, Bool.or_eq_true] at hok
  obtain ⟨⟨⟨h1, h2⟩, h3⟩, h4⟩ := hok
  refine VD.effs [i] (fun _ => ⟨dst, none, op⟩) (fun _ => K) (fun _ => Kp) (by simp) (fun a ha => ?_) (fun j hj hjV hd => ?_) (fun a ha => hs) (fun a ha => hp) (fun a ha d H' hK j hj hji y hy => (k d H' hK).1 j ?_ y hy) (fun a ha d H' hK => ?_)
  · rw [List.mem_singleton.1 ha]
    exact ⟨hx, by simpa using h1, by simpa using h2, fun j hj => by have := h3 j hj; simpa using this⟩
  rotate_left 2
  · rw [List.mem_singleton.1 ha]
    exact (k d H' hK).2
  · rw [List.mem_singleton]
    rcases h4 j (by simpa using hj) with (h | h) | h
    · simpa using h
    · exact absurd (by simpa using h) hjV
    · have e : (dep j).all V.contains = true := List.all_eq_true.2 fun k hk => by simpa using hd k hk
      rw [e] at h; cases h
  · rw [List.mem_singleton.1 ha] at hji; rw [List.mem_filter]; exact ⟨hj, by simpa using hji⟩

theorem VD.pd {is : List Ins} {dep : Nat → List Nat} {eff V pend : List Nat} (ha : (List.range is.length).all (fun j => V.contains j) = true) (hq : Q .normal fr H) : VD P G r N is dep eff Q V pend fr H :=
  VD.done (fun j hj => by have := List.all_eq_true.1 ha j (by simpa using hj); simpa using this) hq

theorem stabAll_nil {is : List Ins} {H' : Hp} {fr' : Fr} : ∀ j ∈ ([] : List Nat), ∀ y, is[j]? = some y → Stab G fr' H' y := fun j hj => by simp at hj

theorem stabAll_cons {is : List Ins} {H' : Hp} {fr' : Fr} {j : Nat} {js : List Nat} {y : Ins} (hy : is[j]? = some y) (h : Stab G fr' H' y) (hs : ∀ j ∈ js, ∀ y, is[j]? = some y → Stab G fr' H' y) : ∀ k ∈ (j :: js), ∀ y, is[k]? = some y → Stab G fr' H' y := by
  intro k hk y' hy'
  rcases List.mem_cons.1 hk with rfl | hk
  · rw [hy] at hy'; cases hy'; exact h
  · exact hs k hk y' hy'

theorem Stab.of {op : OP} {t : Nat} {d : DV} (h : evP G fr H op = some d) (ht : fr t = d) : Stab G fr H ⟨some t, none, op⟩ := ⟨d, h, fun u hu => by cases hu; exact ht⟩
theorem Stab.ld {b off sz t : Nat} {agg : Bool} {cs : List DV} {ty : TypeId} {d : DV} (hx : XV G fr x = .ptr b off) (hb : H b = some (.cells cs ty)) (hd : partD agg off sz cs = some d) (ht : fr t = d) : Stab G fr H ⟨some t, none, .ld agg sz x⟩ := Stab.of (evP_ld hx hb hd) ht

theorem Hp.upd_same {H : Hp} {b : Nat} {o : Option DO} : H.upd b o b = o := by simp [Hp.upd]
theorem Hp.upd_ne {H : Hp} {b k : Nat} {o : Option DO} (h : k ≠ b) : H.upd b o k = H k := by simp [Hp.upd, h]

/-- Left by a return (or at its end), with a result and a heap view that are known. -/
theorem fin {rs : List RV} {Kr : DV → Hp → Prop} {ds : List DV} (h1 : evRes H fr rs = some ds) (h2 : Kr (tupD ds) H) : ∃ l d H', evRes H fr rs = some l ∧ Cv H H' (tupD l) d ∧ Kr d H' :=
  ⟨ds, _, H, h1, Cv.of (DLe.refl _) (SubH.refl H), h2⟩

/-- .. and the result is told by less. -/
theorem finL {rs : List RV} {Kr : DV → Hp → Prop} {ds : List DV} {d : DV} {H' : Hp} (h1 : evRes H fr rs = some ds) (hd : DLe (tupD ds) d) (hs : SubH H' H) (h2 : Kr d H') : ∃ l d H', evRes H fr rs = some l ∧ Cv H H' (tupD l) d ∧ Kr d H' :=
  ⟨ds, d, H', h1, Cv.of hd hs, h2⟩

/-- .. some blocks are no longer told. -/
theorem finD {rs : List RV} {Kr : DV → Hp → Prop} {ds : List DV} {H' : Hp} (h1 : evRes H fr rs = some ds) (hs : SubH H' H) (h2 : Kr (tupD ds) H') : ∃ l d H', evRes H fr rs = some l ∧ Cv H H' (tupD l) d ∧ Kr d H' :=
  ⟨ds, _, H', h1, Cv.of (DLe.refl _) hs, h2⟩

theorem Hp.upd_id {H : Hp} {b : Nat} {o : Option DO} (h : H b = o) : H.upd b o = H := by
  funext k
  by_cases e : k = b
  · subst e; rw [Hp.upd_same, h]
  · rw [Hp.upd_ne e]

theorem Hp.upd_upd {H : Hp} {b : Nat} {o o' : Option DO} : (H.upd b o).upd b o' = H.upd b o' := by
  funext k
  by_cases e : k = b
  · subst e; rw [Hp.upd_same, Hp.upd_same]
  · rw [Hp.upd_ne e, Hp.upd_ne e, Hp.upd_ne e]

theorem Hp.upd_comm {H : Hp} {b c : Nat} {o o' : Option DO} (h : b ≠ c) : (H.upd b o).upd c o' = (H.upd c o').upd b o := by
  funext k
  by_cases e : k = b
  · subst e; rw [Hp.upd_ne h, Hp.upd_same, Hp.upd_same]
  · by_cases e' : k = c
    · subst e'; rw [Hp.upd_same, Hp.upd_ne e, Hp.upd_same]
    · rw [Hp.upd_ne e', Hp.upd_ne e, Hp.upd_ne e, Hp.upd_ne e']

/-- A block that the call made is no longer told. -/
theorem SubH.fresh {H : Hp} {b : Nat} {o : Option DO} (h : H b = none) : SubH H (H.upd b o) := by
  intro k o' hk
  have : k ≠ b := fun e => by subst e; rw [h] at hk; cases hk
  rw [Hp.upd_ne this]; exact hk
theorem SubH.trans {A B C : Hp} (h : SubH A B) (k : SubH B C) : SubH A C := fun b o e => k b o (h b o e)
theorem SubH.under {A B : Hp} (h : SubH A B) {b : Nat} {o : Option DO} (hb : B b = none) : SubH A (B.upd b o) := h.trans (SubH.fresh hb)
end
end Go.Run
